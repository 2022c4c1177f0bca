/-
  Contract of shallotref18.body: what stands behind the heads. Conditions: the place lies within the bytes; the sizes that slices can have.
-/
import Derived.Test.YtkmcjjoicpgjfaaDoorRfSend
import Derived.Test.YtkmcjjoicpgjfaaDoorDec
import Derived.Deep.DeepCutAuto
namespace Go.Proofs.YtkmcjjoicpgjfaaDoor
open Go Go.RowKit Go.Sh

/-- what body's own three blocks hold: the heads, the program that is being made, the result -/
structure BS (w0 w : World) (h : Nat) (hd pc : List Value) : Prop where
  hh : w.heap[h]? = some (.cells hd.toArray 97 (0, 0))
  pp : w.heap[h + 1]? = some (.cells pc.toArray 30 (0, 0))
  rr : w.heap[h + 2]? = some (.cells #[.slice none 0 0, .slice none 0 0, .slice none 0 0, .slice none 0 0, .int .i64 0, .int .i64 0, .int .i64 0, .int .i64 0] 30 (0, 0))
  bl : Below h w0 w
section
variable {w0 w w' : World} {h : Nat} {hd pc : List Value}
theorem BS.size (b : BS w0 w h hd pc) : h + 3 ≤ w.heap.size := (Array.getElem?_eq_some_iff.1 b.rr).1
theorem BS.later (b : BS w0 w h hd pc) (hb : Below (h + 3) w w') : BS w0 w' h hd pc := ⟨(hb.block _ (by omega)).trans b.hh, (hb.block _ (by omega)).trans b.pp, (hb.block _ (by omega)).trans b.rr, b.bl.trans (hb.mono (by omega))⟩
theorem BS.put (b : BS w0 w h hd pc) (k : Nat) (v : Value) : BS w0 (w.setCell ⟨h + 1, k, none⟩ v) h hd (pc.set k v) := ⟨(far_blk (by omega)).trans b.hh, set_blk b.pp, (far_blk (by omega)).trans b.rr, b.bl.setCell (p := ⟨h + 1, k, none⟩) (by show h ≤ h + 1; omega) v⟩
theorem BS.cell (b : BS w0 w h hd pc) {k : Nat} {v : Value} (hv : pc[k]? = some v) : w.cell? ⟨h + 1, k, none⟩ = some v := by rw [blk_cell b.pp, List.getElem?_toArray]; exact hv
theorem BS.free (b : BS w0 w h hd pc) (k : Nat) : w.frozen? ⟨h + 1, k, none⟩ = false := frozen_of_row _ _ _ _ _ b.pp
theorem BS.head (b : BS w0 w h hd pc) {k : Nat} {v : Value} (hv : hd[k]? = some v) : w.cell? ⟨h, k, none⟩ = some v := by rw [blk_cell b.hh, List.getElem?_toArray]; exact hv
end
/-- the heads and the tail of the program's cells stay letters -/
def hds (n0 n1 n2 n3 : Nat) (v4 v5 v6 : Int) : List Value := [.int .i64 (n0 : Int), .int .i64 (n1 : Int), .int .i64 (n2 : Int), .int .i64 (n3 : Int), .int .i64 v4, .int .i64 v5, .int .i64 v6]
def okb (t : Sx) : Bool := t.isSome
theorem AtS.okb {l : List UInt8} {t : Sx} {pl ok : Value} (h : AtS l t pl ok) : ok = .bool (okb t) := by
  rcases h with ⟨rfl, _, rfl⟩ | ⟨k, _, rfl, _, rfl⟩ <;> rfl
def bdP (n0 n1 n2 n3 : Nat) (s : Sx) (v st bl fu : Int) : Prg × Sx :=
  (⟨(rep fI n0 s).1, (rep fM n1 (rep fI n0 s).2).1, (rep fR n2 (rep fM n1 (rep fI n0 s).2).2).1, (rep fS n3 (rep fR n2 (rep fM n1 (rep fI n0 s).2).2).2).1, v, st, bl, fu⟩, (rep fS n3 (rep fR n2 (rep fM n1 (rep fI n0 s).2).2).2).2)
def rbPost (w : World) (l : List UInt8) (r : Prg × Sx) (e : Ending) (w' : World) : Prop :=
  ∃ d vm pl ok, e = .returned (.tuple #[.agg (pcs d r.1), pl, ok]) ∧ AtS l r.2 pl ok ∧ PO w' w.heap.size d r.1 vm ∧ Below w.heap.size w w'
theorem fI_short (r : List UInt8) (h : ¬ 1 ≤ r.length) : fI (some r) = (⟨UInt8.ofNat 0, 0, 0⟩, none) := by
  unfold fI
  rw [nS_no h, nV_no h]
  rfl
set_option maxRecDepth 100000 in
set_option maxHeartbeats 32000000 in
theorem rbody_any (A : Option Addr) (n c : Nat) (l : List UInt8) (a : Nat) (n0 n1 n2 n3 : Nat) (v4 v5 v6 vv vk vb vf : Int) (w : World) (B : Nat) (hl : RB w B A n l) (hB : B ≤ w.heap.size) (hn : n ≤ 140737488355328) (hc : n ≤ c) (ha : a ≤ l.length)
    (hn0 : n0 ≤ 65535) (hn1 : n1 ≤ 65535) (hn2 : n2 ≤ 65535) (hn3 : n3 ≤ 65535) :
    Calls Tryd.prog 49 #[.slice A n c, .int .i64 (a : Int), .agg #[.int .i64 (n0 : Int), .int .i64 (n1 : Int), .int .i64 (n2 : Int), .int .i64 (n3 : Int), .int .i64 v4, .int .i64 v5, .int .i64 v6], .agg #[.slice none 0 0, .slice none 0 0, .slice none 0 0, .slice none 0 0, .int .i64 vv, .int .i64 vk, .int .i64 vb, .int .i64 vf]] w (rbPost w l (bdP n0 n1 n2 n3 (some (l.drop a)) vv vk vb vf)) := by
  have hzp : ∀ W : World, (zeroValue 30).run Tryd.prog W = .ok (.agg #[.slice none 0 0, .slice none 0 0, .slice none 0 0, .slice none 0 0, .int .i64 0, .int .i64 0, .int .i64 0, .int .i64 0]) W := fun _ => by kernel_rfl
  have hzi : ∀ W : World, (zeroValue 33).run Tryd.prog W = .ok (.agg #[.int .u8 0, .int .i64 0, .int .i64 0]) W := fun _ => by kernel_rfl
  have hzq : ∀ W : World, (zeroValue 43).run Tryd.prog W = .ok (.agg #[.int .i64 0, .slice none 0 0, .int .i64 0]) W := fun _ => by kernel_rfl
  obtain ⟨g, hg⟩ : ∃ g, w.heap.size = g := ⟨_, rfl⟩
  have hz1 : (w.alloc (.cells #[.int .i64 (n0 : Int), .int .i64 (n1 : Int), .int .i64 (n2 : Int), .int .i64 (n3 : Int), .int .i64 v4, .int .i64 v5, .int .i64 v6] 97)).heap.size = g + 1 := by simp [hg]
  have hz2 : ((w.alloc (.cells #[.int .i64 (n0 : Int), .int .i64 (n1 : Int), .int .i64 (n2 : Int), .int .i64 (n3 : Int), .int .i64 v4, .int .i64 v5, .int .i64 v6] 97)).alloc (.cells #[.slice none 0 0, .slice none 0 0, .slice none 0 0, .slice none 0 0, .int .i64 vv, .int .i64 vk, .int .i64 vb, .int .i64 vf] 30)).heap.size = g + 2 := by simp [hg]
  have hbs : BS w (((w.alloc (.cells #[.int .i64 (n0 : Int), .int .i64 (n1 : Int), .int .i64 (n2 : Int), .int .i64 (n3 : Int), .int .i64 v4, .int .i64 v5, .int .i64 v6] 97)).alloc (.cells #[.slice none 0 0, .slice none 0 0, .slice none 0 0, .slice none 0 0, .int .i64 vv, .int .i64 vk, .int .i64 vb, .int .i64 vf] 30)).alloc (.cells #[.slice none 0 0, .slice none 0 0, .slice none 0 0, .slice none 0 0, .int .i64 0, .int .i64 0, .int .i64 0, .int .i64 0] 30)) g (hds n0 n1 n2 n3 v4 v5 v6) [.slice none 0 0, .slice none 0 0, .slice none 0 0, .slice none 0 0, .int .i64 vv, .int .i64 vk, .int .i64 vb, .int .i64 vf] := by
    have h1 := heap_alloc_new w (.cells #[.int .i64 (n0 : Int), .int .i64 (n1 : Int), .int .i64 (n2 : Int), .int .i64 (n3 : Int), .int .i64 v4, .int .i64 v5, .int .i64 v6] 97)
    have h2 := heap_alloc_new (w.alloc (.cells #[.int .i64 (n0 : Int), .int .i64 (n1 : Int), .int .i64 (n2 : Int), .int .i64 (n3 : Int), .int .i64 v4, .int .i64 v5, .int .i64 v6] 97)) (.cells #[.slice none 0 0, .slice none 0 0, .slice none 0 0, .slice none 0 0, .int .i64 vv, .int .i64 vk, .int .i64 vb, .int .i64 vf] 30)
    have h3 := heap_alloc_new ((w.alloc (.cells #[.int .i64 (n0 : Int), .int .i64 (n1 : Int), .int .i64 (n2 : Int), .int .i64 (n3 : Int), .int .i64 v4, .int .i64 v5, .int .i64 v6] 97)).alloc (.cells #[.slice none 0 0, .slice none 0 0, .slice none 0 0, .slice none 0 0, .int .i64 vv, .int .i64 vk, .int .i64 vb, .int .i64 vf] 30)) (.cells #[.slice none 0 0, .slice none 0 0, .slice none 0 0, .slice none 0 0, .int .i64 0, .int .i64 0, .int .i64 0, .int .i64 0] 30)
    have b1 := (Below.refl w.heap.size w).alloc (Nat.le_refl _) (.cells #[.int .i64 (n0 : Int), .int .i64 (n1 : Int), .int .i64 (n2 : Int), .int .i64 (n3 : Int), .int .i64 v4, .int .i64 v5, .int .i64 v6] 97)
    have b2 := (Below.refl (g + 1) (w.alloc (.cells #[.int .i64 (n0 : Int), .int .i64 (n1 : Int), .int .i64 (n2 : Int), .int .i64 (n3 : Int), .int .i64 v4, .int .i64 v5, .int .i64 v6] 97))).alloc (by omega) (.cells #[.slice none 0 0, .slice none 0 0, .slice none 0 0, .slice none 0 0, .int .i64 vv, .int .i64 vk, .int .i64 vb, .int .i64 vf] 30)
    have b3 := (Below.refl (g + 2) ((w.alloc (.cells #[.int .i64 (n0 : Int), .int .i64 (n1 : Int), .int .i64 (n2 : Int), .int .i64 (n3 : Int), .int .i64 v4, .int .i64 v5, .int .i64 v6] 97)).alloc (.cells #[.slice none 0 0, .slice none 0 0, .slice none 0 0, .slice none 0 0, .int .i64 vv, .int .i64 vk, .int .i64 vb, .int .i64 vf] 30))).alloc (by omega) (.cells #[.slice none 0 0, .slice none 0 0, .slice none 0 0, .slice none 0 0, .int .i64 0, .int .i64 0, .int .i64 0, .int .i64 0] 30)
    rw [hg] at h1 b1
    rw [hz1] at h2
    rw [hz2] at h3
    exact ⟨(b3.block _ (by omega)).trans ((b2.block _ (by omega)).trans h1), (b3.block _ (by omega)).trans h2, h3, b1.trans ((b2.mono (by omega)).trans (b3.mono (by omega)))⟩
  have HBS := Lib.hid hbs
  have HR := Lib.hid (fun (W : World) (h : Below g w W) => hl.below (h.mono (show B ≤ g by omega)))
  obtain ⟨s0, hs0⟩ : ∃ s0 : Sx, some (l.drop a) = s0 := ⟨_, rfl⟩
  have HAT := Lib.hid (show AtS l s0 (.int .i64 (a : Int)) (.bool true) by rw [← hs0]; exact AtS.yes ha)
  have HGW := Lib.hid hg
  rw [hs0]
  clear hl hbs hs0 hz1 hz2
  go_enter Tryd.func49, Tryd.ntmps49
  go_wp2_with fail
  generalize ((w.alloc (.cells #[.int .i64 (n0 : Int), .int .i64 (n1 : Int), .int .i64 (n2 : Int), .int .i64 (n3 : Int), .int .i64 v4, .int .i64 v5, .int .i64 v6] 97)).alloc (.cells #[.slice none 0 0, .slice none 0 0, .slice none 0 0, .slice none 0 0, .int .i64 vv, .int .i64 vk, .int .i64 vb, .int .i64 vf] 30)).alloc (.cells #[.slice none 0 0, .slice none 0 0, .slice none 0 0, .slice none 0 0, .int .i64 0, .int .i64 0, .int .i64 0, .int .i64 0] 30) = w3 at *
  clear hg
  go_loopw [1, 11, 12, 13, 14] (fun pl ok i _ _ wr => ∃ (j : Nat) (A' : Option Addr) (c' : Nat) (ys : List Ins) (t' : Sx), j ≤ n0 ∧ i = .int .i64 (j : Int) ∧ ys.length = j ∧ BS w wr g (hds n0 n1 n2 n3 v4 v5 v6) [.slice A' j c', .slice none 0 0, .slice none 0 0, .slice none 0 0, .int .i64 vv, .int .i64 vk, .int .i64 vb, .int .i64 vf] ∧ wr.ownsRow (g + 3) 33 3 (.slice A' j c') j (ys.map Ins.cells).flatten ∧ AtS l t' pl ok ∧ rep fI n0 s0 = (ys ++ (rep fI (n0 - j) t').1, (rep fI (n0 - j) t').2)) (fun _ _ i _ _ _ => n0 - (intOf i).toNat)
  case atStart => exact ⟨0, none, 0, [], s0, by omega, rfl, rfl, HBS.out, World.ownsRow_nil _ _ _ _, HAT.out, rep_start⟩
  case round =>
    obtain ⟨j, A', c', ys, t', hj, rfl, hyl, hbs, ho, hat, hrep⟩ := hrel
    have HYL := Lib.hid hyl
    have HB1 := Lib.hid hbs
    have HO := Lib.hid ho
    have HA := Lib.hid hat
    have HQ := Lib.hid hrep
    have hsz := hbs.size
    have e0 : wr.cell? ⟨g, 0, none⟩ = some (.int .i64 (n0 : Int)) := hbs.head rfl
    have hok := hat.okb
    subst hok
    clear hyl hbs ho hat hrep HBS HAT
    go_upto_region 3 with fail
    go_cut [28] (fun v wx => v = .bool (decide (j < n0 ∧ okb t' = true)) ∧ wx = wr)
    case first =>
      by_cases hlt : j < n0
      · have dj : (j : Int) < (n0 : Int) := by omega
        go_wp2_with fail
        go_meet
        exact ⟨congrArg Value.bool (by simp [hlt]), rfl⟩
      · have dj : ¬ (j : Int) < (n0 : Int) := by omega
        go_wp2_with fail
        go_meet
        exact ⟨congrArg Value.bool (by simp [hlt]), rfl⟩
    case rest =>
      obtain ⟨rfl, rfl⟩ := hcut
      by_cases hgo : j < n0 ∧ okb t' = true
      case pos =>
        have hgb : decide (j < n0 ∧ okb t' = true) = true := decide_eq_true hgo
        rw [hgb]
        obtain ⟨hlt, hkb⟩ := hgo
        obtain ⟨k, hk, rfl, rfl⟩ : ∃ k : Nat, k ≤ l.length ∧ t' = some (l.drop k) ∧ u1 = .int .i64 (k : Int) := by
          rcases HA.out with ⟨rfl, _, _⟩ | ⟨k, h1, h2, h3, _⟩
          · cases hkb
          · exact ⟨k, h1, h2, h3⟩
        clear hgb hkb
        have HQ2 := Lib.hid (rep_go HQ.out hlt rfl)
        have HZ0 := Lib.hid (ZB.new wc 33 [.int .u8 0, .int .i64 0, .int .i64 0])
        have HRz := Lib.hid (fun (W : World) (h : Below wc.heap.size wc W) => HR.out W (HB1.out.bl.trans (h.mono (by omega))))
        have hfin : ∀ (W : World) (o : Nat) (av bv : Int) (t4 : Sx), o < 256 → fI (some (l.drop k)) = (⟨UInt8.ofNat o, av, bv⟩, t4) → Below wc.heap.size wc W →
            W.cell? ⟨g + 1, 0, none⟩ = some (.slice A' j c') ∧ Go.RowKit.Hid (W.ownsRow (g + 3) 33 3 (.slice A' j c') j (ys.map Ins.cells).flatten) ∧ g + 3 ≤ W.heap.size ∧
            ∀ (A9 : Option Addr) (c9 : Nat) (w9 : World), w9.ownsRow (g + 3) 33 3 (.slice A9 (j + 1) c9) (j + 1) ((ys.map Ins.cells).flatten ++ [.int .u8 (o : Int), .int .i64 av, .int .i64 bv]) → (W.alloc (.cells #[.int .u8 (o : Int), .int .i64 av, .int .i64 bv] 33)).grownBy w9 (Value.slice A' j c').ownBlock →
            w9.cell? ⟨g + 1, 0, none⟩ = some (.slice A' j c') ∧ w9.frozen? ⟨g + 1, 0, none⟩ = false ∧ ∃ ys' : List Ins, ys'.length = j + 1 ∧ BS w (w9.setCell ⟨g + 1, 0, none⟩ (.slice A9 (j + 1) c9)) g (hds n0 n1 n2 n3 v4 v5 v6) [.slice A9 (j + 1) c9, .slice none 0 0, .slice none 0 0, .slice none 0 0, .int .i64 vv, .int .i64 vk, .int .i64 vb, .int .i64 vf] ∧ (w9.setCell ⟨g + 1, 0, none⟩ (.slice A9 (j + 1) c9)).ownsRow (g + 3) 33 3 (.slice A9 (j + 1) c9) (j + 1) (ys'.map Ins.cells).flatten ∧ rep fI n0 s0 = (ys' ++ (rep fI (n0 - (j + 1)) t4).1, (rep fI (n0 - (j + 1)) t4).2) := by
          intro W o av bv t4 lo hft hbW
          have hbsW := HB1.out.later (hbW.mono hsz)
          refine ⟨hbsW.cell rfl, Lib.hid (own_later HO.out hbW), hbsW.size, ?_⟩
          intro A9 c9 w9 hown hg
          have hb9 : Below (g + 3) W w9 := ((Below.refl (g + 3) W).alloc hbsW.size _).grown hg (by have := hbsW.size; simp; omega) (own_drop HO.out)
          have hbs9 := hbsW.later hb9
          have hQ := HQ2.out
          rw [hft] at hQ
          refine ⟨hbs9.cell rfl, hbs9.free 0, ys ++ [⟨UInt8.ofNat o, av, bv⟩], by rw [List.length_append, HYL.out]; rfl, hbs9.put 0 (.slice A9 (j + 1) c9), ?_, hQ⟩
          rw [List.map_append, List.flatten_append]
          show World.ownsRow _ _ _ _ _ _ (_ ++ [.int .u8 ((UInt8.ofNat o).toNat : Int), .int .i64 av, .int .i64 bv])
          rw [show ((UInt8.ofNat o).toNat : Int) = (o : Int) by simp; omega]
          exact own_set hown (by omega)
        have HF := Lib.hid hfin
        clear hfin HQ HQ2 e0
        by_cases g1 : 1 ≤ (l.drop k).length
        case neg =>
          have HG1 := Lib.hid (fun W h => rget_no A n c l (k) 1 1 rfl W B (HRz.out W h) hn hk g1)
          have HFT := Lib.hid (show fI (some (l.drop k)) = (⟨UInt8.ofNat 0, 0, 0⟩, none) by unfold fI; rw [nS_no g1, nV_no g1]; rfl)
          clear g1
          go_wp2_with fail
          generalize wc.alloc (.cells #[.int .u8 0, .int .i64 0, .int .i64 0] 33) = wz at *
          refine (HG1.out wz HZ0.out.2).mono ?_
          rintro e w1 ⟨rfl, rfl⟩
          have HZ := Lib.hid HZ0.out
          have c0 : wz.cell? ⟨wc.heap.size, 0, none⟩ = some (.int .u8 0) := HZ.out.cell rfl
          have f0 : wz.frozen? ⟨wc.heap.size, 0, none⟩ = false := HZ.out.free 0
          clear HZ
          have HZ := Lib.hid (HZ0.out.put 0 (.int .u8 0))
          obtain ⟨p0, HO9, hz9, hF9⟩ := HF.out (wz.setCell ⟨wc.heap.size, 0, none⟩ (.int .u8 0)) 0 0 0 none (by omega) HFT.out HZ.out.2
          have HF9 := Lib.hid hF9
          have HL9 := Lib.hid (Reads.lit (wz.setCell ⟨wc.heap.size, 0, none⟩ (.int .u8 0)) 33 [.int .u8 0, .int .i64 0, .int .i64 0] 1 3 rfl wz.heap.size (World.size_setCell ..))
          have HV9 := Lib.hid (HO9.out.alloc (.cells #[.int .u8 0, .int .i64 0, .int .i64 0] 33))
          have hzw : (wz.setCell ⟨wc.heap.size, 0, none⟩ (.int .u8 0)).heap.size = wz.heap.size := World.size_setCell ..
          have l0 : (wz.setCell ⟨wc.heap.size, 0, none⟩ (.int .u8 0)).cell? ⟨wc.heap.size, 0, none⟩ = some (.int .u8 0) := HZ.out.cell rfl
          have l1 : (wz.setCell ⟨wc.heap.size, 0, none⟩ (.int .u8 0)).cell? ⟨wc.heap.size, 1, none⟩ = some (.int .i64 0) := HZ.out.cell rfl
          have l2 : (wz.setCell ⟨wc.heap.size, 0, none⟩ (.int .u8 0)).cell? ⟨wc.heap.size, 2, none⟩ = some (.int .i64 0) := HZ.out.cell rfl
          clear hF9
          rw [hzw] at hz9
          clear hzw
          go_wp2_with (at_builtin; refine wl_app TIn (by rfl) (.tmp 67) (.tmp 69) (by rfl) (.slice A' j c') (by rfl) (some ⟨wz.heap.size, 0, none⟩) 1 1 (by rfl) (g + 3) j _ HV9.out (wz.heap.size + 1) [.int .u8 0, .int .i64 0, .int .i64 0] HL9.out ?p2 ?p3 ?p4 ?p5 ?p6)
          case p2 => simp [Value.oneCell']
          case p3 => omega
          case p4 => omega
          case p5 => simp; omega
          case p6 =>
            intro A9 c9 w9 hown hg _
            obtain ⟨x0, y0, ys', e1, e2, e3, e4⟩ := HF9.out A9 c9 w9 hown hg
            have E2 := Lib.hid e2
            have E3 := Lib.hid e3
            clear hown hg e2 e3
            go_wp2_with fail
            exact ⟨⟨j + 1, A9, c9, ys', none, by omega, by go_num, e1, E2.out, E3.out, AtS.no l, e4⟩, by simp [intOf]; omega⟩
        have HG1 := Lib.hid (fun W h => rget_ok A n c l (k) 1 1 rfl (by decide) (by decide) W B (HRz.out W h) hn hk g1)
        have hk1 := drop_le hk g1
        have x1 := nS_ok g1
        obtain ⟨o, ho⟩ : ∃ o, nV 1 (some (l.drop k)) = o := ⟨_, rfl⟩
        have lo : o < 256 := by rw [← ho]; exact nV_lt 1 _
        have hw8 : IntKind.u8.wrap (o : Int) = (o : Int) := by rw [IntKind.wrap_u8]; omega
        rw [ho] at HG1
        by_cases g2 : 4 ≤ (l.drop (k + 1)).length
        case neg =>
          have HG2 := Lib.hid (fun W h => rget_no A n c l (k + 1) 4 4 rfl W B (HRz.out W h) hn hk1 g2)
          have HFT := Lib.hid (show fI (some (l.drop k)) = (⟨UInt8.ofNat o, 0, 0⟩, none) by unfold fI; rw [x1, ho, nS_no g2, nV_no g2]; rfl)
          clear x1 ho g2
          go_wp2_with fail
          generalize wc.alloc (.cells #[.int .u8 0, .int .i64 0, .int .i64 0] 33) = wz at *
          refine (HG1.out wz HZ0.out.2).mono ?_
          rintro e w1 ⟨rfl, rfl⟩
          have HZ := Lib.hid HZ0.out
          have c0 : wz.cell? ⟨wc.heap.size, 0, none⟩ = some (.int .u8 0) := HZ.out.cell rfl
          have f0 : wz.frozen? ⟨wc.heap.size, 0, none⟩ = false := HZ.out.free 0
          have HZ1 := Lib.hid (HZ0.out.put 0 (.int .u8 (o : Int)))
          clear HZ HZ0
          go_wp2_with fail
          generalize wz.setCell ⟨wc.heap.size, 0, none⟩ (.int .u8 (o : Int)) = W1 at *
          clear c0 f0
          refine (HG2.out W1 HZ1.out.2).mono ?_
          rintro e w1 ⟨rfl, rfl⟩
          have HZ := Lib.hid HZ1.out
          have c1 : W1.cell? ⟨wc.heap.size, 1, none⟩ = some (.int .i64 0) := HZ.out.cell rfl
          have f1 : W1.frozen? ⟨wc.heap.size, 1, none⟩ = false := HZ.out.free 1
          clear HZ
          have HZ := Lib.hid (HZ1.out.put 1 (.int .i64 0))
          obtain ⟨p0, HO9, hz9, hF9⟩ := HF.out (W1.setCell ⟨wc.heap.size, 1, none⟩ (.int .i64 0)) o 0 0 none (by omega) HFT.out HZ.out.2
          have HF9 := Lib.hid hF9
          have HL9 := Lib.hid (Reads.lit (W1.setCell ⟨wc.heap.size, 1, none⟩ (.int .i64 0)) 33 [.int .u8 (o : Int), .int .i64 0, .int .i64 0] 1 3 rfl W1.heap.size (World.size_setCell ..))
          have HV9 := Lib.hid (HO9.out.alloc (.cells #[.int .u8 (o : Int), .int .i64 0, .int .i64 0] 33))
          have hzw : (W1.setCell ⟨wc.heap.size, 1, none⟩ (.int .i64 0)).heap.size = W1.heap.size := World.size_setCell ..
          have l0 : (W1.setCell ⟨wc.heap.size, 1, none⟩ (.int .i64 0)).cell? ⟨wc.heap.size, 0, none⟩ = some (.int .u8 (o : Int)) := HZ.out.cell rfl
          have l1 : (W1.setCell ⟨wc.heap.size, 1, none⟩ (.int .i64 0)).cell? ⟨wc.heap.size, 1, none⟩ = some (.int .i64 0) := HZ.out.cell rfl
          have l2 : (W1.setCell ⟨wc.heap.size, 1, none⟩ (.int .i64 0)).cell? ⟨wc.heap.size, 2, none⟩ = some (.int .i64 0) := HZ.out.cell rfl
          clear hF9
          rw [hzw] at hz9
          clear hzw
          go_wp2_with (at_builtin; refine wl_app TIn (by rfl) (.tmp 67) (.tmp 69) (by rfl) (.slice A' j c') (by rfl) (some ⟨W1.heap.size, 0, none⟩) 1 1 (by rfl) (g + 3) j _ HV9.out (W1.heap.size + 1) [.int .u8 (o : Int), .int .i64 0, .int .i64 0] HL9.out ?q2 ?q3 ?q4 ?q5 ?q6)
          case q2 => simp [Value.oneCell']
          case q3 => omega
          case q4 => omega
          case q5 => simp; omega
          case q6 =>
            intro A9 c9 w9 hown hg _
            obtain ⟨x0, y0, ys', e1, e2, e3, e4⟩ := HF9.out A9 c9 w9 hown hg
            have E2 := Lib.hid e2
            have E3 := Lib.hid e3
            clear hown hg e2 e3
            go_wp2_with fail
            exact ⟨⟨j + 1, A9, c9, ys', none, by omega, by go_num, e1, E2.out, E3.out, AtS.no l, e4⟩, by simp [intOf]; omega⟩
        have HG2 := Lib.hid (fun W h => rget_ok A n c l (k + 1) 4 4 rfl (by decide) (by decide) W B (HRz.out W h) hn hk1 g2)
        have hk2 := drop_le hk1 g2
        have x2 := nS_ok g2
        obtain ⟨a4, ha4⟩ : ∃ a4, nV 4 (some (l.drop (k + 1))) = a4 := ⟨_, rfl⟩
        have la4 : a4 < 4294967296 := by rw [← ha4]; exact nV_lt 4 _
        rw [ha4] at HG2
        by_cases g3 : 2 ≤ (l.drop (k + 1 + 4)).length
        case pos =>
          by_cases hbig : 2147483648 ≤ a4
          case pos =>
            have HG3 := Lib.hid (fun W h => rget_ok A n c l (k + 1 + 4) 2 2 rfl (by decide) (by decide) W B (HRz.out W h) hn hk2 g3)
            have hk3 := drop_le hk2 g3
            have x3 := nS_ok g3
            obtain ⟨b2, hb2⟩ : ∃ b2, nV 2 (some (l.drop (k + 1 + 4))) = b2 := ⟨_, rfl⟩
            have lb2 : b2 < 65536 := by rw [← hb2]; exact nV_lt 2 _
            rw [hb2] at HG3
            have HFT := Lib.hid (show fI (some (l.drop k)) = (⟨UInt8.ofNat o, ((a4 : Int) - 4294967296), (b2 : Int)⟩, (some (l.drop (k + 1 + 4 + 2)))) by unfold fI; rw [x1, ho, x2, ha4, x3, hb2, show sgn a4 = ((a4 : Int) - 4294967296) by unfold sgn; rw [if_pos (by omega)]])
            clear x1 ho x2 ha4 x3 hb2
            go_wp2_with fail
            generalize wc.alloc (.cells #[.int .u8 0, .int .i64 0, .int .i64 0] 33) = wz at *
            refine (HG1.out wz HZ0.out.2).mono ?_
            rintro e w1 ⟨rfl, rfl⟩
            have HZ := Lib.hid HZ0.out
            have c0 : wz.cell? ⟨wc.heap.size, 0, none⟩ = some (.int .u8 0) := HZ.out.cell rfl
            have f0 : wz.frozen? ⟨wc.heap.size, 0, none⟩ = false := HZ.out.free 0
            have HZ1 := Lib.hid (HZ0.out.put 0 (.int .u8 (o : Int)))
            clear HZ HZ0
            go_wp2_with fail
            generalize wz.setCell ⟨wc.heap.size, 0, none⟩ (.int .u8 (o : Int)) = W1 at *
            clear c0 f0
            refine (HG2.out W1 HZ1.out.2).mono ?_
            rintro e w1 ⟨rfl, rfl⟩
            have HZ := Lib.hid HZ1.out
            have c1 : W1.cell? ⟨wc.heap.size, 1, none⟩ = some (.int .i64 0) := HZ.out.cell rfl
            have f1 : W1.frozen? ⟨wc.heap.size, 1, none⟩ = false := HZ.out.free 1
            have db : (2147483648 : Int) ≤ (a4 : Int) := by omega
            have HZ2 := Lib.hid (HZ1.out.put 1 (.int .i64 (a4 : Int)))
            clear HZ HZ1
            have HZ := Lib.hid HZ2.out
            have c1a : (W1.setCell ⟨wc.heap.size, 1, none⟩ (.int .i64 (a4 : Int))).cell? ⟨wc.heap.size, 1, none⟩ = some (.int .i64 (a4 : Int)) := HZ.out.cell rfl
            have f1a : (W1.setCell ⟨wc.heap.size, 1, none⟩ (.int .i64 (a4 : Int))).frozen? ⟨wc.heap.size, 1, none⟩ = false := HZ.out.free 1
            have HZ3 := Lib.hid (HZ2.out.put 1 (.int .i64 ((a4 : Int) - 4294967296)))
            clear HZ HZ2
            go_wp2_with fail
            generalize (W1.setCell ⟨wc.heap.size, 1, none⟩ (.int .i64 (a4 : Int))).setCell ⟨wc.heap.size, 1, none⟩ (.int .i64 ((a4 : Int) - 4294967296)) = W2 at *
            clear c1 f1 c1a f1a
            refine (HG3.out W2 HZ3.out.2).mono ?_
            rintro e w1 ⟨rfl, rfl⟩
            have HZ := Lib.hid HZ3.out
            have c2 : W2.cell? ⟨wc.heap.size, 2, none⟩ = some (.int .i64 0) := HZ.out.cell rfl
            have f2 : W2.frozen? ⟨wc.heap.size, 2, none⟩ = false := HZ.out.free 2
            clear HZ
            have HZ := Lib.hid (HZ3.out.put 2 (.int .i64 (b2 : Int)))
            obtain ⟨p0, HO9, hz9, hF9⟩ := HF.out (W2.setCell ⟨wc.heap.size, 2, none⟩ (.int .i64 (b2 : Int))) o ((a4 : Int) - 4294967296) (b2 : Int) (some (l.drop (k + 1 + 4 + 2))) (by omega) HFT.out HZ.out.2
            have HF9 := Lib.hid hF9
            have HL9 := Lib.hid (Reads.lit (W2.setCell ⟨wc.heap.size, 2, none⟩ (.int .i64 (b2 : Int))) 33 [.int .u8 (o : Int), .int .i64 ((a4 : Int) - 4294967296), .int .i64 (b2 : Int)] 1 3 rfl W2.heap.size (World.size_setCell ..))
            have HV9 := Lib.hid (HO9.out.alloc (.cells #[.int .u8 (o : Int), .int .i64 ((a4 : Int) - 4294967296), .int .i64 (b2 : Int)] 33))
            have hzw : (W2.setCell ⟨wc.heap.size, 2, none⟩ (.int .i64 (b2 : Int))).heap.size = W2.heap.size := World.size_setCell ..
            have l0 : (W2.setCell ⟨wc.heap.size, 2, none⟩ (.int .i64 (b2 : Int))).cell? ⟨wc.heap.size, 0, none⟩ = some (.int .u8 (o : Int)) := HZ.out.cell rfl
            have l1 : (W2.setCell ⟨wc.heap.size, 2, none⟩ (.int .i64 (b2 : Int))).cell? ⟨wc.heap.size, 1, none⟩ = some (.int .i64 ((a4 : Int) - 4294967296)) := HZ.out.cell rfl
            have l2 : (W2.setCell ⟨wc.heap.size, 2, none⟩ (.int .i64 (b2 : Int))).cell? ⟨wc.heap.size, 2, none⟩ = some (.int .i64 (b2 : Int)) := HZ.out.cell rfl
            clear hF9
            rw [hzw] at hz9
            clear hzw
            go_wp2_with (at_builtin; refine wl_app TIn (by rfl) (.tmp 67) (.tmp 69) (by rfl) (.slice A' j c') (by rfl) (some ⟨W2.heap.size, 0, none⟩) 1 1 (by rfl) (g + 3) j _ HV9.out (W2.heap.size + 1) [.int .u8 (o : Int), .int .i64 ((a4 : Int) - 4294967296), .int .i64 (b2 : Int)] HL9.out ?r2 ?r3 ?r4 ?r5 ?r6)
            case r2 => simp [Value.oneCell']
            case r3 => omega
            case r4 => omega
            case r5 => simp; omega
            case r6 =>
              intro A9 c9 w9 hown hg _
              obtain ⟨x0, y0, ys', e1, e2, e3, e4⟩ := HF9.out A9 c9 w9 hown hg
              have E2 := Lib.hid e2
              have E3 := Lib.hid e3
              clear hown hg e2 e3
              go_wp2_with fail
              exact ⟨⟨j + 1, A9, c9, ys', (some (l.drop (k + 1 + 4 + 2))), by omega, by go_num, e1, E2.out, E3.out, AtS.yes' hk3 (by omega), e4⟩, by simp [intOf]; omega⟩
          case neg =>
            have HG3 := Lib.hid (fun W h => rget_ok A n c l (k + 1 + 4) 2 2 rfl (by decide) (by decide) W B (HRz.out W h) hn hk2 g3)
            have hk3 := drop_le hk2 g3
            have x3 := nS_ok g3
            obtain ⟨b2, hb2⟩ : ∃ b2, nV 2 (some (l.drop (k + 1 + 4))) = b2 := ⟨_, rfl⟩
            have lb2 : b2 < 65536 := by rw [← hb2]; exact nV_lt 2 _
            rw [hb2] at HG3
            have HFT := Lib.hid (show fI (some (l.drop k)) = (⟨UInt8.ofNat o, (a4 : Int), (b2 : Int)⟩, (some (l.drop (k + 1 + 4 + 2)))) by unfold fI; rw [x1, ho, x2, ha4, x3, hb2, show sgn a4 = (a4 : Int) by unfold sgn; rw [if_neg (by omega)]])
            clear x1 ho x2 ha4 x3 hb2
            go_wp2_with fail
            generalize wc.alloc (.cells #[.int .u8 0, .int .i64 0, .int .i64 0] 33) = wz at *
            refine (HG1.out wz HZ0.out.2).mono ?_
            rintro e w1 ⟨rfl, rfl⟩
            have HZ := Lib.hid HZ0.out
            have c0 : wz.cell? ⟨wc.heap.size, 0, none⟩ = some (.int .u8 0) := HZ.out.cell rfl
            have f0 : wz.frozen? ⟨wc.heap.size, 0, none⟩ = false := HZ.out.free 0
            have HZ1 := Lib.hid (HZ0.out.put 0 (.int .u8 (o : Int)))
            clear HZ HZ0
            go_wp2_with fail
            generalize wz.setCell ⟨wc.heap.size, 0, none⟩ (.int .u8 (o : Int)) = W1 at *
            clear c0 f0
            refine (HG2.out W1 HZ1.out.2).mono ?_
            rintro e w1 ⟨rfl, rfl⟩
            have HZ := Lib.hid HZ1.out
            have c1 : W1.cell? ⟨wc.heap.size, 1, none⟩ = some (.int .i64 0) := HZ.out.cell rfl
            have f1 : W1.frozen? ⟨wc.heap.size, 1, none⟩ = false := HZ.out.free 1
            have db : decide ((2147483648 : Int) ≤ (a4 : Int)) = false := decide_eq_false (by omega)
            clear hbig
            have HZ3 := Lib.hid (HZ1.out.put 1 (.int .i64 (a4 : Int)))
            clear HZ HZ1
            have c1a : (W1.setCell ⟨wc.heap.size, 1, none⟩ (.int .i64 (a4 : Int))).cell? ⟨wc.heap.size, 1, none⟩ = some (.int .i64 (a4 : Int)) := HZ3.out.cell rfl
            go_wp2_with fail
            generalize W1.setCell ⟨wc.heap.size, 1, none⟩ (.int .i64 (a4 : Int)) = W2 at *
            clear c1 f1 c1a
            refine (HG3.out W2 HZ3.out.2).mono ?_
            rintro e w1 ⟨rfl, rfl⟩
            have HZ := Lib.hid HZ3.out
            have c2 : W2.cell? ⟨wc.heap.size, 2, none⟩ = some (.int .i64 0) := HZ.out.cell rfl
            have f2 : W2.frozen? ⟨wc.heap.size, 2, none⟩ = false := HZ.out.free 2
            clear HZ
            have HZ := Lib.hid (HZ3.out.put 2 (.int .i64 (b2 : Int)))
            obtain ⟨p0, HO9, hz9, hF9⟩ := HF.out (W2.setCell ⟨wc.heap.size, 2, none⟩ (.int .i64 (b2 : Int))) o (a4 : Int) (b2 : Int) (some (l.drop (k + 1 + 4 + 2))) (by omega) HFT.out HZ.out.2
            have HF9 := Lib.hid hF9
            have HL9 := Lib.hid (Reads.lit (W2.setCell ⟨wc.heap.size, 2, none⟩ (.int .i64 (b2 : Int))) 33 [.int .u8 (o : Int), .int .i64 (a4 : Int), .int .i64 (b2 : Int)] 1 3 rfl W2.heap.size (World.size_setCell ..))
            have HV9 := Lib.hid (HO9.out.alloc (.cells #[.int .u8 (o : Int), .int .i64 (a4 : Int), .int .i64 (b2 : Int)] 33))
            have hzw : (W2.setCell ⟨wc.heap.size, 2, none⟩ (.int .i64 (b2 : Int))).heap.size = W2.heap.size := World.size_setCell ..
            have l0 : (W2.setCell ⟨wc.heap.size, 2, none⟩ (.int .i64 (b2 : Int))).cell? ⟨wc.heap.size, 0, none⟩ = some (.int .u8 (o : Int)) := HZ.out.cell rfl
            have l1 : (W2.setCell ⟨wc.heap.size, 2, none⟩ (.int .i64 (b2 : Int))).cell? ⟨wc.heap.size, 1, none⟩ = some (.int .i64 (a4 : Int)) := HZ.out.cell rfl
            have l2 : (W2.setCell ⟨wc.heap.size, 2, none⟩ (.int .i64 (b2 : Int))).cell? ⟨wc.heap.size, 2, none⟩ = some (.int .i64 (b2 : Int)) := HZ.out.cell rfl
            clear hF9
            rw [hzw] at hz9
            clear hzw
            go_wp2_with (at_builtin; refine wl_app TIn (by rfl) (.tmp 67) (.tmp 69) (by rfl) (.slice A' j c') (by rfl) (some ⟨W2.heap.size, 0, none⟩) 1 1 (by rfl) (g + 3) j _ HV9.out (W2.heap.size + 1) [.int .u8 (o : Int), .int .i64 (a4 : Int), .int .i64 (b2 : Int)] HL9.out ?s2 ?s3 ?s4 ?s5 ?s6)
            case s2 => simp [Value.oneCell']
            case s3 => omega
            case s4 => omega
            case s5 => simp; omega
            case s6 =>
              intro A9 c9 w9 hown hg _
              obtain ⟨x0, y0, ys', e1, e2, e3, e4⟩ := HF9.out A9 c9 w9 hown hg
              have E2 := Lib.hid e2
              have E3 := Lib.hid e3
              clear hown hg e2 e3
              go_wp2_with fail
              exact ⟨⟨j + 1, A9, c9, ys', (some (l.drop (k + 1 + 4 + 2))), by omega, by go_num, e1, E2.out, E3.out, AtS.yes' hk3 (by omega), e4⟩, by simp [intOf]; omega⟩
        case neg =>
          by_cases hbig : 2147483648 ≤ a4
          case pos =>
            have HG3 := Lib.hid (fun W h => rget_no A n c l (k + 1 + 4) 2 2 rfl W B (HRz.out W h) hn hk2 g3)
            have HFT := Lib.hid (show fI (some (l.drop k)) = (⟨UInt8.ofNat o, ((a4 : Int) - 4294967296), 0⟩, none) by unfold fI; rw [x1, ho, x2, ha4, nS_no g3, nV_no g3, show sgn a4 = ((a4 : Int) - 4294967296) by unfold sgn; rw [if_pos (by omega)]]; rfl)
            clear x1 ho x2 ha4
            go_wp2_with fail
            generalize wc.alloc (.cells #[.int .u8 0, .int .i64 0, .int .i64 0] 33) = wz at *
            refine (HG1.out wz HZ0.out.2).mono ?_
            rintro e w1 ⟨rfl, rfl⟩
            have HZ := Lib.hid HZ0.out
            have c0 : wz.cell? ⟨wc.heap.size, 0, none⟩ = some (.int .u8 0) := HZ.out.cell rfl
            have f0 : wz.frozen? ⟨wc.heap.size, 0, none⟩ = false := HZ.out.free 0
            have HZ1 := Lib.hid (HZ0.out.put 0 (.int .u8 (o : Int)))
            clear HZ HZ0
            go_wp2_with fail
            generalize wz.setCell ⟨wc.heap.size, 0, none⟩ (.int .u8 (o : Int)) = W1 at *
            clear c0 f0
            refine (HG2.out W1 HZ1.out.2).mono ?_
            rintro e w1 ⟨rfl, rfl⟩
            have HZ := Lib.hid HZ1.out
            have c1 : W1.cell? ⟨wc.heap.size, 1, none⟩ = some (.int .i64 0) := HZ.out.cell rfl
            have f1 : W1.frozen? ⟨wc.heap.size, 1, none⟩ = false := HZ.out.free 1
            have db : (2147483648 : Int) ≤ (a4 : Int) := by omega
            have HZ2 := Lib.hid (HZ1.out.put 1 (.int .i64 (a4 : Int)))
            clear HZ HZ1
            have HZ := Lib.hid HZ2.out
            have c1a : (W1.setCell ⟨wc.heap.size, 1, none⟩ (.int .i64 (a4 : Int))).cell? ⟨wc.heap.size, 1, none⟩ = some (.int .i64 (a4 : Int)) := HZ.out.cell rfl
            have f1a : (W1.setCell ⟨wc.heap.size, 1, none⟩ (.int .i64 (a4 : Int))).frozen? ⟨wc.heap.size, 1, none⟩ = false := HZ.out.free 1
            have HZ3 := Lib.hid (HZ2.out.put 1 (.int .i64 ((a4 : Int) - 4294967296)))
            clear HZ HZ2
            go_wp2_with fail
            generalize (W1.setCell ⟨wc.heap.size, 1, none⟩ (.int .i64 (a4 : Int))).setCell ⟨wc.heap.size, 1, none⟩ (.int .i64 ((a4 : Int) - 4294967296)) = W2 at *
            clear c1 f1 c1a f1a
            refine (HG3.out W2 HZ3.out.2).mono ?_
            rintro e w1 ⟨rfl, rfl⟩
            have HZ := Lib.hid HZ3.out
            have c2 : W2.cell? ⟨wc.heap.size, 2, none⟩ = some (.int .i64 0) := HZ.out.cell rfl
            have f2 : W2.frozen? ⟨wc.heap.size, 2, none⟩ = false := HZ.out.free 2
            clear HZ
            have HZ := Lib.hid (HZ3.out.put 2 (.int .i64 0))
            obtain ⟨p0, HO9, hz9, hF9⟩ := HF.out (W2.setCell ⟨wc.heap.size, 2, none⟩ (.int .i64 0)) o ((a4 : Int) - 4294967296) 0 none (by omega) HFT.out HZ.out.2
            have HF9 := Lib.hid hF9
            have HL9 := Lib.hid (Reads.lit (W2.setCell ⟨wc.heap.size, 2, none⟩ (.int .i64 0)) 33 [.int .u8 (o : Int), .int .i64 ((a4 : Int) - 4294967296), .int .i64 0] 1 3 rfl W2.heap.size (World.size_setCell ..))
            have HV9 := Lib.hid (HO9.out.alloc (.cells #[.int .u8 (o : Int), .int .i64 ((a4 : Int) - 4294967296), .int .i64 0] 33))
            have hzw : (W2.setCell ⟨wc.heap.size, 2, none⟩ (.int .i64 0)).heap.size = W2.heap.size := World.size_setCell ..
            have l0 : (W2.setCell ⟨wc.heap.size, 2, none⟩ (.int .i64 0)).cell? ⟨wc.heap.size, 0, none⟩ = some (.int .u8 (o : Int)) := HZ.out.cell rfl
            have l1 : (W2.setCell ⟨wc.heap.size, 2, none⟩ (.int .i64 0)).cell? ⟨wc.heap.size, 1, none⟩ = some (.int .i64 ((a4 : Int) - 4294967296)) := HZ.out.cell rfl
            have l2 : (W2.setCell ⟨wc.heap.size, 2, none⟩ (.int .i64 0)).cell? ⟨wc.heap.size, 2, none⟩ = some (.int .i64 0) := HZ.out.cell rfl
            clear hF9
            rw [hzw] at hz9
            clear hzw
            go_wp2_with (at_builtin; refine wl_app TIn (by rfl) (.tmp 67) (.tmp 69) (by rfl) (.slice A' j c') (by rfl) (some ⟨W2.heap.size, 0, none⟩) 1 1 (by rfl) (g + 3) j _ HV9.out (W2.heap.size + 1) [.int .u8 (o : Int), .int .i64 ((a4 : Int) - 4294967296), .int .i64 0] HL9.out ?t2 ?t3 ?t4 ?t5 ?t6)
            case t2 => simp [Value.oneCell']
            case t3 => omega
            case t4 => omega
            case t5 => simp; omega
            case t6 =>
              intro A9 c9 w9 hown hg _
              obtain ⟨x0, y0, ys', e1, e2, e3, e4⟩ := HF9.out A9 c9 w9 hown hg
              have E2 := Lib.hid e2
              have E3 := Lib.hid e3
              clear hown hg e2 e3
              go_wp2_with fail
              exact ⟨⟨j + 1, A9, c9, ys', none, by omega, by go_num, e1, E2.out, E3.out, AtS.no l, e4⟩, by simp [intOf]; omega⟩
          case neg =>
            have HG3 := Lib.hid (fun W h => rget_no A n c l (k + 1 + 4) 2 2 rfl W B (HRz.out W h) hn hk2 g3)
            have HFT := Lib.hid (show fI (some (l.drop k)) = (⟨UInt8.ofNat o, (a4 : Int), 0⟩, none) by unfold fI; rw [x1, ho, x2, ha4, nS_no g3, nV_no g3, show sgn a4 = (a4 : Int) by unfold sgn; rw [if_neg (by omega)]]; rfl)
            clear x1 ho x2 ha4
            go_wp2_with fail
            generalize wc.alloc (.cells #[.int .u8 0, .int .i64 0, .int .i64 0] 33) = wz at *
            refine (HG1.out wz HZ0.out.2).mono ?_
            rintro e w1 ⟨rfl, rfl⟩
            have HZ := Lib.hid HZ0.out
            have c0 : wz.cell? ⟨wc.heap.size, 0, none⟩ = some (.int .u8 0) := HZ.out.cell rfl
            have f0 : wz.frozen? ⟨wc.heap.size, 0, none⟩ = false := HZ.out.free 0
            have HZ1 := Lib.hid (HZ0.out.put 0 (.int .u8 (o : Int)))
            clear HZ HZ0
            go_wp2_with fail
            generalize wz.setCell ⟨wc.heap.size, 0, none⟩ (.int .u8 (o : Int)) = W1 at *
            clear c0 f0
            refine (HG2.out W1 HZ1.out.2).mono ?_
            rintro e w1 ⟨rfl, rfl⟩
            have HZ := Lib.hid HZ1.out
            have c1 : W1.cell? ⟨wc.heap.size, 1, none⟩ = some (.int .i64 0) := HZ.out.cell rfl
            have f1 : W1.frozen? ⟨wc.heap.size, 1, none⟩ = false := HZ.out.free 1
            have db : decide ((2147483648 : Int) ≤ (a4 : Int)) = false := decide_eq_false (by omega)
            clear hbig
            have HZ3 := Lib.hid (HZ1.out.put 1 (.int .i64 (a4 : Int)))
            clear HZ HZ1
            have c1a : (W1.setCell ⟨wc.heap.size, 1, none⟩ (.int .i64 (a4 : Int))).cell? ⟨wc.heap.size, 1, none⟩ = some (.int .i64 (a4 : Int)) := HZ3.out.cell rfl
            go_wp2_with fail
            generalize W1.setCell ⟨wc.heap.size, 1, none⟩ (.int .i64 (a4 : Int)) = W2 at *
            clear c1 f1 c1a
            refine (HG3.out W2 HZ3.out.2).mono ?_
            rintro e w1 ⟨rfl, rfl⟩
            have HZ := Lib.hid HZ3.out
            have c2 : W2.cell? ⟨wc.heap.size, 2, none⟩ = some (.int .i64 0) := HZ.out.cell rfl
            have f2 : W2.frozen? ⟨wc.heap.size, 2, none⟩ = false := HZ.out.free 2
            clear HZ
            have HZ := Lib.hid (HZ3.out.put 2 (.int .i64 0))
            obtain ⟨p0, HO9, hz9, hF9⟩ := HF.out (W2.setCell ⟨wc.heap.size, 2, none⟩ (.int .i64 0)) o (a4 : Int) 0 none (by omega) HFT.out HZ.out.2
            have HF9 := Lib.hid hF9
            have HL9 := Lib.hid (Reads.lit (W2.setCell ⟨wc.heap.size, 2, none⟩ (.int .i64 0)) 33 [.int .u8 (o : Int), .int .i64 (a4 : Int), .int .i64 0] 1 3 rfl W2.heap.size (World.size_setCell ..))
            have HV9 := Lib.hid (HO9.out.alloc (.cells #[.int .u8 (o : Int), .int .i64 (a4 : Int), .int .i64 0] 33))
            have hzw : (W2.setCell ⟨wc.heap.size, 2, none⟩ (.int .i64 0)).heap.size = W2.heap.size := World.size_setCell ..
            have l0 : (W2.setCell ⟨wc.heap.size, 2, none⟩ (.int .i64 0)).cell? ⟨wc.heap.size, 0, none⟩ = some (.int .u8 (o : Int)) := HZ.out.cell rfl
            have l1 : (W2.setCell ⟨wc.heap.size, 2, none⟩ (.int .i64 0)).cell? ⟨wc.heap.size, 1, none⟩ = some (.int .i64 (a4 : Int)) := HZ.out.cell rfl
            have l2 : (W2.setCell ⟨wc.heap.size, 2, none⟩ (.int .i64 0)).cell? ⟨wc.heap.size, 2, none⟩ = some (.int .i64 0) := HZ.out.cell rfl
            clear hF9
            rw [hzw] at hz9
            clear hzw
            go_wp2_with (at_builtin; refine wl_app TIn (by rfl) (.tmp 67) (.tmp 69) (by rfl) (.slice A' j c') (by rfl) (some ⟨W2.heap.size, 0, none⟩) 1 1 (by rfl) (g + 3) j _ HV9.out (W2.heap.size + 1) [.int .u8 (o : Int), .int .i64 (a4 : Int), .int .i64 0] HL9.out ?u2 ?u3 ?u4 ?u5 ?u6)
            case u2 => simp [Value.oneCell']
            case u3 => omega
            case u4 => omega
            case u5 => simp; omega
            case u6 =>
              intro A9 c9 w9 hown hg _
              obtain ⟨x0, y0, ys', e1, e2, e3, e4⟩ := HF9.out A9 c9 w9 hown hg
              have E2 := Lib.hid e2
              have E3 := Lib.hid e3
              clear hown hg e2 e3
              go_wp2_with fail
              exact ⟨⟨j + 1, A9, c9, ys', none, by omega, by go_num, e1, E2.out, E3.out, AtS.no l, e4⟩, by simp [intOf]; omega⟩
      case neg =>
        have hgb : decide (j < n0 ∧ okb t' = true) = false := decide_eq_false hgo
        rw [hgb]
        have HE := Lib.hid (rep_end HQ.out (by cases t' with | none => exact .inr rfl | some r => exact .inl (Nat.le_of_not_lt fun h => hgo ⟨h, rfl⟩)))
        clear hgb hgo HQ

        go_wp2_with fail
        obtain ⟨m1, hren⟩ : ∃ x, x = j := ⟨_, rfl⟩
        subst hren
        obtain ⟨P1, hren⟩ : ∃ x, x = A' := ⟨_, rfl⟩
        subst hren
        obtain ⟨d1, hren⟩ : ∃ x, x = c' := ⟨_, rfl⟩
        subst hren
        obtain ⟨L1, hren⟩ : ∃ x, x = ys := ⟨_, rfl⟩
        subst hren
        obtain ⟨t1, hren⟩ : ∃ x, x = t' := ⟨_, rfl⟩
        subst hren
        obtain ⟨X1, hren⟩ : ∃ x, x = wc := ⟨_, rfl⟩
        subst hren
        obtain ⟨p1, hren⟩ : ∃ x, x = u1 := ⟨_, rfl⟩
        subst hren
        have HYL1 := Lib.hid HYL.out
        have HO1 := Lib.hid HO.out
        have HE1 := Lib.hid HE.out
        have HA1 := Lib.hid HA.out
        have HB0 := Lib.hid HB1.out
        have hm1 : m1 ≤ n0 := hj
        have hsz1 : g + 3 ≤ X1.heap.size := hsz
        clear HYL HO HE HA HB1 e0 hj hsz
        go_loopw [1, 11, 15, 16, 17] (fun pl ok i _ _ wr => ∃ (j : Nat) (A' : Option Addr) (c' : Nat) (ys : List (List UInt8)) (vs : List Value) (t' : Sx), j ≤ n1 ∧ i = .int .i64 (j : Int) ∧ BS w wr g (hds n0 n1 n2 n3 v4 v5 v6) [.slice P1 m1 d1, .slice A' j c', .slice none 0 0, .slice none 0 0, .int .i64 vv, .int .i64 vk, .int .i64 vb, .int .i64 vf] ∧ OBV wr X1.heap.size 5 39 (.slice A' j c') j ys vs ∧ AtS l t' pl ok ∧ Sto g (g + 3) X1 wr ∧ rep fM n1 t1 = (ys ++ (rep fM (n1 - j) t').1, (rep fM (n1 - j) t').2)) (fun _ _ i _ _ _ => n1 - (intOf i).toNat)
        case atStart => exact ⟨0, none, 0, [], [], t1, by omega, rfl, HB0.out, OBV.nil _ _ _ _, HA1.out, Sto.refl _ _ _, rep_start⟩
        case round =>
          obtain ⟨j, A', c', ys, vs, t', hj, rfl, hbs, ho, hat, hst, hrep⟩ := hrel
          have HB1 := Lib.hid hbs
          have HO := Lib.hid ho
          have HA := Lib.hid hat
          have HS := Lib.hid hst
          have HQ := Lib.hid hrep
          have hsz := hbs.size
          have hsx := hst.1.size
          have e0 : wr.cell? ⟨g, 1, none⟩ = some (.int .i64 (n1 : Int)) := hbs.head rfl
          have hok := hat.okb
          subst hok
          clear hbs ho hat hst hrep HB0 HA1
          go_upto_region 17 with fail
          go_cut [78] (fun v wx => v = .bool (decide (j < n1 ∧ okb t' = true)) ∧ wx = wr)
          case first =>
            by_cases hlt : j < n1
            · have dj : (j : Int) < (n1 : Int) := by omega
              go_wp2_with fail
              go_meet
              exact ⟨congrArg Value.bool (by simp [hlt]), rfl⟩
            · have dj : ¬ (j : Int) < (n1 : Int) := by omega
              go_wp2_with fail
              go_meet
              exact ⟨congrArg Value.bool (by simp [hlt]), rfl⟩
          case rest =>
            obtain ⟨rfl, rfl⟩ := hcut
            by_cases hgo : j < n1 ∧ okb t' = true
            case pos =>
              have hgb : decide (j < n1 ∧ okb t' = true) = true := decide_eq_true hgo
              rw [hgb]
              obtain ⟨hlt, hkb⟩ := hgo
              obtain ⟨k, hk, rfl, rfl⟩ : ∃ k : Nat, k ≤ l.length ∧ t' = some (l.drop k) ∧ u1 = .int .i64 (k : Int) := by
                rcases HA.out with ⟨rfl, _, _⟩ | ⟨k, h1, h2, h3, _⟩
                · cases hkb
                · exact ⟨k, h1, h2, h3⟩
              clear hgb hkb
              have HQ2 := Lib.hid (rep_go HQ.out hlt rfl)
              have HLT := Lib.hid HO.out.lt
              have HRz := Lib.hid (fun (W : World) (h : Below wc.heap.size wc W) => HR.out W (HB1.out.bl.trans (h.mono (by omega))))
              have hfin : ∀ (W : World) (Ai : Option Addr) (ni ci : Nat) (ml : List UInt8) (t4 : Sx), fM (some (l.drop k)) = (ml, t4) → Below wc.heap.size wc W → W.ownsRow wc.heap.size 5 1 (.slice Ai ni ci) ni (bv ml) →
                  W.cell? ⟨g + 1, 1, none⟩ = some (.slice A' j c') ∧ Go.RowKit.Hid ((W.alloc (.cells #[.slice Ai ni ci] 39)).ownsRow X1.heap.size 39 1 (.slice A' j c') j vs) ∧ g + 3 ≤ W.heap.size ∧ X1.heap.size ≤ W.heap.size ∧
                  ∀ (A9 : Option Addr) (c9 : Nat) (w9 : World), w9.ownsRow X1.heap.size 39 1 (.slice A9 (j + 1) c9) (j + 1) (vs ++ [.slice Ai ni ci]) → (W.alloc (.cells #[.slice Ai ni ci] 39)).grownBy w9 (Value.slice A' j c').ownBlock →
                  w9.cell? ⟨g + 1, 1, none⟩ = some (.slice A' j c') ∧ w9.frozen? ⟨g + 1, 1, none⟩ = false ∧ BS w (w9.setCell ⟨g + 1, 1, none⟩ (.slice A9 (j + 1) c9)) g (hds n0 n1 n2 n3 v4 v5 v6) [.slice P1 m1 d1, .slice A9 (j + 1) c9, .slice none 0 0, .slice none 0 0, .int .i64 vv, .int .i64 vk, .int .i64 vb, .int .i64 vf] ∧ OBV (w9.setCell ⟨g + 1, 1, none⟩ (.slice A9 (j + 1) c9)) X1.heap.size 5 39 (.slice A9 (j + 1) c9) (j + 1) (ys ++ [ml]) (vs ++ [.slice Ai ni ci]) ∧ Sto g (g + 3) X1 (w9.setCell ⟨g + 1, 1, none⟩ (.slice A9 (j + 1) c9)) ∧ rep fM n1 t1 = ((ys ++ [ml]) ++ (rep fM (n1 - (j + 1)) t4).1, (rep fM (n1 - (j + 1)) t4).2) := by
                intro W Ai ni ci ml t4 hft hbW hrow
                have hbsW := HB1.out.later (hbW.mono hsz)
                have hba := (Below.refl W.heap.size W).alloc (Nat.le_refl _) (.cells #[.slice Ai ni ci] 39)
                have hOa := (HO.out.later hbW).later hba
                refine ⟨hbsW.cell rfl, Lib.hid hOa.2.1, hbsW.size, Nat.le_trans hsx hbW.size, ?_⟩
                intro A9 c9 w9 hown hg
                have hxw := Nat.le_trans hsx hbW.size
                have hb9 : Below X1.heap.size W w9 := (hba.mono hxw).grown hg (by simp; omega) (own_drop hOa.2.1)
                have hbs9 := hbsW.later (hb9.mono hsz1)
                have hO9 := hOa.snoc (T := wc.heap.size) (own_base (own_later hrow hba) hsx) (fun u hu k hk => (HLT.out u hu k hk).2) (fun k hk => (hrow.lt k hk).1) (by decide) hg hown
                have hQ := HQ2.out
                rw [hft] at hQ
                have hS9 : Sto g (g + 3) X1 w9 := HS.out.sub ((hbW.mono hsx).trans hb9) (by omega)
                exact ⟨hbs9.cell rfl, hbs9.free 1, hbs9.put 1 (.slice A9 (j + 1) c9), hO9.kept (grown_set w9 (g + 1) 1 _) (by omega), hS9.trans (Sto.of_grown (grown_set w9 (g + 1) 1 _) (by omega) (by omega) (by have := hbs9.size; omega)), hQ⟩
              have HF := Lib.hid hfin
              clear hfin HQ HQ2 e0
              by_cases g1 : 2 ≤ (l.drop k).length
              case neg =>
                have HG1 := Lib.hid (fun W h => rget_no A n c l (k) 2 2 rfl W B (HRz.out W h) hn hk g1)
                have HFT := Lib.hid (show fM (some (l.drop k)) = ([], none) by unfold fM; rw [nS_no g1, nV_no g1]; rfl)
                clear g1
                go_wp2_with fail
                refine (HG1.out wc (Below.refl _ _)).mono ?_
                rintro e w1 ⟨rfl, rfl⟩
                obtain ⟨p0, HO9, hz9, hz9b, hF9⟩ := HF.out wc none 0 0 [] none HFT.out (Below.refl _ _) (World.ownsRow_nil _ _ _ _)
                have HF9 := Lib.hid hF9
                have HL9 := Lib.hid (Reads.lit wc 39 [.slice none 0 0] 1 1 rfl _ rfl)
                clear hF9
                go_wp2_with (at_builtin; refine wl_app TBB (by rfl) (.tmp 98) (.tmp 100) (by rfl) (.slice A' j c') (by rfl) (some ⟨wc.heap.size, 0, none⟩) 1 1 (by rfl) X1.heap.size j vs HO9.out (wc.heap.size + 1) [.slice none 0 0] HL9.out ?p2 ?p3 ?p4 ?p5 ?p6)
                case p2 => simp [Value.oneCell']
                case p3 => omega
                case p4 => omega
                case p5 => simp; omega
                case p6 =>
                  intro A9 c9 w9 hown hg _
                  obtain ⟨x0, y0, e1, e2, e3, e4⟩ := HF9.out A9 c9 w9 hown hg
                  have E1 := Lib.hid e1
                  have E2 := Lib.hid e2
                  have E3 := Lib.hid e3
                  clear hown hg e1 e2 e3
                  go_wp2_with fail
                  exact ⟨⟨j + 1, A9, c9, _, _, none, by omega, by go_num, E1.out, E2.out, AtS.no l, E3.out, e4⟩, by simp [intOf]; omega⟩
              have HG1 := Lib.hid (fun W h => rget_ok A n c l (k) 2 2 rfl (by decide) (by decide) W B (HRz.out W h) hn hk g1)
              have hk1 := drop_le hk g1
              have x1 := nS_ok g1
              obtain ⟨o, ho⟩ : ∃ o, nV 2 (some (l.drop k)) = o := ⟨_, rfl⟩
              have lo : o < 65536 := by rw [← ho]; exact nV_lt 2 _
              rw [ho] at HG1
              by_cases g2 : o ≤ (l.drop (k + 2)).length
              case neg =>
                have HG2 := Lib.hid (fun W h => rtext_no A n c l (k + 2) o o rfl W B (HRz.out W h) hk1 (by omega) g2)
                have HFT := Lib.hid (show fM (some (l.drop k)) = ([], none) by unfold fM; rw [x1, ho, pV_no g2, nS_no g2])
                clear x1 ho g2
                go_wp2_with fail
                refine (HG1.out wc (Below.refl _ _)).mono ?_
                rintro e w1 ⟨rfl, rfl⟩
                go_wp2_with fail
                refine (HG2.out wc (Below.refl _ _)).mono ?_
                rintro e w1 ⟨rfl, rfl⟩
                obtain ⟨p0, HO9, hz9, hz9b, hF9⟩ := HF.out wc none 0 0 [] none HFT.out (Below.refl _ _) (World.ownsRow_nil _ _ _ _)
                have HF9 := Lib.hid hF9
                have HL9 := Lib.hid (Reads.lit wc 39 [.slice none 0 0] 1 1 rfl _ rfl)
                clear hF9
                go_wp2_with (at_builtin; refine wl_app TBB (by rfl) (.tmp 98) (.tmp 100) (by rfl) (.slice A' j c') (by rfl) (some ⟨wc.heap.size, 0, none⟩) 1 1 (by rfl) X1.heap.size j vs HO9.out (wc.heap.size + 1) [.slice none 0 0] HL9.out ?q2 ?q3 ?q4 ?q5 ?q6)
                case q2 => simp [Value.oneCell']
                case q3 => omega
                case q4 => omega
                case q5 => simp; omega
                case q6 =>
                  intro A9 c9 w9 hown hg _
                  obtain ⟨x0, y0, e1, e2, e3, e4⟩ := HF9.out A9 c9 w9 hown hg
                  have E1 := Lib.hid e1
                  have E2 := Lib.hid e2
                  have E3 := Lib.hid e3
                  clear hown hg e1 e2 e3
                  go_wp2_with fail
                  exact ⟨⟨j + 1, A9, c9, _, _, none, by omega, by go_num, E1.out, E2.out, AtS.no l, E3.out, e4⟩, by simp [intOf]; omega⟩
              have HG2 := Lib.hid (fun W h hB => rtext_ok A n c l (k + 2) o o rfl W B (HRz.out W h) hB hn hc hk1 g2)
              have hk2 := drop_le hk1 g2
              have x2 := nS_ok g2
              obtain ⟨nl, hnl⟩ : ∃ nl, pV o (some (l.drop (k + 2))) = nl := ⟨_, rfl⟩
              rw [hnl] at HG2
              have HFT := Lib.hid (show fM (some (l.drop k)) = (nl, some (l.drop (k + 2 + o))) by unfold fM; rw [x1, ho, hnl, x2])
              clear x1 ho hnl x2 g2
              go_wp2_with fail
              refine (HG1.out wc (Below.refl _ _)).mono ?_
              rintro e w1 ⟨rfl, rfl⟩
              go_wp2_with fail
              refine (HG2.out wc (Below.refl _ _) (by have := HGW.out; omega)).mono ?_
              rintro e w3 ⟨A3, c3, rfl, _, hown3, hb3⟩
              have HW3 := Lib.hid hown3
              have HB3 := Lib.hid hb3
              clear hown3 hb3
              obtain ⟨p0, HO9, hz9, hz9b, hF9⟩ := HF.out w3 A3 o c3 nl (some (l.drop (k + 2 + o))) HFT.out (HB3.out) (HW3.out)
              have HF9 := Lib.hid hF9
              have HL9 := Lib.hid (Reads.lit w3 39 [.slice A3 o c3] 1 1 rfl _ rfl)
              clear hF9
              go_wp2_with (at_builtin; refine wl_app TBB (by rfl) (.tmp 98) (.tmp 100) (by rfl) (.slice A' j c') (by rfl) (some ⟨w3.heap.size, 0, none⟩) 1 1 (by rfl) X1.heap.size j vs HO9.out (w3.heap.size + 1) [.slice A3 o c3] HL9.out ?r2 ?r3 ?r4 ?r5 ?r6)
              case r2 => simp [Value.oneCell']
              case r3 => omega
              case r4 => omega
              case r5 => simp; omega
              case r6 =>
                intro A9 c9 w9 hown hg _
                obtain ⟨x0, y0, e1, e2, e3, e4⟩ := HF9.out A9 c9 w9 hown hg
                have E1 := Lib.hid e1
                have E2 := Lib.hid e2
                have E3 := Lib.hid e3
                clear hown hg e1 e2 e3
                go_wp2_with fail
                exact ⟨⟨j + 1, A9, c9, _, _, (some (l.drop (k + 2 + o))), by omega, by go_num, E1.out, E2.out, AtS.yes' hk2 (by omega), E3.out, e4⟩, by simp [intOf]; omega⟩
            case neg =>
              have hgb : decide (j < n1 ∧ okb t' = true) = false := decide_eq_false hgo
              rw [hgb]
              have HE := Lib.hid (rep_end HQ.out (by cases t' with | none => exact .inr rfl | some r => exact .inl (Nat.le_of_not_lt fun h => hgo ⟨h, rfl⟩)))
              clear hgb hgo HQ

              go_wp2_with fail
              obtain ⟨m2, hren⟩ : ∃ x, x = j := ⟨_, rfl⟩
              subst hren
              obtain ⟨P2, hren⟩ : ∃ x, x = A' := ⟨_, rfl⟩
              subst hren
              obtain ⟨d2, hren⟩ : ∃ x, x = c' := ⟨_, rfl⟩
              subst hren
              obtain ⟨L2, hren⟩ : ∃ x, x = ys := ⟨_, rfl⟩
              subst hren
              obtain ⟨t2, hren⟩ : ∃ x, x = t' := ⟨_, rfl⟩
              subst hren
              obtain ⟨X2, hren⟩ : ∃ x, x = wc := ⟨_, rfl⟩
              subst hren
              obtain ⟨p2, hren⟩ : ∃ x, x = u1 := ⟨_, rfl⟩
              subst hren
              obtain ⟨vm, hren⟩ : ∃ x, x = vs := ⟨_, rfl⟩
              subst hren
              have HO2 := Lib.hid HO.out
              have HE2 := Lib.hid HE.out
              have HA2 := Lib.hid HA.out
              have HB0 := Lib.hid HB1.out
              have HR1 := Lib.hid (own_sto HO1.out HS.out (Nat.le_refl _))
              have hm2 : m2 ≤ n1 := hj
              have hsz2 : g + 3 ≤ X2.heap.size := hsz
              have hsz12 : X1.heap.size ≤ X2.heap.size := hsx
              clear HO HE HA HB1 e0 hj hsz hsx HO1 HS
              go_loopw [1, 11, 18, 19] (fun pl ok i _ wr => ∃ (j : Nat) (A' : Option Addr) (c' : Nat) (ys : List (List Sp)) (vs : List Value) (t' : Sx), j ≤ n2 ∧ i = .int .i64 (j : Int) ∧ BS w wr g (hds n0 n1 n2 n3 v4 v5 v6) [.slice P1 m1 d1, .slice P2 m2 d2, .slice A' j c', .slice none 0 0, .int .i64 vv, .int .i64 vk, .int .i64 vb, .int .i64 vf] ∧ ORt wr X2.heap.size (.slice A' j c') j ys vs ∧ AtS l t' pl ok ∧ Sto g (g + 3) X2 wr ∧ rep fR n2 t2 = (ys ++ (rep fR (n2 - j) t').1, (rep fR (n2 - j) t').2)) (fun _ _ i _ _ => n2 - (intOf i).toNat)
              case atStart => exact ⟨0, none, 0, [], [], t2, by omega, rfl, HB0.out, ORt.nil _ _, HA2.out, Sto.refl _ _ _, rep_start⟩
              case round =>
                obtain ⟨j, A', c', ys, vs, t', hj, rfl, hbs, ho, hat, hst, hrep⟩ := hrel
                have HB1 := Lib.hid hbs
                have HO := Lib.hid ho
                have HA := Lib.hid hat
                have HS := Lib.hid hst
                have HQ := Lib.hid hrep
                have hsz := hbs.size
                have hsx := hst.1.size
                have e0 : wr.cell? ⟨g, 2, none⟩ = some (.int .i64 (n2 : Int)) := hbs.head rfl
                have hok := hat.okb
                subst hok
                clear hbs ho hat hst hrep HB0 HA2
                go_upto_region 26 with fail
                go_cut [109] (fun v wx => v = .bool (decide (j < n2 ∧ okb t' = true)) ∧ wx = wr)
                case first =>
                  by_cases hlt : j < n2
                  · have dj : (j : Int) < (n2 : Int) := by omega
                    go_wp2_with fail
                    go_meet
                    exact ⟨congrArg Value.bool (by simp [hlt]), rfl⟩
                  · have dj : ¬ (j : Int) < (n2 : Int) := by omega
                    go_wp2_with fail
                    go_meet
                    exact ⟨congrArg Value.bool (by simp [hlt]), rfl⟩
                case rest =>
                  obtain ⟨rfl, rfl⟩ := hcut
                  by_cases hgo : j < n2 ∧ okb t' = true
                  case pos =>
                    have hgb : decide (j < n2 ∧ okb t' = true) = true := decide_eq_true hgo
                    rw [hgb]
                    obtain ⟨hlt, hkb⟩ := hgo
                    obtain ⟨k, hk, rfl, rfl⟩ : ∃ k : Nat, k ≤ l.length ∧ t' = some (l.drop k) ∧ u1 = .int .i64 (k : Int) := by
                      rcases HA.out with ⟨rfl, _, _⟩ | ⟨k, h1, h2, h3, _⟩
                      · cases hkb
                      · exact ⟨k, h1, h2, h3⟩
                    clear hgb hkb
                    have HQ2 := Lib.hid (rep_go HQ.out hlt rfl)
                    have HC := Lib.hid (rstops_any A n c l k wc B (HR.out wc HB1.out.bl) (by have := HGW.out; omega) hn hc hk)
                    clear HQ e0
                    go_wp2_with fail
                    refine HC.out.mono ?_
                    rintro e w3 ⟨Ai, ni, ci, pl3, ok3, rfl, hat3, hln, hrow, hb3⟩
                    have hba := (Below.refl w3.heap.size w3).alloc (Nat.le_refl _) (.cells #[.slice Ai ni ci] 40)
                    have HBW := Lib.hid hb3
                    have HOa := Lib.hid ((HO.out.later hb3).later hba)
                    have HXa := Lib.hid (own_later (own_base hrow hsx) hba)
                    have HAT3 := Lib.hid hat3
                    have hzw := hb3.size
                    have p0 : w3.cell? ⟨g + 1, 2, none⟩ = some (.slice A' j c') := (HB1.out.later (hb3.mono hsz)).cell rfl
                    have HV9 := Lib.hid HOa.out.2.1
                    have HL9 := Lib.hid (Reads.lit w3 40 [.slice Ai ni ci] 1 1 rfl _ rfl)
                    have HLN := Lib.hid hln
                    clear hb3 hba hrow hat3 hln HC
                    go_wp2_with (at_builtin; refine wl_app TSS (by rfl) (.tmp 120) (.tmp 122) (by rfl) (.slice A' j c') (by rfl) (some ⟨w3.heap.size, 0, none⟩) 1 1 (by rfl) X2.heap.size j vs HV9.out (w3.heap.size + 1) [.slice Ai ni ci] HL9.out ?s2 ?s3 ?s4 ?s5 ?s6)
                    case s2 => simp [Value.oneCell']
                    case s3 => omega
                    case s4 => omega
                    case s5 => simp; omega
                    case s6 =>
                      intro A9 c9 w9 hown hg _
                      have hb9 : Below X2.heap.size w3 w9 := ((Below.refl X2.heap.size w3).alloc (by omega) _).grown hg (by simp; omega) (own_drop HV9.out)
                      have hbs9 := (HB1.out.later (HBW.out.mono hsz)).later (hb9.mono hsz2)
                      have hO9 := HOa.out.snoc HXa.out HLN.out hg hown
                      have hS9 : Sto g (g + 3) X2 w9 := HS.out.sub ((HBW.out.mono hsx).trans hb9) (by omega)
                      have x0 : w9.cell? ⟨g + 1, 2, none⟩ = some (.slice A' j c') := hbs9.cell rfl
                      have y0 : w9.frozen? ⟨g + 1, 2, none⟩ = false := hbs9.free 2
                      have E1 := Lib.hid (hbs9.put 2 (.slice A9 (j + 1) c9))
                      have E2 := Lib.hid (own_set_rt (k := 2) (x := .slice A9 (j + 1) c9) hO9 (show g + 1 < X2.heap.size by omega))
                      have E3 := Lib.hid (hS9.trans (Sto.of_grown (grown_set w9 (g + 1) 2 (.slice A9 (j + 1) c9)) (by omega) (by omega) (by have := hbs9.size; omega)))
                      clear hown hg hb9 hbs9 hO9 hS9
                      go_wp2_with fail
                      exact ⟨⟨j + 1, A9, c9, _, _, _, by omega, by go_num, E1.out, E2.out, HAT3.out, E3.out, HQ2.out⟩, by simp [intOf]; omega⟩
                  case neg =>
                    have hgb : decide (j < n2 ∧ okb t' = true) = false := decide_eq_false hgo
                    rw [hgb]
                    have HE := Lib.hid (rep_end HQ.out (by cases t' with | none => exact .inr rfl | some r => exact .inl (Nat.le_of_not_lt fun h => hgo ⟨h, rfl⟩)))
                    clear hgb hgo HQ

                    go_wp2_with fail
                    obtain ⟨m3, hren⟩ : ∃ x, x = j := ⟨_, rfl⟩
                    subst hren
                    obtain ⟨P3, hren⟩ : ∃ x, x = A' := ⟨_, rfl⟩
                    subst hren
                    obtain ⟨d3, hren⟩ : ∃ x, x = c' := ⟨_, rfl⟩
                    subst hren
                    obtain ⟨L3, hren⟩ : ∃ x, x = ys := ⟨_, rfl⟩
                    subst hren
                    obtain ⟨t3, hren⟩ : ∃ x, x = t' := ⟨_, rfl⟩
                    subst hren
                    obtain ⟨X3, hren⟩ : ∃ x, x = wc := ⟨_, rfl⟩
                    subst hren
                    obtain ⟨p3, hren⟩ : ∃ x, x = u1 := ⟨_, rfl⟩
                    subst hren
                    obtain ⟨vr, hren⟩ : ∃ x, x = vs := ⟨_, rfl⟩
                    subst hren
                    have HO3 := Lib.hid HO.out
                    have HE3 := Lib.hid HE.out
                    have HA3 := Lib.hid HA.out
                    have HB0 := Lib.hid HB1.out
                    have HR1b := Lib.hid (own_sto HR1.out HS.out (Nat.le_refl _))
                    have HR2 := Lib.hid (obv_sto HO2.out HS.out hsz1)
                    have hm3 : m3 ≤ n2 := hj
                    have hsz3 : g + 3 ≤ X3.heap.size := hsz
                    have hsz23 : X2.heap.size ≤ X3.heap.size := hsx
                    clear HO HE HA HB1 e0 hj hsz hsx HR1 HS HO2
                    go_loopw [1, 11, 20, 21] (fun pl ok i _ wr => ∃ (j : Nat) (A' : Option Addr) (c' : Nat) (ys : List Snd) (css : List (List Value)) (t' : Sx), j ≤ n3 ∧ i = .int .i64 (j : Int) ∧ BS w wr g (hds n0 n1 n2 n3 v4 v5 v6) [.slice P1 m1 d1, .slice P2 m2 d2, .slice P3 m3 d3, .slice A' j c', .int .i64 vv, .int .i64 vk, .int .i64 vb, .int .i64 vf] ∧ OSn wr X3.heap.size (.slice A' j c') j ys css ∧ AtS l t' pl ok ∧ Sto g (g + 3) X3 wr ∧ rep fS n3 t3 = (ys ++ (rep fS (n3 - j) t').1, (rep fS (n3 - j) t').2)) (fun _ _ i _ _ => n3 - (intOf i).toNat)
                    case atStart => exact ⟨0, none, 0, [], [], t3, by omega, rfl, HB0.out, OSn.nil _ _, HA3.out, Sto.refl _ _ _, rep_start⟩
                    case round =>
                      obtain ⟨j, A', c', ys, css, t', hj, rfl, hbs, ho, hat, hst, hrep⟩ := hrel
                      have HB1 := Lib.hid hbs
                      have HO := Lib.hid ho
                      have HA := Lib.hid hat
                      have HS := Lib.hid hst
                      have HQ := Lib.hid hrep
                      have hsz := hbs.size
                      have hsx := hst.1.size
                      have e0 : wr.cell? ⟨g, 3, none⟩ = some (.int .i64 (n3 : Int)) := hbs.head rfl
                      have hok := hat.okb
                      subst hok
                      clear hbs ho hat hst hrep HB0 HA3
                      go_upto_region 32 with fail
                      go_cut [131] (fun v wx => v = .bool (decide (j < n3 ∧ okb t' = true)) ∧ wx = wr)
                      case first =>
                        by_cases hlt : j < n3
                        · have dj : (j : Int) < (n3 : Int) := by omega
                          go_wp2_with fail
                          go_meet
                          exact ⟨congrArg Value.bool (by simp [hlt]), rfl⟩
                        · have dj : ¬ (j : Int) < (n3 : Int) := by omega
                          go_wp2_with fail
                          go_meet
                          exact ⟨congrArg Value.bool (by simp [hlt]), rfl⟩
                      case rest =>
                        obtain ⟨rfl, rfl⟩ := hcut
                        by_cases hgo : j < n3 ∧ okb t' = true
                        case pos =>
                          have hgb : decide (j < n3 ∧ okb t' = true) = true := decide_eq_true hgo
                          rw [hgb]
                          obtain ⟨hlt, hkb⟩ := hgo
                          obtain ⟨k, hk, rfl, rfl⟩ : ∃ k : Nat, k ≤ l.length ∧ t' = some (l.drop k) ∧ u1 = .int .i64 (k : Int) := by
                            rcases HA.out with ⟨rfl, _, _⟩ | ⟨k, h1, h2, h3, _⟩
                            · cases hkb
                            · exact ⟨k, h1, h2, h3⟩
                          clear hgb hkb
                          have HQ2 := Lib.hid (rep_go HQ.out hlt rfl)
                          have HZ0 := Lib.hid (ZB.new wc 43 [.int .i64 0, .slice none 0 0, .int .i64 0])
                          have hbz := (Below.refl wc.heap.size wc).alloc (Nat.le_refl _) (.cells #[.int .i64 0, .slice none 0 0, .int .i64 0] 43)
                          have HC := Lib.hid (rsend_any A n c l k (wc.alloc (.cells #[.int .i64 0, .slice none 0 0, .int .i64 0] 43)) B (HR.out _ (HB1.out.bl.trans (hbz.mono (by omega)))) (by have := HGW.out; simp; omega) hn hk)
                          have HBZ := Lib.hid hbz
                          clear HQ e0 hbz
                          go_wp2_with fail
                          generalize wc.alloc (.cells #[.int .i64 0, .slice none 0 0, .int .i64 0] 43) = wz at *
                          refine HC.out.mono ?_
                          rintro e w3 ⟨Ai, ni, ci, pl3, ok3, rfl, hat3, hln, hrow, hb3⟩
                          obtain ⟨sd, hsd⟩ : ∃ sd, fS (some (l.drop k)) = sd := ⟨_, rfl⟩
                          have HSM := Lib.hid (show ∀ z ∈ sd.1.rts, -9223372036854775808 ≤ z ∧ z ≤ 9223372036854775807 by
                            rw [← hsd]
                            intro z hz
                            have := fN_small (n := nV 1 (nS 1 (some (l.drop k)))) (s := nS 1 (nS 1 (some (l.drop k)))) z hz
                            omega)
                          rw [hsd] at hat3 hln hrow HQ2 ⊢
                          obtain ⟨⟨mg, rts, bl⟩, t4⟩ := sd
                          simp only at hat3 hln hrow
                          have HZ3 := Lib.hid (HZ0.out.later hb3)
                          have c0 : w3.cell? ⟨wc.heap.size, 0, none⟩ = some (.int .i64 0) := HZ3.out.cell rfl
                          have c1 : w3.cell? ⟨wc.heap.size, 1, none⟩ = some (.slice none 0 0) := HZ3.out.cell rfl
                          have c2 : w3.cell? ⟨wc.heap.size, 2, none⟩ = some (.int .i64 0) := HZ3.out.cell rfl
                          have f0 := HZ3.out.free 0
                          have f1 := HZ3.out.free 1
                          have f2 := HZ3.out.free 2
                          have HZ := Lib.hid (((HZ3.out.put 0 (.int .i64 mg)).put 1 (.slice Ai ni ci)).put 2 (.int .i64 bl))
                          have HW := Lib.hid (own_set (k := 2) (x := .int .i64 bl) (own_set (k := 1) (x := .slice Ai ni ci) (own_set (k := 0) (x := .int .i64 mg) hrow HZ0.out.size) HZ0.out.size) HZ0.out.size)
                          have HAT3 := Lib.hid hat3
                          have l0 : (((w3.setCell ⟨wc.heap.size, 0, none⟩ (.int .i64 mg)).setCell ⟨wc.heap.size, 1, none⟩ (.slice Ai ni ci)).setCell ⟨wc.heap.size, 2, none⟩ (.int .i64 bl)).cell? ⟨wc.heap.size, 0, none⟩ = some (.int .i64 mg) := HZ.out.cell rfl
                          have l1 : (((w3.setCell ⟨wc.heap.size, 0, none⟩ (.int .i64 mg)).setCell ⟨wc.heap.size, 1, none⟩ (.slice Ai ni ci)).setCell ⟨wc.heap.size, 2, none⟩ (.int .i64 bl)).cell? ⟨wc.heap.size, 1, none⟩ = some (.slice Ai ni ci) := HZ.out.cell rfl
                          have l2 : (((w3.setCell ⟨wc.heap.size, 0, none⟩ (.int .i64 mg)).setCell ⟨wc.heap.size, 1, none⟩ (.slice Ai ni ci)).setCell ⟨wc.heap.size, 2, none⟩ (.int .i64 bl)).cell? ⟨wc.heap.size, 2, none⟩ = some (.int .i64 bl) := HZ.out.cell rfl
                          have hsW : (((w3.setCell ⟨wc.heap.size, 0, none⟩ (.int .i64 mg)).setCell ⟨wc.heap.size, 1, none⟩ (.slice Ai ni ci)).setCell ⟨wc.heap.size, 2, none⟩ (.int .i64 bl)).heap.size = w3.heap.size := by simp
                          have p0 : (((w3.setCell ⟨wc.heap.size, 0, none⟩ (.int .i64 mg)).setCell ⟨wc.heap.size, 1, none⟩ (.slice Ai ni ci)).setCell ⟨wc.heap.size, 2, none⟩ (.int .i64 bl)).cell? ⟨g + 1, 3, none⟩ = some (.slice A' j c') := (HB1.out.later (HZ.out.2.mono hsz)).cell rfl
                          have hzw := HZ.out.2.size
                          rw [hsW] at hzw
                          have hba := (Below.refl w3.heap.size (((w3.setCell ⟨wc.heap.size, 0, none⟩ (.int .i64 mg)).setCell ⟨wc.heap.size, 1, none⟩ (.slice Ai ni ci)).setCell ⟨wc.heap.size, 2, none⟩ (.int .i64 bl))).alloc (by rw [hsW]; exact Nat.le_refl _) (.cells #[.int .i64 mg, .slice Ai ni ci, .int .i64 bl] 43)
                          have hba' := (Below.refl (((w3.setCell ⟨wc.heap.size, 0, none⟩ (.int .i64 mg)).setCell ⟨wc.heap.size, 1, none⟩ (.slice Ai ni ci)).setCell ⟨wc.heap.size, 2, none⟩ (.int .i64 bl)).heap.size (((w3.setCell ⟨wc.heap.size, 0, none⟩ (.int .i64 mg)).setCell ⟨wc.heap.size, 1, none⟩ (.slice Ai ni ci)).setCell ⟨wc.heap.size, 2, none⟩ (.int .i64 bl))).alloc (Nat.le_refl _) (.cells #[.int .i64 mg, .slice Ai ni ci, .int .i64 bl] 43)
                          have HOa := Lib.hid ((HO.out.later HZ.out.2).later hba')
                          have HXa := Lib.hid (own_later (own_base HW.out (show X3.heap.size ≤ wz.heap.size from Nat.le_trans hsx HBZ.out.size)) hba')
                          have HV9 := Lib.hid HOa.out.2.2.2.1
                          have HL9 := Lib.hid (Reads.lit (((w3.setCell ⟨wc.heap.size, 0, none⟩ (.int .i64 mg)).setCell ⟨wc.heap.size, 1, none⟩ (.slice Ai ni ci)).setCell ⟨wc.heap.size, 2, none⟩ (.int .i64 bl)) 43 [.int .i64 mg, .slice Ai ni ci, .int .i64 bl] 1 3 rfl w3.heap.size hsW)
                          have HBA := Lib.hid hba
                          have HLN := Lib.hid hln
                          clear hb3 hba hba' hrow hat3 hln HC hsd HZ0 HZ3 HW HBZ
                          go_wp2_with (at_builtin; refine wl_app TSp (by rfl) (.tmp 142) (.tmp 144) (by rfl) (.slice A' j c') (by rfl) (some ⟨w3.heap.size, 0, none⟩) 1 1 (by rfl) X3.heap.size j css.flatten HV9.out (w3.heap.size + 1) [.int .i64 mg, .slice Ai ni ci, .int .i64 bl] HL9.out ?s2 ?s3 ?s4 ?s5 ?s6)
                          case s2 => simp [Value.oneCell']
                          case s3 => omega
                          case s4 => omega
                          case s5 => simp; omega
                          case s6 =>
                            intro A9 c9 w9 hown hg _
                            have hb9 : Below X3.heap.size (((w3.setCell ⟨wc.heap.size, 0, none⟩ (.int .i64 mg)).setCell ⟨wc.heap.size, 1, none⟩ (.slice Ai ni ci)).setCell ⟨wc.heap.size, 2, none⟩ (.int .i64 bl)) w9 := (HBA.out.mono (by omega)).grown hg (by simp; omega) (own_drop HV9.out)
                            have hbs9 := (HB1.out.later (HZ.out.2.mono hsz)).later (hb9.mono hsz3)
                            have hO9 := HOa.out.snoc (s := ⟨mg, rts, bl⟩) HXa.out HSM.out hg hown
                            have hS9 : Sto g (g + 3) X3 w9 := HS.out.sub ((HZ.out.2.mono hsx).trans hb9) (by omega)
                            have x0 : w9.cell? ⟨g + 1, 3, none⟩ = some (.slice A' j c') := hbs9.cell rfl
                            have y0 : w9.frozen? ⟨g + 1, 3, none⟩ = false := hbs9.free 3
                            have E1 := Lib.hid (hbs9.put 3 (.slice A9 (j + 1) c9))
                            have E2 := Lib.hid (own_set_sn (k := 3) (x := .slice A9 (j + 1) c9) hO9 (show g + 1 < X3.heap.size by omega))
                            have E3 := Lib.hid (hS9.trans (Sto.of_grown (grown_set w9 (g + 1) 3 (.slice A9 (j + 1) c9)) (by omega) (by omega) (by have := hbs9.size; omega)))
                            clear hown hg hb9 hbs9 hO9 hS9
                            go_wp2_with fail
                            exact ⟨⟨j + 1, A9, c9, _, _, _, by omega, by go_num, E1.out, E2.out, HAT3.out, E3.out, HQ2.out⟩, by simp [intOf]; omega⟩
                        case neg =>
                          have hgb : decide (j < n3 ∧ okb t' = true) = false := decide_eq_false hgo
                          rw [hgb]
                          have HE := Lib.hid (rep_end HQ.out (by cases t' with | none => exact .inr rfl | some r => exact .inl (Nat.le_of_not_lt fun h => hgo ⟨h, rfl⟩)))
                          clear hgb hgo HQ
                          have hRR : wc.heap[g + 1 + 1]? = some (.cells #[.slice none 0 0, .slice none 0 0, .slice none 0 0, .slice none 0 0, .int .i64 0, .int .i64 0, .int .i64 0, .int .i64 0] 30 (0, 0)) := HB1.out.rr
                          have p0 : wc.cell? ⟨g + 1, 0, none⟩ = some (.slice P1 m1 d1) := HB1.out.cell rfl
                          have p1 : wc.cell? ⟨g + 1, 1, none⟩ = some (.slice P2 m2 d2) := HB1.out.cell rfl
                          have p2 : wc.cell? ⟨g + 1, 2, none⟩ = some (.slice P3 m3 d3) := HB1.out.cell rfl
                          have p3 : wc.cell? ⟨g + 1, 3, none⟩ = some (.slice A' j c') := HB1.out.cell rfl
                          have p4 : wc.cell? ⟨g + 1, 4, none⟩ = some (.int .i64 vv) := HB1.out.cell rfl
                          have p5 : wc.cell? ⟨g + 1, 5, none⟩ = some (.int .i64 vk) := HB1.out.cell rfl
                          have p6 : wc.cell? ⟨g + 1, 6, none⟩ = some (.int .i64 vb) := HB1.out.cell rfl
                          have p7 : wc.cell? ⟨g + 1, 7, none⟩ = some (.int .i64 vf) := HB1.out.cell rfl
                          have r0 : wc.cell? ⟨g + 1 + 1, 0, none⟩ = some (.slice none 0 0) := by rw [blk_cell hRR]; rfl
                          have r1 : wc.cell? ⟨g + 1 + 1, 1, none⟩ = some (.slice none 0 0) := by rw [blk_cell hRR]; rfl
                          have r2 : wc.cell? ⟨g + 1 + 1, 2, none⟩ = some (.slice none 0 0) := by rw [blk_cell hRR]; rfl
                          have r3 : wc.cell? ⟨g + 1 + 1, 3, none⟩ = some (.slice none 0 0) := by rw [blk_cell hRR]; rfl
                          have r4 : wc.cell? ⟨g + 1 + 1, 4, none⟩ = some (.int .i64 0) := by rw [blk_cell hRR]; rfl
                          have r5 : wc.cell? ⟨g + 1 + 1, 5, none⟩ = some (.int .i64 0) := by rw [blk_cell hRR]; rfl
                          have r6 : wc.cell? ⟨g + 1 + 1, 6, none⟩ = some (.int .i64 0) := by rw [blk_cell hRR]; rfl
                          have r7 : wc.cell? ⟨g + 1 + 1, 7, none⟩ = some (.int .i64 0) := by rw [blk_cell hRR]; rfl
                          have y0 : wc.frozen? ⟨g + 1 + 1, 0, none⟩ = false := frozen_of_row _ _ _ _ _ hRR
                          have y1 : wc.frozen? ⟨g + 1 + 1, 1, none⟩ = false := frozen_of_row _ _ _ _ _ hRR
                          have y2 : wc.frozen? ⟨g + 1 + 1, 2, none⟩ = false := frozen_of_row _ _ _ _ _ hRR
                          have y3 : wc.frozen? ⟨g + 1 + 1, 3, none⟩ = false := frozen_of_row _ _ _ _ _ hRR
                          have y4 : wc.frozen? ⟨g + 1 + 1, 4, none⟩ = false := frozen_of_row _ _ _ _ _ hRR
                          have y5 : wc.frozen? ⟨g + 1 + 1, 5, none⟩ = false := frozen_of_row _ _ _ _ _ hRR
                          have y6 : wc.frozen? ⟨g + 1 + 1, 6, none⟩ = false := frozen_of_row _ _ _ _ _ hRR
                          have y7 : wc.frozen? ⟨g + 1 + 1, 7, none⟩ = false := frozen_of_row _ _ _ _ _ hRR
                          have HRR := Lib.hid hRR
                          clear hRR
                          go_wp2_with fail
                          (try simp only [Exit.inBlock, Exit.then])
                          have hE : bdP n0 n1 n2 n3 s0 vv vk vb vf = (⟨L1, L2, L3, ys, vv, vk, vb, vf⟩, t') := by
                            unfold bdP
                            simp only [HE1.out, HE2.out, HE3.out, HE.out]
                          refine bodyPost_ret (v := .tuple #[.agg #[.slice P1 m1 d1, .slice P2 m2 d2, .slice P3 m3 d3, .slice A' j c', .int .i64 vv, .int .i64 vk, .int .i64 vb, .int .i64 vf], u1, .bool (okb t')]) (results_cell_tmp3 rfl _ _ _ ⟨g + 1 + 1, 0, none⟩ _ _ _ rfl rfl rfl (prg_load _ _ _ _ _ _ _ _ _ _ (prg_set _ _ _ _ _ _ _ _ _ _ _ _ _ _ _ _ _ _ _ HRR.out))) rfl ?_
                          rw [hE]
                          have e1 := own_sto HR1b.out HS.out (Nat.le_refl _)
                          have e2 := obv_sto HR2.out HS.out hsz1
                          have e3 := ort_sto HO3.out HS.out hsz2
                          have e4 := HO.out
                          refine ⟨⟨P1, m1, d1, P2, m2, d2, P3, m3, d3, A', j, c'⟩, vm, u1, .bool (okb t'), rfl, HA.out, ?_, ?_⟩
                          · rw [HGW.out]
                            refine (PO.far (base := g + 3) ⟨e1, HYL1.out, e2.base_le hsz1, ⟨vr, ort_base e3 hsz2⟩, ⟨css, osn_base e4 hsz3⟩, ?_, ?_, ?_, ?_⟩ fun b hb => set_far8 _ _ _ _ _ _ _ _ _ _ b (by omega)).base_le (by omega)
                            · exact Nat.le_trans hm1 hn0
                            · exact Nat.le_trans hm2 hn1
                            · exact Nat.le_trans hm3 hn2
                            · exact Nat.le_trans hj hn3
                          · rw [HGW.out]
                            exact HB1.out.bl.trans ((set_below8 _ _ _ _ _ _ _ _ _ _).mono (by omega))
end Go.Proofs.YtkmcjjoicpgjfaaDoor
