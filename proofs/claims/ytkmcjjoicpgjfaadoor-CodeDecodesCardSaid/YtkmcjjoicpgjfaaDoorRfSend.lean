/-
  Contract of shallotref18.send: one send. Conditions: the place lies within the bytes; the sizes that slices can have.
-/
import Derived.Test.YtkmcjjoicpgjfaaDoorRdSn
import Derived.Handy
/-
  Contracts of shallotref18.get and shallotref18.text: a number, or bytes, at a place; false where not all are there. Conditions: the place lies within the bytes; the sizes that slices can have.
-/
namespace Go.Proofs.YtkmcjjoicpgjfaaDoor
open Go Go.RowKit Go.Sh

set_option maxRecDepth 100000 in
theorem rget_ok (A : Option Addr) (n c : Nat) (l : List UInt8) (a d : Nat) (D : Int) (hD : D = (d : Int)) (h1 : 1 ≤ d) (h4 : d ≤ 4) (w : World) (B : Nat) (hl : RB w B A n l) (hn : n ≤ 140737488355328) (ha : a ≤ l.length) (hd : d ≤ (l.drop a).length) :
    Calls Tryd.prog 48 #[.slice A n c, .int .i64 (a : Int), .int .i64 D] w (fun e w' => e = .returned (.tuple #[.int .i64 (nV d (some (l.drop a)) : Int), .int .i64 ((a + d : Nat) : Int), .bool true]) ∧ w = w') := by
  subst hD
  have hlen := hl.len
  have hg := RefGet_any 2 A n c l (a : Int) (d : Int) w B hl hn (by omega)
  rw [← hlen] at hg
  have ev := getV_two (l := l) h1 (by omega) ha
  have ee := getE_two (l := l) h1 (by omega) ha
  rw [if_pos hd] at ee
  rw [ev, ee] at hg
  rw [List.length_drop] at hd
  have hlt := nV_lt d (some (l.drop a))
  have h256 : 256 ^ d ≤ 4294967296 := Nat.le_trans (Nat.pow_le_pow_right (by decide) h4) (by decide)
  generalize nV d (some (l.drop a)) = v at *
  unfold GetPost at hg
  rw [hlen] at hg
  have HG := Lib.hid hg
  have hv : (v : Int) ≤ 4294967295 := by omega
  have d1 : ¬ (n : Int) - (a : Int) < (d : Int) := by omega
  clear hg ev ee hlt h256
  go_enter Tryd.func48, Tryd.ntmps48
  go_wp2_with fail
  refine HG.out.mono ?_
  rintro e w1 ⟨rfl, rfl⟩
  go_wp2_with fail
  go_ret3
  simp
set_option maxRecDepth 100000 in
theorem rget_no (A : Option Addr) (n c : Nat) (l : List UInt8) (a d : Nat) (D : Int) (hD : D = (d : Int)) (w : World) (B : Nat) (hl : RB w B A n l) (hn : n ≤ 140737488355328) (ha : a ≤ l.length) (hd : ¬ d ≤ (l.drop a).length) :
    Calls Tryd.prog 48 #[.slice A n c, .int .i64 (a : Int), .int .i64 D] w (fun e w' => e = .returned (.tuple #[.int .i64 0, .int .i64 (-1), .bool false]) ∧ w = w') := by
  subst hD
  have hlen := hl.len
  rw [List.length_drop] at hd
  have d1 : (n : Int) - (a : Int) < (d : Int) := by omega
  go_enter Tryd.func48, Tryd.ntmps48
  go_wp2_with fail
  go_ret3
  simp
set_option maxRecDepth 100000 in
theorem rtext_ok (A : Option Addr) (n c : Nat) (l : List UInt8) (a d : Nat) (D : Int) (hD : D = (d : Int)) (w : World) (B : Nat) (hl : RB w B A n l) (hB : B ≤ w.heap.size) (hn : n ≤ 140737488355328) (hc : n ≤ c) (ha : a ≤ l.length) (hd : d ≤ (l.drop a).length) :
    Calls Tryd.prog 71 #[.slice A n c, .int .i64 (a : Int), .int .i64 D] w (fun e w' => ∃ A' c', e = .returned (.tuple #[.slice A' d c', .int .i64 ((a + d : Nat) : Int), .bool true]) ∧ (pV d (some (l.drop a))).length = d ∧ w'.ownsRow w.heap.size 5 1 (.slice A' d c') d (bv (pV d (some (l.drop a)))) ∧ Below w.heap.size w w') := by
  subst hD
  have hlen := hl.len
  have hd' := hd
  rw [List.length_drop] at hd
  have d1 : ¬ (n : Int) - (a : Int) < (d : Int) := by omega
  have hp : pV d (some (l.drop a)) = (l.drop a).take d := by rw [pV_some, if_pos hd']
  have hpl : ((l.drop a).take d).length = d := by rw [List.length_take]; omega
  rw [hp]
  have HRB := Lib.hid ((hl.cut (k := a) (cap := c) (by omega) hc).take (k := d) (by omega))
  obtain ⟨A3, hA3⟩ : ∃ A3, A3 = (if c = a then A else A.map (·.add a)) := ⟨_, rfl⟩
  have hrun : ∀ W, (Instr.slice 39 (.slice A n c) (some (.int .i64 (a : Int))) (some (.int .i64 ((a : Int) + (d : Int)))) none).run Tryd.prog W = .ok (.slice A3 d (c - a)) W := fun W => by
    have := run_sl TB W A n c .i64 .i64 a (a + d) (by omega) (by omega)
    rw [Nat.mul_one, Nat.add_sub_cancel_left, ← hA3, show ((a + d : Nat) : Int) = (a : Int) + (d : Int) by omega] at this
    exact this
  rw [← hA3] at HRB
  generalize (l.drop a).take d = pl at *
  clear hA3 hp hd' hl
  have e1 : IntKind.i64.wrap ((a : Int) + (d : Int)) = (a : Int) + (d : Int) := by rw [IntKind.wrap_i64]; omega
  go_enter Tryd.func71, Tryd.ntmps71
  go_wp2_with fail
  refine (Copy_any A3 d (c - a) pl w B HRB.out hB (by omega)).mono ?_
  rintro e w1 ⟨g', c', rfl, ho, hb⟩
  have HO := Lib.hid ho
  have HB := Lib.hid hb
  clear ho hb hrun
  go_wp2_with fail
  go_ret3
  exact ⟨_, c', by simp, hpl, HO.out, HB.out⟩
set_option maxRecDepth 100000 in
theorem rtext_no (A : Option Addr) (n c : Nat) (l : List UInt8) (a d : Nat) (D : Int) (hD : D = (d : Int)) (w : World) (B : Nat) (hl : RB w B A n l) (ha : a ≤ l.length) (hd4 : d ≤ 140737488355328) (hd : ¬ d ≤ (l.drop a).length) :
    Calls Tryd.prog 71 #[.slice A n c, .int .i64 (a : Int), .int .i64 D] w (fun e w' => e = .returned (.tuple #[.slice none 0 0, .int .i64 (-1), .bool false]) ∧ w = w') := by
  subst hD
  have hlen := hl.len
  rw [List.length_drop] at hd
  have d1 : (n : Int) - (a : Int) < (d : Int) := by omega
  go_enter Tryd.func71, Tryd.ntmps71
  go_wp2_with fail
  go_ret3
  simp
end Go.Proofs.YtkmcjjoicpgjfaaDoor
/-
  Contract of shallotref18.stops: one route. Conditions: the place lies within the bytes; the sizes that slices can have.
-/
namespace Go.Proofs.YtkmcjjoicpgjfaaDoor
open Go Go.RowKit Go.Sh

/-- where the reference's reading stands: a place in the bytes, or short -/
def AtS (l : List UInt8) (t : Sx) (pl ok : Value) : Prop :=
  (t = none ∧ pl = .int .i64 (-1) ∧ ok = .bool false) ∨ ∃ k : Nat, k ≤ l.length ∧ t = some (l.drop k) ∧ pl = .int .i64 (k : Int) ∧ ok = .bool true
theorem AtS.no (l : List UInt8) : AtS l none (.int .i64 (-1)) (.bool false) := .inl ⟨rfl, rfl, rfl⟩
theorem AtS.yes {l : List UInt8} {k : Nat} (h : k ≤ l.length) : AtS l (some (l.drop k)) (.int .i64 (k : Int)) (.bool true) := .inr ⟨k, h, rfl, rfl, rfl⟩
theorem AtS.yes' {l : List UInt8} {k : Nat} {z : Int} (h : k ≤ l.length) (hz : z = (k : Int)) : AtS l (some (l.drop k)) (.int .i64 z) (.bool true) := by subst hz; exact .yes h
theorem nS_ok {l : List UInt8} {k d : Nat} (h : d ≤ (l.drop k).length) : nS d (some (l.drop k)) = some (l.drop (k + d)) := by rw [nS_some, if_pos h, List.drop_drop]
theorem nS_no {r : List UInt8} {d : Nat} (h : ¬ d ≤ r.length) : nS d (some r) = none := by rw [nS_some, if_neg h]
theorem nV_no {r : List UInt8} {d : Nat} (h : ¬ d ≤ r.length) : nV d (some r) = 0 := by rw [nV_some, if_neg h]
theorem pV_no {r : List UInt8} {d : Nat} (h : ¬ d ≤ r.length) : pV d (some r) = [] := by rw [pV_some, if_neg h]
theorem drop_le {l : List UInt8} {k d : Nat} (hk : k ≤ l.length) (h : d ≤ (l.drop k).length) : k + d ≤ l.length := by rw [List.length_drop] at h; omega
/-- a variable's own block, made in this round -/
def ZB (w W : World) (ty : Nat) (cs : List Value) : Prop := W.heap[w.heap.size]? = some (.cells cs.toArray ty (0, 0)) ∧ Below w.heap.size w W
theorem ZB.new (w : World) (ty : Nat) (cs : List Value) : ZB w (w.alloc (.cells cs.toArray ty)) ty cs := ⟨heap_alloc_new w _, (Below.refl _ _).alloc (Nat.le_refl _) _⟩
theorem ZB.put {w W : World} {ty : Nat} {cs : List Value} (h : ZB w W ty cs) (k : Nat) (v : Value) : ZB w (W.setCell ⟨w.heap.size, k, none⟩ v) ty (cs.set k v) := ⟨set_blk h.1, h.2.setCell (p := ⟨w.heap.size, k, none⟩) (Nat.le_refl _) v⟩
theorem ZB.size {w W : World} {ty : Nat} {cs : List Value} (h : ZB w W ty cs) : w.heap.size < W.heap.size := (Array.getElem?_eq_some_iff.1 h.1).1
theorem ZB.later {w W W' : World} {ty : Nat} {cs : List Value} (h : ZB w W ty cs) (hb : Below W.heap.size W W') : ZB w W' ty cs := ⟨(hb.block _ h.size).trans h.1, h.2.trans (hb.mono h.2.size)⟩
theorem ZB.cell {w W : World} {ty : Nat} {cs : List Value} (h : ZB w W ty cs) {k : Nat} {v : Value} (hv : cs[k]? = some v) : W.cell? ⟨w.heap.size, k, none⟩ = some v := by rw [blk_cell h.1, List.getElem?_toArray]; exact hv
theorem ZB.free {w W : World} {ty : Nat} {cs : List Value} (h : ZB w W ty cs) (k : Nat) : W.frozen? ⟨w.heap.size, k, none⟩ = false := frozen_of_row _ _ _ _ _ h.1
def rstPost (w : World) (l : List UInt8) (s : Sx) (e : Ending) (w' : World) : Prop :=
  ∃ A m c pl ok, e = .returned (.tuple #[.slice A m c, pl, ok]) ∧ AtS l (fR s).2 pl ok ∧ (fR s).1.length = m ∧ w'.ownsRow w.heap.size 66 3 (.slice A m c) m (spv (fR s).1) ∧ Below w.heap.size w w'
set_option maxRecDepth 100000 in
set_option maxHeartbeats 8000000 in
theorem rstops_any (A : Option Addr) (n c : Nat) (l : List UInt8) (a : Nat) (w : World) (B : Nat) (hl : RB w B A n l) (hB : B ≤ w.heap.size) (hn : n ≤ 140737488355328) (hc : n ≤ c) (ha : a ≤ l.length) :
    Calls Tryd.prog 72 #[.slice A n c, .int .i64 (a : Int)] w (rstPost w l (some (l.drop a))) := by
  have HR := Lib.hid hl
  have HLEN := Lib.hid hl.len
  have HEMP := Lib.hid (show (⟨([] : List UInt8).toArray⟩ : ByteArray) = .empty from rfl)
  obtain ⟨e0, he0⟩ : ∃ e0 : ByteArray, ByteArray.empty = e0 := ⟨_, rfl⟩
  have hzs : ∀ W : World, (zeroValue 66).run Tryd.prog W = .ok (.agg #[.string e0, .int .i64 0, .int .i64 0]) W := fun _ => by rw [← he0]; kernel_rfl
  have HE0 := Lib.hid he0
  clear hl he0
  by_cases h1 : 1 ≤ (l.drop a).length
  case neg =>
    have HG := Lib.hid (rget_no A n c l a 1 1 rfl w B HR.out hn ha h1)
    have hf : fR (some (l.drop a)) = ([], none) := by unfold fR; rw [nV_no h1, nS_no h1]; rfl
    unfold rstPost
    rw [hf]
    clear hf
    go_enter Tryd.func72, Tryd.ntmps72
    go_wp2_with fail
    refine HG.out.mono ?_
    rintro e w1 ⟨rfl, rfl⟩
    go_wp2_with fail
    go_loopw [1, 8, 9, 10, 11, 12, 13] (fun pl ok out i _ _ _ wr => pl = .int .i64 (-1) ∧ ok = .bool false ∧ out = .slice none 0 0 ∧ i = .int .i64 0 ∧ w = wr) (fun _ _ _ _ _ _ _ _ => 0)
    case atStart => exact ⟨rfl, rfl, rfl, rfl, rfl⟩
    case round =>
      obtain ⟨rfl, rfl, rfl, rfl, rfl⟩ := hrel
      go_wp2_with fail
      go_ret3
      exact ⟨none, 0, 0, _, _, rfl, AtS.no l, rfl, World.ownsRow_nil _ _ _ _, Below.refl _ _⟩
  case pos =>
    have HG := Lib.hid (rget_ok A n c l a 1 1 rfl (by decide) (by decide) w B HR.out hn ha h1)
    have ha1 := drop_le ha h1
    have hs1 := nS_ok h1
    obtain ⟨o, ho⟩ : ∃ o, nV 1 (some (l.drop a)) = o := ⟨_, rfl⟩
    have lo : o < 256 := by rw [← ho]; exact nV_lt 1 _
    have hf : fR (some (l.drop a)) = rep fT o (some (l.drop (a + 1))) := by unfold fR; rw [ho, hs1]
    unfold rstPost
    rw [hf]
    rw [ho] at HG
    clear hf hs1 ho
    go_enter Tryd.func72, Tryd.ntmps72
    go_wp2_with fail
    refine HG.out.mono ?_
    rintro e w1 ⟨rfl, rfl⟩
    go_wp2_with fail
    go_loopw [1, 8, 9, 10, 11, 12, 13] (fun pl ok out i _ _ _ wr => ∃ (j : Nat) (A' : Option Addr) (c' : Nat) (ys : List Sp) (t' : Sx), j ≤ o ∧ i = .int .i64 (j : Int) ∧ out = .slice A' j c' ∧ ys.length = j ∧ wr.ownsRow w.heap.size 66 3 (.slice A' j c') j (spv ys) ∧ AtS l t' pl ok ∧ Below w.heap.size w wr ∧ rep fT o (some (l.drop (a + 1))) = (ys ++ (rep fT (o - j) t').1, (rep fT (o - j) t').2)) (fun _ _ _ i _ _ _ _ => o - (intOf i).toNat)
    case atStart => exact ⟨0, none, 0, [], _, by omega, rfl, rfl, rfl, World.ownsRow_nil _ _ _ _, AtS.yes' ha1 (by simp), Below.refl _ _, rep_start⟩
    case round =>
      obtain ⟨j, A', c', ys, t', hj, rfl, rfl, hyl, ho, hat, hb, hrep⟩ := hrel
      have HYL := Lib.hid hyl
      have HO := Lib.hid ho
      have HBr := Lib.hid hb
      have HQ := Lib.hid hrep
      have hsz := hb.size
      clear hyl ho hb hrep HG
      rcases hat with ⟨rfl, rfl, rfl⟩ | ⟨k, hk, rfl, rfl, rfl⟩
      · have HE := Lib.hid (rep_end HQ.out (.inr rfl))
        by_cases hlt : j < o
        · have dj : (j : Int) < (o : Int) := by omega
          go_wp2_with fail
          go_ret3
          rw [HE.out]
          exact ⟨A', j, c', _, _, rfl, AtS.no l, HYL.out, HO.out, HBr.out⟩
        · have dj : ¬ (j : Int) < (o : Int) := by omega
          go_wp2_with fail
          go_ret3
          rw [HE.out]
          exact ⟨A', j, c', _, _, rfl, AtS.no l, HYL.out, HO.out, HBr.out⟩
      · by_cases hlt : j < o
        case neg =>
          have dj : ¬ (j : Int) < (o : Int) := by omega
          have HE := Lib.hid (rep_end HQ.out (.inl (by omega)))
          go_wp2_with fail
          go_ret3
          rw [HE.out]
          exact ⟨A', j, c', _, _, rfl, AtS.yes hk, HYL.out, HO.out, HBr.out⟩
        case pos =>
          have dj : (j : Int) < (o : Int) := by omega
          have HQ2 := Lib.hid (rep_go HQ.out hlt rfl)
          have HZ0 := Lib.hid (ZB.new wr 66 [.string e0, .int .i64 0, .int .i64 0])
          have HRz := Lib.hid (fun (W : World) (h : Below wr.heap.size wr W) => (HR.out.below (HBr.out.mono hB)).below (h.mono (by omega)))
          have hfin : ∀ (W : World) (nm : ByteArray) (dl fl : Int) (t4 : Sx), fT (some (l.drop k)) = (⟨nm, dl, fl⟩, t4) → Below wr.heap.size wr W →
              Go.RowKit.Hid (W.ownsRow w.heap.size 66 3 (.slice A' j c') j (spv ys)) ∧ w.heap.size ≤ W.heap.size ∧
              ∀ (A9 : Option Addr) (c9 : Nat) (w9 : World), w9.ownsRow w.heap.size 66 3 (.slice A9 (j + 1) c9) (j + 1) (spv ys ++ [.string nm, .int .i64 dl, .int .i64 fl]) → (W.alloc (.cells #[.string nm, .int .i64 dl, .int .i64 fl] 66)).grownBy w9 (Value.slice A' j c').ownBlock →
              ∃ ys' : List Sp, ys'.length = j + 1 ∧ w9.ownsRow w.heap.size 66 3 (.slice A9 (j + 1) c9) (j + 1) (spv ys') ∧ Below w.heap.size w w9 ∧ rep fT o (some (l.drop (a + 1))) = (ys' ++ (rep fT (o - (j + 1)) t4).1, (rep fT (o - (j + 1)) t4).2) := by
            intro W nm dl fl t4 hft hbW
            refine ⟨Lib.hid (own_later HO.out hbW), Nat.le_trans hsz hbW.size, ?_⟩
            intro A9 c9 w9 hown hg
            have hb9 : Below w.heap.size W w9 := ((Below.refl w.heap.size W).alloc (Nat.le_trans hsz hbW.size) _).grown hg (by have := hbW.size; simp; omega) (own_drop HO.out)
            have hQ := HQ2.out
            rw [hft] at hQ
            refine ⟨ys ++ [⟨nm, dl, fl⟩], by rw [List.length_append, HYL.out]; rfl, ?_, HBr.out.trans ((hbW.mono hsz).trans hb9), hQ⟩
            unfold spv
            rw [List.map_append, List.flatten_append]
            exact hown
          have HF := Lib.hid hfin
          clear hfin HQ HQ2
          by_cases g1 : 1 ≤ (l.drop k).length
          case neg =>
            have HG1 := Lib.hid (fun W h => rget_no A n c l k 1 1 rfl W B (HRz.out W h) hn hk g1)
            have HFT := Lib.hid (show fT (some (l.drop k)) = (⟨e0, 0, 0⟩, none) by unfold fT; rw [nS_no g1, ← HE0.out]; rfl)
            go_wp2_with fail
            generalize wr.alloc (.cells #[.string e0, .int .i64 0, .int .i64 0] 66) = wz at *
            refine (HG1.out wz HZ0.out.2).mono ?_
            rintro e w1 ⟨rfl, rfl⟩
            have HRN := Lib.hid (show RB wz B none 0 [] from Reads.none_)
            have HZ := Lib.hid HZ0.out
            have c0 : wz.cell? ⟨wr.heap.size, 0, none⟩ = some (.string e0) := HZ.out.cell rfl
            have f0 : wz.frozen? ⟨wr.heap.size, 0, none⟩ = false := HZ.out.free 0
            clear HZ
            have HZ := Lib.hid (HZ0.out.put 0 (.string e0))
            obtain ⟨HO9, hz9, hF9⟩ := HF.out (wz.setCell ⟨wr.heap.size, 0, none⟩ (.string e0)) e0 0 0 none HFT.out HZ.out.2
            have HF9 := Lib.hid hF9
            have HL9 := Lib.hid (Reads.lit (wz.setCell ⟨wr.heap.size, 0, none⟩ (.string e0)) 66 [.string e0, .int .i64 0, .int .i64 0] 1 3 rfl wz.heap.size (World.size_setCell ..))
            have HV9 := Lib.hid (HO9.out.alloc (.cells #[.string e0, .int .i64 0, .int .i64 0] 66))
            have hzw : (wz.setCell ⟨wr.heap.size, 0, none⟩ (.string e0)).heap.size = wz.heap.size := World.size_setCell ..
            have l0 : (wz.setCell ⟨wr.heap.size, 0, none⟩ (.string e0)).cell? ⟨wr.heap.size, 0, none⟩ = some (.string e0) := HZ.out.cell rfl
            have l1 : (wz.setCell ⟨wr.heap.size, 0, none⟩ (.string e0)).cell? ⟨wr.heap.size, 1, none⟩ = some (.int .i64 0) := HZ.out.cell rfl
            have l2 : (wz.setCell ⟨wr.heap.size, 0, none⟩ (.string e0)).cell? ⟨wr.heap.size, 2, none⟩ = some (.int .i64 0) := HZ.out.cell rfl
            clear hF9
            rw [hzw] at hz9
            clear hzw
            go_wp2_with (first | (refine wl_str Tryd.underlying39 Tryd.underlying5 Tryd.underlying9 rfl (.tmp 45) rfl none 0 0 rfl B [] HRN.out ?_; rw [HEMP.out, HE0.out]) | ((at_builtin; refine wl_app TSt (by rfl) (.tmp 66) (.tmp 68) (by rfl) (.slice A' j c') (by rfl) (some ⟨wz.heap.size, 0, none⟩) 1 1 (by rfl) w.heap.size j _ HV9.out (wz.heap.size + 1) [.string e0, .int .i64 0, .int .i64 0] HL9.out ?p2 ?p3 ?p4 ?p5 ?p6)))
            case p2 => simp [Value.oneCell']
            case p3 => omega
            case p4 => omega
            case p5 => simp; omega
            case p6 =>
              intro A9 c9 w9 hown hg _
              obtain ⟨ys', e1, e2, e3, e4⟩ := HF9.out A9 c9 w9 hown hg
              clear hown hg
              go_wp2_with fail
              exact ⟨⟨j + 1, A9, c9, ys', none, by omega, by go_num, rfl, e1, e2, AtS.no l, e3, e4⟩, by simp [intOf]; omega⟩
          have HG1 := Lib.hid (fun W h => rget_ok A n c l k 1 1 rfl (by decide) (by decide) W B (HRz.out W h) hn hk g1)
          have hk1 := drop_le hk g1
          have x1 := nS_ok g1
          obtain ⟨o1, ho1⟩ : ∃ o1, nV 1 (some (l.drop k)) = o1 := ⟨_, rfl⟩
          have lo1 : o1 < 256 := by rw [← ho1]; exact nV_lt 1 _
          rw [ho1] at HG1
          by_cases g2 : o1 ≤ (l.drop (k + 1)).length
          case neg =>
            have HG2 := Lib.hid (fun W h => rtext_no A n c l (k + 1) o1 o1 rfl W B (HRz.out W h) hk1 (by omega) g2)
            have HFT := Lib.hid (show fT (some (l.drop k)) = (⟨e0, 0, 0⟩, none) by unfold fT; rw [x1, ho1, pV_no g2, nS_no g2, ← HE0.out]; rfl)
            clear x1 ho1
            go_wp2_with fail
            generalize wr.alloc (.cells #[.string e0, .int .i64 0, .int .i64 0] 66) = wz at *
            refine (HG1.out wz HZ0.out.2).mono ?_
            rintro e w1 ⟨rfl, rfl⟩
            go_wp2_with fail
            have hzz := HZ0.out.size
            refine (HG2.out wz HZ0.out.2).mono ?_
            rintro e w1 ⟨rfl, rfl⟩
            have HRN := Lib.hid (show RB wz B none 0 [] from Reads.none_)
            have HZ := Lib.hid HZ0.out
            have c0 : wz.cell? ⟨wr.heap.size, 0, none⟩ = some (.string e0) := HZ.out.cell rfl
            have f0 : wz.frozen? ⟨wr.heap.size, 0, none⟩ = false := HZ.out.free 0
            clear HZ
            have HZ := Lib.hid (HZ0.out.put 0 (.string e0))
            obtain ⟨HO9, hz9, hF9⟩ := HF.out (wz.setCell ⟨wr.heap.size, 0, none⟩ (.string e0)) e0 0 0 none HFT.out HZ.out.2
            have HF9 := Lib.hid hF9
            have HL9 := Lib.hid (Reads.lit (wz.setCell ⟨wr.heap.size, 0, none⟩ (.string e0)) 66 [.string e0, .int .i64 0, .int .i64 0] 1 3 rfl wz.heap.size (World.size_setCell ..))
            have HV9 := Lib.hid (HO9.out.alloc (.cells #[.string e0, .int .i64 0, .int .i64 0] 66))
            have hzw : (wz.setCell ⟨wr.heap.size, 0, none⟩ (.string e0)).heap.size = wz.heap.size := World.size_setCell ..
            have l0 : (wz.setCell ⟨wr.heap.size, 0, none⟩ (.string e0)).cell? ⟨wr.heap.size, 0, none⟩ = some (.string e0) := HZ.out.cell rfl
            have l1 : (wz.setCell ⟨wr.heap.size, 0, none⟩ (.string e0)).cell? ⟨wr.heap.size, 1, none⟩ = some (.int .i64 0) := HZ.out.cell rfl
            have l2 : (wz.setCell ⟨wr.heap.size, 0, none⟩ (.string e0)).cell? ⟨wr.heap.size, 2, none⟩ = some (.int .i64 0) := HZ.out.cell rfl
            clear hF9
            rw [hzw] at hz9
            clear hzw
            go_wp2_with (first | (refine wl_str Tryd.underlying39 Tryd.underlying5 Tryd.underlying9 rfl (.tmp 45) rfl none 0 0 rfl B [] HRN.out ?_; rw [HEMP.out, HE0.out]) | ((at_builtin; refine wl_app TSt (by rfl) (.tmp 66) (.tmp 68) (by rfl) (.slice A' j c') (by rfl) (some ⟨wz.heap.size, 0, none⟩) 1 1 (by rfl) w.heap.size j _ HV9.out (wz.heap.size + 1) [.string e0, .int .i64 0, .int .i64 0] HL9.out ?q2 ?q3 ?q4 ?q5 ?q6)))
            case q2 => simp [Value.oneCell']
            case q3 => omega
            case q4 => omega
            case q5 => simp; omega
            case q6 =>
              intro A9 c9 w9 hown hg _
              obtain ⟨ys', e1, e2, e3, e4⟩ := HF9.out A9 c9 w9 hown hg
              clear hown hg
              go_wp2_with fail
              exact ⟨⟨j + 1, A9, c9, ys', none, by omega, by go_num, rfl, e1, e2, AtS.no l, e3, e4⟩, by simp [intOf]; omega⟩
          have HG2 := Lib.hid (fun W h hB => rtext_ok A n c l (k + 1) o1 o1 rfl W B (HRz.out W h) hB hn hc hk1 g2)
          have hk2 := drop_le hk1 g2
          have x2 := nS_ok g2
          obtain ⟨nl, hnl⟩ : ∃ nl, pV o1 (some (l.drop (k + 1))) = nl := ⟨_, rfl⟩
          obtain ⟨nm, hnm⟩ : ∃ nm : ByteArray, ⟨nl.toArray⟩ = nm := ⟨_, rfl⟩
          rw [hnl] at HG2
          have HNM := Lib.hid hnm
          by_cases g3 : 4 ≤ (l.drop (k + 1 + o1)).length
          case neg =>
            have HG3 := Lib.hid (fun W h => rget_no A n c l (k + 1 + o1) 4 4 rfl W B (HRz.out W h) hn hk2 g3)
            have HFT := Lib.hid (show fT (some (l.drop k)) = (⟨nm, 0, 0⟩, none) by unfold fT; rw [x1, ho1, hnl, hnm, x2, nV_no g3, nS_no g3]; rfl)
            clear x1 ho1 x2 hnl hnm
            go_wp2_with fail
            generalize wr.alloc (.cells #[.string e0, .int .i64 0, .int .i64 0] 66) = wz at *
            refine (HG1.out wz HZ0.out.2).mono ?_
            rintro e w1 ⟨rfl, rfl⟩
            go_wp2_with fail
            have hzz := HZ0.out.size
            refine (HG2.out wz HZ0.out.2 (by omega)).mono ?_
            rintro e w3 ⟨A3, c3, rfl, _, hown3, hb3⟩
            have HRN := Lib.hid (RB.of_own hown3)
            have HZ := Lib.hid (HZ0.out.later hb3)
            clear hown3 hb3 hzz
            have c0 : w3.cell? ⟨wr.heap.size, 0, none⟩ = some (.string e0) := HZ.out.cell rfl
            have f0 : w3.frozen? ⟨wr.heap.size, 0, none⟩ = false := HZ.out.free 0
            have HZ3 := Lib.hid (HZ.out.put 0 (.string nm))
            clear HZ HZ0
            go_wp2_with (refine wl_str Tryd.underlying39 Tryd.underlying5 Tryd.underlying9 rfl (.tmp 45) rfl A3 o1 c3 rfl w3.heap.size nl HRN.out ?_; rw [HNM.out])
            generalize w3.setCell ⟨wr.heap.size, 0, none⟩ (.string nm) = W1 at *
            clear c0 f0 HRN
            refine (HG3.out W1 HZ3.out.2).mono ?_
            rintro e w1 ⟨rfl, rfl⟩
            have HZ := Lib.hid HZ3.out
            have c1 : W1.cell? ⟨wr.heap.size, 1, none⟩ = some (.int .i64 0) := HZ.out.cell rfl
            have f1 : W1.frozen? ⟨wr.heap.size, 1, none⟩ = false := HZ.out.free 1
            clear HZ
            have HZ := Lib.hid (HZ3.out.put 1 (.int .i64 0))
            obtain ⟨HO9, hz9, hF9⟩ := HF.out (W1.setCell ⟨wr.heap.size, 1, none⟩ (.int .i64 0)) nm 0 0 none HFT.out HZ.out.2
            have HF9 := Lib.hid hF9
            have HL9 := Lib.hid (Reads.lit (W1.setCell ⟨wr.heap.size, 1, none⟩ (.int .i64 0)) 66 [.string nm, .int .i64 0, .int .i64 0] 1 3 rfl W1.heap.size (World.size_setCell ..))
            have HV9 := Lib.hid (HO9.out.alloc (.cells #[.string nm, .int .i64 0, .int .i64 0] 66))
            have hzw : (W1.setCell ⟨wr.heap.size, 1, none⟩ (.int .i64 0)).heap.size = W1.heap.size := World.size_setCell ..
            have l0 : (W1.setCell ⟨wr.heap.size, 1, none⟩ (.int .i64 0)).cell? ⟨wr.heap.size, 0, none⟩ = some (.string nm) := HZ.out.cell rfl
            have l1 : (W1.setCell ⟨wr.heap.size, 1, none⟩ (.int .i64 0)).cell? ⟨wr.heap.size, 1, none⟩ = some (.int .i64 0) := HZ.out.cell rfl
            have l2 : (W1.setCell ⟨wr.heap.size, 1, none⟩ (.int .i64 0)).cell? ⟨wr.heap.size, 2, none⟩ = some (.int .i64 0) := HZ.out.cell rfl
            clear hF9
            rw [hzw] at hz9
            clear hzw
            go_wp2_with (at_builtin; refine wl_app TSt (by rfl) (.tmp 66) (.tmp 68) (by rfl) (.slice A' j c') (by rfl) (some ⟨W1.heap.size, 0, none⟩) 1 1 (by rfl) w.heap.size j _ HV9.out (W1.heap.size + 1) [.string nm, .int .i64 0, .int .i64 0] HL9.out ?r2 ?r3 ?r4 ?r5 ?r6)
            case r2 => simp [Value.oneCell']
            case r3 => omega
            case r4 => omega
            case r5 => simp; omega
            case r6 =>
              intro A9 c9 w9 hown hg _
              obtain ⟨ys', e1, e2, e3, e4⟩ := HF9.out A9 c9 w9 hown hg
              clear hown hg
              go_wp2_with fail
              exact ⟨⟨j + 1, A9, c9, ys', none, by omega, by go_num, rfl, e1, e2, AtS.no l, e3, e4⟩, by simp [intOf]; omega⟩
          have HG3 := Lib.hid (fun W h => rget_ok A n c l (k + 1 + o1) 4 4 rfl (by decide) (by decide) W B (HRz.out W h) hn hk2 g3)
          have hk3 := drop_le hk2 g3
          have x3 := nS_ok g3
          obtain ⟨dl, hdl⟩ : ∃ dl, nV 4 (some (l.drop (k + 1 + o1))) = dl := ⟨_, rfl⟩
          rw [hdl] at HG3
          by_cases g4 : 1 ≤ (l.drop (k + 1 + o1 + 4)).length
          case neg =>
            have HG4 := Lib.hid (fun W h => rget_no A n c l (k + 1 + o1 + 4) 1 1 rfl W B (HRz.out W h) hn hk3 g4)
            have HFT := Lib.hid (show fT (some (l.drop k)) = (⟨nm, (dl : Int), 0⟩, none) by unfold fT; rw [x1, ho1, hnl, hnm, x2, hdl, x3, nV_no g4, nS_no g4]; rfl)
            clear x1 ho1 x2 hnl hnm x3 hdl
            go_wp2_with fail
            generalize wr.alloc (.cells #[.string e0, .int .i64 0, .int .i64 0] 66) = wz at *
            refine (HG1.out wz HZ0.out.2).mono ?_
            rintro e w1 ⟨rfl, rfl⟩
            go_wp2_with fail
            have hzz := HZ0.out.size
            refine (HG2.out wz HZ0.out.2 (by omega)).mono ?_
            rintro e w3 ⟨A3, c3, rfl, _, hown3, hb3⟩
            have HRN := Lib.hid (RB.of_own hown3)
            have HZ := Lib.hid (HZ0.out.later hb3)
            clear hown3 hb3 hzz
            have c0 : w3.cell? ⟨wr.heap.size, 0, none⟩ = some (.string e0) := HZ.out.cell rfl
            have f0 : w3.frozen? ⟨wr.heap.size, 0, none⟩ = false := HZ.out.free 0
            have HZ3 := Lib.hid (HZ.out.put 0 (.string nm))
            clear HZ HZ0
            go_wp2_with (refine wl_str Tryd.underlying39 Tryd.underlying5 Tryd.underlying9 rfl (.tmp 45) rfl A3 o1 c3 rfl w3.heap.size nl HRN.out ?_; rw [HNM.out])
            generalize w3.setCell ⟨wr.heap.size, 0, none⟩ (.string nm) = W1 at *
            clear c0 f0 HRN
            refine (HG3.out W1 HZ3.out.2).mono ?_
            rintro e w1 ⟨rfl, rfl⟩
            have HZ := Lib.hid HZ3.out
            have c1 : W1.cell? ⟨wr.heap.size, 1, none⟩ = some (.int .i64 0) := HZ.out.cell rfl
            have f1 : W1.frozen? ⟨wr.heap.size, 1, none⟩ = false := HZ.out.free 1
            have HZ4 := Lib.hid (HZ.out.put 1 (.int .i64 (dl : Int)))
            clear HZ HZ3
            go_wp2_with fail
            generalize W1.setCell ⟨wr.heap.size, 1, none⟩ (.int .i64 (dl : Int)) = W2 at *
            clear c1 f1
            refine (HG4.out W2 HZ4.out.2).mono ?_
            rintro e w1 ⟨rfl, rfl⟩
            have HZ := Lib.hid HZ4.out
            have c2 : W2.cell? ⟨wr.heap.size, 2, none⟩ = some (.int .i64 0) := HZ.out.cell rfl
            have f2 : W2.frozen? ⟨wr.heap.size, 2, none⟩ = false := HZ.out.free 2
            clear HZ
            have HZ := Lib.hid (HZ4.out.put 2 (.int .i64 0))
            obtain ⟨HO9, hz9, hF9⟩ := HF.out (W2.setCell ⟨wr.heap.size, 2, none⟩ (.int .i64 0)) nm (dl : Int) 0 none HFT.out HZ.out.2
            have HF9 := Lib.hid hF9
            have HL9 := Lib.hid (Reads.lit (W2.setCell ⟨wr.heap.size, 2, none⟩ (.int .i64 0)) 66 [.string nm, .int .i64 (dl : Int), .int .i64 0] 1 3 rfl W2.heap.size (World.size_setCell ..))
            have HV9 := Lib.hid (HO9.out.alloc (.cells #[.string nm, .int .i64 (dl : Int), .int .i64 0] 66))
            have hzw : (W2.setCell ⟨wr.heap.size, 2, none⟩ (.int .i64 0)).heap.size = W2.heap.size := World.size_setCell ..
            have l0 : (W2.setCell ⟨wr.heap.size, 2, none⟩ (.int .i64 0)).cell? ⟨wr.heap.size, 0, none⟩ = some (.string nm) := HZ.out.cell rfl
            have l1 : (W2.setCell ⟨wr.heap.size, 2, none⟩ (.int .i64 0)).cell? ⟨wr.heap.size, 1, none⟩ = some (.int .i64 (dl : Int)) := HZ.out.cell rfl
            have l2 : (W2.setCell ⟨wr.heap.size, 2, none⟩ (.int .i64 0)).cell? ⟨wr.heap.size, 2, none⟩ = some (.int .i64 0) := HZ.out.cell rfl
            clear hF9
            rw [hzw] at hz9
            clear hzw
            go_wp2_with (at_builtin; refine wl_app TSt (by rfl) (.tmp 66) (.tmp 68) (by rfl) (.slice A' j c') (by rfl) (some ⟨W2.heap.size, 0, none⟩) 1 1 (by rfl) w.heap.size j _ HV9.out (W2.heap.size + 1) [.string nm, .int .i64 (dl : Int), .int .i64 0] HL9.out ?s2 ?s3 ?s4 ?s5 ?s6)
            case s2 => simp [Value.oneCell']
            case s3 => omega
            case s4 => omega
            case s5 => simp; omega
            case s6 =>
              intro A9 c9 w9 hown hg _
              obtain ⟨ys', e1, e2, e3, e4⟩ := HF9.out A9 c9 w9 hown hg
              clear hown hg
              go_wp2_with fail
              exact ⟨⟨j + 1, A9, c9, ys', none, by omega, by go_num, rfl, e1, e2, AtS.no l, e3, e4⟩, by simp [intOf]; omega⟩
          have HG4 := Lib.hid (fun W h => rget_ok A n c l (k + 1 + o1 + 4) 1 1 rfl (by decide) (by decide) W B (HRz.out W h) hn hk3 g4)
          have hk4 := drop_le hk3 g4
          have x4 := nS_ok g4
          obtain ⟨fl, hfl⟩ : ∃ fl, nV 1 (some (l.drop (k + 1 + o1 + 4))) = fl := ⟨_, rfl⟩
          rw [hfl] at HG4
          have HFT := Lib.hid (show fT (some (l.drop k)) = (⟨nm, (dl : Int), (fl : Int)⟩, some (l.drop (k + 1 + o1 + 4 + 1))) by unfold fT; rw [x1, ho1, hnl, hnm, x2, hdl, x3, hfl, x4])
          clear x1 ho1 x2 hnl hnm x3 hdl x4 hfl
          go_wp2_with fail
          generalize wr.alloc (.cells #[.string e0, .int .i64 0, .int .i64 0] 66) = wz at *
          refine (HG1.out wz HZ0.out.2).mono ?_
          rintro e w1 ⟨rfl, rfl⟩
          go_wp2_with fail
          have hzz := HZ0.out.size
          refine (HG2.out wz HZ0.out.2 (by omega)).mono ?_
          rintro e w3 ⟨A3, c3, rfl, _, hown3, hb3⟩
          have HRN := Lib.hid (RB.of_own hown3)
          have HZ := Lib.hid (HZ0.out.later hb3)
          clear hown3 hb3 hzz
          have c0 : w3.cell? ⟨wr.heap.size, 0, none⟩ = some (.string e0) := HZ.out.cell rfl
          have f0 : w3.frozen? ⟨wr.heap.size, 0, none⟩ = false := HZ.out.free 0
          have HZ3 := Lib.hid (HZ.out.put 0 (.string nm))
          clear HZ HZ0
          go_wp2_with (refine wl_str Tryd.underlying39 Tryd.underlying5 Tryd.underlying9 rfl (.tmp 45) rfl A3 o1 c3 rfl w3.heap.size nl HRN.out ?_; rw [HNM.out])
          generalize w3.setCell ⟨wr.heap.size, 0, none⟩ (.string nm) = W1 at *
          clear c0 f0 HRN
          refine (HG3.out W1 HZ3.out.2).mono ?_
          rintro e w1 ⟨rfl, rfl⟩
          have HZ := Lib.hid HZ3.out
          have c1 : W1.cell? ⟨wr.heap.size, 1, none⟩ = some (.int .i64 0) := HZ.out.cell rfl
          have f1 : W1.frozen? ⟨wr.heap.size, 1, none⟩ = false := HZ.out.free 1
          have HZ4 := Lib.hid (HZ.out.put 1 (.int .i64 (dl : Int)))
          clear HZ HZ3
          go_wp2_with fail
          generalize W1.setCell ⟨wr.heap.size, 1, none⟩ (.int .i64 (dl : Int)) = W2 at *
          clear c1 f1
          refine (HG4.out W2 HZ4.out.2).mono ?_
          rintro e w1 ⟨rfl, rfl⟩
          have HZ := Lib.hid HZ4.out
          have c2 : W2.cell? ⟨wr.heap.size, 2, none⟩ = some (.int .i64 0) := HZ.out.cell rfl
          have f2 : W2.frozen? ⟨wr.heap.size, 2, none⟩ = false := HZ.out.free 2
          clear HZ
          have HZ := Lib.hid (HZ4.out.put 2 (.int .i64 (fl : Int)))
          obtain ⟨HO9, hz9, hF9⟩ := HF.out (W2.setCell ⟨wr.heap.size, 2, none⟩ (.int .i64 (fl : Int))) nm (dl : Int) (fl : Int) (some (l.drop (k + 1 + o1 + 4 + 1))) HFT.out HZ.out.2
          have HF9 := Lib.hid hF9
          have HL9 := Lib.hid (Reads.lit (W2.setCell ⟨wr.heap.size, 2, none⟩ (.int .i64 (fl : Int))) 66 [.string nm, .int .i64 (dl : Int), .int .i64 (fl : Int)] 1 3 rfl W2.heap.size (World.size_setCell ..))
          have HV9 := Lib.hid (HO9.out.alloc (.cells #[.string nm, .int .i64 (dl : Int), .int .i64 (fl : Int)] 66))
          have hzw : (W2.setCell ⟨wr.heap.size, 2, none⟩ (.int .i64 (fl : Int))).heap.size = W2.heap.size := World.size_setCell ..
          have l0 : (W2.setCell ⟨wr.heap.size, 2, none⟩ (.int .i64 (fl : Int))).cell? ⟨wr.heap.size, 0, none⟩ = some (.string nm) := HZ.out.cell rfl
          have l1 : (W2.setCell ⟨wr.heap.size, 2, none⟩ (.int .i64 (fl : Int))).cell? ⟨wr.heap.size, 1, none⟩ = some (.int .i64 (dl : Int)) := HZ.out.cell rfl
          have l2 : (W2.setCell ⟨wr.heap.size, 2, none⟩ (.int .i64 (fl : Int))).cell? ⟨wr.heap.size, 2, none⟩ = some (.int .i64 (fl : Int)) := HZ.out.cell rfl
          clear hF9
          rw [hzw] at hz9
          clear hzw
          go_wp2_with (at_builtin; refine wl_app TSt (by rfl) (.tmp 66) (.tmp 68) (by rfl) (.slice A' j c') (by rfl) (some ⟨W2.heap.size, 0, none⟩) 1 1 (by rfl) w.heap.size j _ HV9.out (W2.heap.size + 1) [.string nm, .int .i64 (dl : Int), .int .i64 (fl : Int)] HL9.out ?t2 ?t3 ?t4 ?t5 ?t6)
          case t2 => simp [Value.oneCell']
          case t3 => omega
          case t4 => omega
          case t5 => simp; omega
          case t6 =>
            intro A9 c9 w9 hown hg _
            obtain ⟨ys', e1, e2, e3, e4⟩ := HF9.out A9 c9 w9 hown hg
            clear hown hg
            go_wp2_with fail
            exact ⟨⟨j + 1, A9, c9, ys', (some (l.drop (k + 1 + o1 + 4 + 1))), by omega, by go_num, rfl, e1, e2, AtS.yes' hk4 (by omega), e3, e4⟩, by simp [intOf]; omega⟩
end Go.Proofs.YtkmcjjoicpgjfaaDoor
namespace Go.Proofs.YtkmcjjoicpgjfaaDoor
open Go Go.RowKit Go.Sh

theorem ZB.cellZ {w W : World} {ty z : Nat} {cs : List Value} (h : ZB w W ty cs) (hz : w.heap.size = z) {k : Nat} {v : Value} (hv : cs[k]? = some v) : W.cell? ⟨z, k, none⟩ = some v := by subst hz; exact h.cell hv
theorem ZB.freeZ {w W : World} {ty z : Nat} {cs : List Value} (h : ZB w W ty cs) (hz : w.heap.size = z) (k : Nat) : W.frozen? ⟨z, k, none⟩ = false := by subst hz; exact h.free k
theorem ZB.putZ {w W : World} {ty z : Nat} {cs : List Value} (h : ZB w W ty cs) (hz : w.heap.size = z) (k : Nat) (v : Value) : ZB w (W.setCell ⟨z, k, none⟩ v) ty (cs.set k v) := by subst hz; exact h.put k v
set_option maxRecDepth 100000 in
theorem spc_load (W : World) (rb : Nat) (a0 a1 a2 : Value) (h : W.heap[rb]? = some (.cells #[a0, a1, a2] 43 (0, 0))) : (loadVar 43 ⟨rb, 0, none⟩).run Tryd.prog W = .ok (.agg #[a0, a1, a2]) W := by
  have h2 := run_loadVar_mid (P := Tryd.prog) W rb 0 43 [a0, a1, a2] _ (blk_range h) Tryd.underlying43 rfl (by kernel_rfl)
  exact h2
theorem spc_set (W : World) (rb : Nat) (z0 z1 z2 a0 a1 a2 : Value) (ty : Nat) (h : W.heap[rb]? = some (.cells #[z0, z1, z2] ty (0, 0))) : (((W.setCell ⟨rb, 0, none⟩ a0).setCell ⟨rb, 1, none⟩ a1).setCell ⟨rb, 2, none⟩ a2).heap[rb]? = some (.cells #[a0, a1, a2] ty (0, 0)) := by
  rw [set_blk (set_blk (set_blk h))]
  rfl
set_option maxRecDepth 100000 in
theorem results_cell_tmp3 {fn : Func} {t u v : Tmp} {ty : TypeId} (h : fn.results = #[.cell t ty, .tmp u, .tmp v]) (ts : Array Value) (P : Program) (w : World) (ad : Addr) (x y z : Value) (h2 : ts.getD t undef = .pointer (some ad)) (hy : ts.getD u undef = y) (hz : ts.getD v undef = z) (h3 : (loadVar ty ad).run P w = .ok x w) :
    (results fn ts).run P w = .ok (.tuple #[x, y, z]) w := by
  subst hy
  subst hz
  have h2' : ts[t]?.getD undef = .pointer (some ad) := by simpa using h2
  simp [results, h, h2', asAddr, h3]
def rsnPost (w : World) (l : List UInt8) (s : Sx) (e : Ending) (w' : World) : Prop :=
  ∃ A m c pl ok, e = .returned (.tuple #[.agg #[.int .i64 (fS s).1.msg, .slice A m c, .int .i64 (fS s).1.blk], pl, ok]) ∧ AtS l (fS s).2 pl ok ∧ (fS s).1.rts.length = m ∧ w'.ownsRow w.heap.size 3 1 (.slice A m c) m (iv (fS s).1.rts) ∧ Below w.heap.size w w'
set_option maxRecDepth 100000 in
set_option maxHeartbeats 8000000 in
theorem rsend_any (A : Option Addr) (n c : Nat) (l : List UInt8) (a : Nat) (w : World) (B : Nat) (hl : RB w B A n l) (hB : B ≤ w.heap.size) (hn : n ≤ 140737488355328) (ha : a ≤ l.length) :
    Calls Tryd.prog 73 #[.slice A n c, .int .i64 (a : Int)] w (rsnPost w l (some (l.drop a))) := by
  have hzs : ∀ W : World, (zeroValue 43).run Tryd.prog W = .ok (.agg #[.int .i64 0, .slice none 0 0, .int .i64 0]) W := fun _ => by kernel_rfl
  have hb0 := (Below.refl w.heap.size w).alloc (Nat.le_refl _) (.cells #[.int .i64 0, .slice none 0 0, .int .i64 0] 43)
  have HB0 := Lib.hid hb0
  have HR := Lib.hid (hl.below (hb0.mono hB))
  have HG0 := Lib.hid (heap_alloc_new w (.cells #[.int .i64 0, .slice none 0 0, .int .i64 0] 43))
  have hz0 : (w.alloc (.cells #[.int .i64 0, .slice none 0 0, .int .i64 0] 43)).heap.size = w.heap.size + 1 := by simp
  have HZ0 := Lib.hid (ZB.new (w.alloc (.cells #[.int .i64 0, .slice none 0 0, .int .i64 0] 43)) 43 [.int .i64 0, .slice none 0 0, .int .i64 0])
  clear hl hb0
  go_enter Tryd.func73, Tryd.ntmps73
  go_wp2_with fail
  generalize w.alloc (.cells #[.int .i64 0, .slice none 0 0, .int .i64 0] 43) = w0 at *
  generalize w0.alloc (.cells #[.int .i64 0, .slice none 0 0, .int .i64 0] 43) = wz at *
  obtain ⟨g, hg⟩ : ∃ g, w.heap.size = g := ⟨_, rfl⟩
  rw [hg] at HB0 HG0 hz0 hB ⊢
  obtain ⟨zb, hzb⟩ : ∃ zb, w0.heap.size = zb := ⟨_, rfl⟩
  obtain rfl : g + 1 = zb := by omega
  have hfin : ∀ (W : World) (m : Nat) (A' : Option Addr) (c' : Nat) (mg bl : Int) (rts : List Int) (t : Sx) (pl ok : Value), fS (some (l.drop a)) = (⟨mg, rts, bl⟩, t) → AtS l t pl ok → rts.length = m → W.ownsRow (g + 2) 3 1 (.slice A' m c') m (iv rts) →
      ZB w0 W 43 [.int .i64 mg, .slice A' m c', .int .i64 bl] →
      W.heap[g]? = some (.cells #[.int .i64 0, .slice none 0 0, .int .i64 0] 43 (0, 0)) ∧ rsnPost w l (some (l.drop a)) (.returned (.tuple #[.agg #[.int .i64 mg, .slice A' m c', .int .i64 bl], pl, ok])) (((W.setCell ⟨g, 0, none⟩ (.int .i64 mg)).setCell ⟨g, 1, none⟩ (.slice A' m c')).setCell ⟨g, 2, none⟩ (.int .i64 bl)) := by
    intro W m A' c' mg bl rts t pl ok hf hat hrl hown hz
    have hbW := hz.2
    rw [hzb] at hbW
    refine ⟨(hbW.block g (Nat.lt_succ_self _)).trans HG0.out, A', m, c', pl, ok, by rw [hf], by rw [hf]; exact hat, by rw [hf]; exact hrl, ?_, ?_⟩
    · rw [hf, hg]
      exact own_base (own_set (own_set (own_set hown (by omega)) (by omega)) (by omega)) (by omega)
    · rw [hg]
      exact HB0.out.trans ((((hbW.mono (Nat.le_succ _)).setCell (p := ⟨g, 0, none⟩) (Nat.le_refl _) _).setCell (p := ⟨g, 1, none⟩) (Nat.le_refl _) _).setCell (p := ⟨g, 2, none⟩) (Nat.le_refl _) _)
  have HF := Lib.hid hfin
  clear hfin
  have HRz := Lib.hid (fun (W : World) (h : Below w0.heap.size w0 W) => HR.out.below (h.mono (by omega)))
  by_cases g1 : 1 ≤ (l.drop a).length
  case neg =>
    have HG1 := Lib.hid (fun W h => rget_no A n c l a 1 1 rfl W B (HRz.out W h) hn ha g1)
    have HFT := Lib.hid (show fS (some (l.drop a)) = (⟨0, [], -1⟩, none) by unfold fS; rw [nS_no g1, nV_no g1]; rfl)
    refine (HG1.out wz HZ0.out.2).mono ?_
    rintro e w1 ⟨rfl, rfl⟩
    have c0 : (wz).cell? ⟨g + 1, 0, none⟩ = some (.int .i64 0) := HZ0.out.cellZ hzb rfl
    have f0 : (wz).frozen? ⟨g + 1, 0, none⟩ = false := HZ0.out.freeZ hzb 0
    have HZm := Lib.hid (show ZB w0 (wz.setCell ⟨g + 1, 0, none⟩ (.int .i64 0)) 43 [.int .i64 0, .slice none 0 0, .int .i64 0] from HZ0.out.putZ hzb 0 (.int .i64 0))
    go_wp2_with fail
    generalize wz.setCell ⟨g + 1, 0, none⟩ (.int .i64 0) = W1 at *
    clear c0 f0
    go_loopw [1, 9, 10, 11] (fun pl _ ok i wr => pl = .int .i64 (-1) ∧ ok = .bool false ∧ i = .int .i64 0 ∧ W1 = wr) (fun _ _ _ _ _ => 0)
    case atStart => exact ⟨rfl, rfl, rfl, rfl⟩
    case round =>
      obtain ⟨rfl, rfl, rfl, rfl⟩ := hrel
      have HZ1 := Lib.hid HZm.out
      have HOW1 := Lib.hid (World.ownsRow_nil W1 (g + 2) 3 1)
      have HRL := Lib.hid (show ([] : List Int).length = 0 from rfl)
      have c0 : (W1).cell? ⟨g + 1, 0, none⟩ = some (.int .i64 0) := HZ1.out.cellZ hzb rfl
      have f0 : (W1).frozen? ⟨g + 1, 0, none⟩ = false := HZ1.out.freeZ hzb 0
      have c1 : (W1).cell? ⟨g + 1, 1, none⟩ = some (.slice none 0 0) := HZ1.out.cellZ hzb rfl
      have f1 : (W1).frozen? ⟨g + 1, 1, none⟩ = false := HZ1.out.freeZ hzb 1
      have c2 : (W1).cell? ⟨g + 1, 2, none⟩ = some (.int .i64 0) := HZ1.out.cellZ hzb rfl
      have f2 : (W1).frozen? ⟨g + 1, 2, none⟩ = false := HZ1.out.freeZ hzb 2
      have HZ := Lib.hid (show ZB w0 ((W1).setCell ⟨g + 1, 2, none⟩ (.int .i64 (-1))) 43 [.int .i64 0, .slice none 0 0, .int .i64 (-1)] from HZ1.out.putZ hzb 2 (.int .i64 (-1)))
      have HOW := Lib.hid (own_set (k := 2) (x := .int .i64 (-1)) HOW1.out (show g + 1 < g + 2 by omega))
      have hbz := HZ.out.2
      rw [hzb] at hbz
      have hG0 := (hbz.block g (Nat.lt_succ_self _)).trans HG0.out
      have l0 : ((W1).setCell ⟨g + 1, 2, none⟩ (.int .i64 (-1))).cell? ⟨g + 1, 0, none⟩ = some (.int .i64 0) := HZ.out.cellZ hzb rfl
      have l1 : ((W1).setCell ⟨g + 1, 2, none⟩ (.int .i64 (-1))).cell? ⟨g + 1, 1, none⟩ = some (.slice none 0 0) := HZ.out.cellZ hzb rfl
      have l2 : ((W1).setCell ⟨g + 1, 2, none⟩ (.int .i64 (-1))).cell? ⟨g + 1, 2, none⟩ = some (.int .i64 (-1)) := HZ.out.cellZ hzb rfl
      have r0 : ((W1).setCell ⟨g + 1, 2, none⟩ (.int .i64 (-1))).cell? ⟨g, 0, none⟩ = some (.int .i64 0) := by rw [blk_cell hG0]; rfl
      have r1 : ((W1).setCell ⟨g + 1, 2, none⟩ (.int .i64 (-1))).cell? ⟨g, 1, none⟩ = some (.slice none 0 0) := by rw [blk_cell hG0]; rfl
      have r2 : ((W1).setCell ⟨g + 1, 2, none⟩ (.int .i64 (-1))).cell? ⟨g, 2, none⟩ = some (.int .i64 0) := by rw [blk_cell hG0]; rfl
      have q0 : ((W1).setCell ⟨g + 1, 2, none⟩ (.int .i64 (-1))).frozen? ⟨g, 0, none⟩ = false := frozen_of_row _ _ _ _ _ hG0
      have q1 : ((W1).setCell ⟨g + 1, 2, none⟩ (.int .i64 (-1))).frozen? ⟨g, 1, none⟩ = false := frozen_of_row _ _ _ _ _ hG0
      have q2 : ((W1).setCell ⟨g + 1, 2, none⟩ (.int .i64 (-1))).frozen? ⟨g, 2, none⟩ = false := frozen_of_row _ _ _ _ _ hG0
      clear hG0 hbz
      go_wp2_with fail
      (try simp only [Exit.inBlock, Exit.then])
      obtain ⟨hG, hP⟩ := HF.out ((W1).setCell ⟨g + 1, 2, none⟩ (.int .i64 (-1))) 0 none 0 0 (-1) [] none _ _ HFT.out (AtS.no l) HRL.out HOW.out HZ.out
      refine bodyPost_ret (v := .tuple #[.agg #[.int .i64 0, .slice none 0 0, .int .i64 (-1)], .int .i64 (-1), .bool false]) (results_cell_tmp3 rfl _ _ _ ⟨g, 0, none⟩ _ _ _ rfl rfl rfl (spc_load _ _ _ _ _ (spc_set _ _ _ _ _ _ _ _ _ hG))) rfl ?_
      exact hP
  have HG1 := Lib.hid (fun W h => rget_ok A n c l a 1 1 rfl (by decide) (by decide) W B (HRz.out W h) hn ha g1)
  have ha1 := drop_le ha g1
  have x1 := nS_ok g1
  obtain ⟨mg, hmg⟩ : ∃ mg, nV 1 (some (l.drop a)) = mg := ⟨_, rfl⟩
  have lmg : mg < 256 := by rw [← hmg]; exact nV_lt 1 _
  rw [hmg] at HG1
  refine (HG1.out wz HZ0.out.2).mono ?_
  rintro e w1 ⟨rfl, rfl⟩
  have c0 : (wz).cell? ⟨g + 1, 0, none⟩ = some (.int .i64 0) := HZ0.out.cellZ hzb rfl
  have f0 : (wz).frozen? ⟨g + 1, 0, none⟩ = false := HZ0.out.freeZ hzb 0
  have HZm := Lib.hid (show ZB w0 (wz.setCell ⟨g + 1, 0, none⟩ (.int .i64 (mg : Int))) 43 [.int .i64 (mg : Int), .slice none 0 0, .int .i64 0] from HZ0.out.putZ hzb 0 (.int .i64 (mg : Int)))
  go_wp2_with fail
  generalize wz.setCell ⟨g + 1, 0, none⟩ (.int .i64 (mg : Int)) = W1 at *
  clear c0 f0
  by_cases g2 : 1 ≤ (l.drop (a + 1)).length
  case neg =>
    have HG2 := Lib.hid (fun W h => rget_no A n c l (a + 1) 1 1 rfl W B (HRz.out W h) hn ha1 g2)
    have HFT := Lib.hid (show fS (some (l.drop a)) = (⟨(mg : Int), [], -1⟩, none) by unfold fS; rw [x1, hmg, nS_no g2, nV_no g2]; rfl)
    refine (HG2.out W1 HZm.out.2).mono ?_
    rintro e w1 ⟨rfl, rfl⟩
    go_wp2_with fail
    go_loopw [1, 9, 10, 11] (fun pl _ ok i wr => pl = .int .i64 (-1) ∧ ok = .bool false ∧ i = .int .i64 0 ∧ W1 = wr) (fun _ _ _ _ _ => 0)
    case atStart => exact ⟨rfl, rfl, rfl, rfl⟩
    case round =>
      obtain ⟨rfl, rfl, rfl, rfl⟩ := hrel
      have HZ1 := Lib.hid HZm.out
      have HOW1 := Lib.hid (World.ownsRow_nil W1 (g + 2) 3 1)
      have HRL := Lib.hid (show ([] : List Int).length = 0 from rfl)
      have c0 : (W1).cell? ⟨g + 1, 0, none⟩ = some (.int .i64 (mg : Int)) := HZ1.out.cellZ hzb rfl
      have f0 : (W1).frozen? ⟨g + 1, 0, none⟩ = false := HZ1.out.freeZ hzb 0
      have c1 : (W1).cell? ⟨g + 1, 1, none⟩ = some (.slice none 0 0) := HZ1.out.cellZ hzb rfl
      have f1 : (W1).frozen? ⟨g + 1, 1, none⟩ = false := HZ1.out.freeZ hzb 1
      have c2 : (W1).cell? ⟨g + 1, 2, none⟩ = some (.int .i64 0) := HZ1.out.cellZ hzb rfl
      have f2 : (W1).frozen? ⟨g + 1, 2, none⟩ = false := HZ1.out.freeZ hzb 2
      have HZ := Lib.hid (show ZB w0 ((W1).setCell ⟨g + 1, 2, none⟩ (.int .i64 (-1))) 43 [.int .i64 (mg : Int), .slice none 0 0, .int .i64 (-1)] from HZ1.out.putZ hzb 2 (.int .i64 (-1)))
      have HOW := Lib.hid (own_set (k := 2) (x := .int .i64 (-1)) HOW1.out (show g + 1 < g + 2 by omega))
      have hbz := HZ.out.2
      rw [hzb] at hbz
      have hG0 := (hbz.block g (Nat.lt_succ_self _)).trans HG0.out
      have l0 : ((W1).setCell ⟨g + 1, 2, none⟩ (.int .i64 (-1))).cell? ⟨g + 1, 0, none⟩ = some (.int .i64 (mg : Int)) := HZ.out.cellZ hzb rfl
      have l1 : ((W1).setCell ⟨g + 1, 2, none⟩ (.int .i64 (-1))).cell? ⟨g + 1, 1, none⟩ = some (.slice none 0 0) := HZ.out.cellZ hzb rfl
      have l2 : ((W1).setCell ⟨g + 1, 2, none⟩ (.int .i64 (-1))).cell? ⟨g + 1, 2, none⟩ = some (.int .i64 (-1)) := HZ.out.cellZ hzb rfl
      have r0 : ((W1).setCell ⟨g + 1, 2, none⟩ (.int .i64 (-1))).cell? ⟨g, 0, none⟩ = some (.int .i64 0) := by rw [blk_cell hG0]; rfl
      have r1 : ((W1).setCell ⟨g + 1, 2, none⟩ (.int .i64 (-1))).cell? ⟨g, 1, none⟩ = some (.slice none 0 0) := by rw [blk_cell hG0]; rfl
      have r2 : ((W1).setCell ⟨g + 1, 2, none⟩ (.int .i64 (-1))).cell? ⟨g, 2, none⟩ = some (.int .i64 0) := by rw [blk_cell hG0]; rfl
      have q0 : ((W1).setCell ⟨g + 1, 2, none⟩ (.int .i64 (-1))).frozen? ⟨g, 0, none⟩ = false := frozen_of_row _ _ _ _ _ hG0
      have q1 : ((W1).setCell ⟨g + 1, 2, none⟩ (.int .i64 (-1))).frozen? ⟨g, 1, none⟩ = false := frozen_of_row _ _ _ _ _ hG0
      have q2 : ((W1).setCell ⟨g + 1, 2, none⟩ (.int .i64 (-1))).frozen? ⟨g, 2, none⟩ = false := frozen_of_row _ _ _ _ _ hG0
      clear hG0 hbz
      go_wp2_with fail
      (try simp only [Exit.inBlock, Exit.then])
      obtain ⟨hG, hP⟩ := HF.out ((W1).setCell ⟨g + 1, 2, none⟩ (.int .i64 (-1))) 0 none 0 (mg : Int) (-1) [] none _ _ HFT.out (AtS.no l) HRL.out HOW.out HZ.out
      refine bodyPost_ret (v := .tuple #[.agg #[.int .i64 (mg : Int), .slice none 0 0, .int .i64 (-1)], .int .i64 (-1), .bool false]) (results_cell_tmp3 rfl _ _ _ ⟨g, 0, none⟩ _ _ _ rfl rfl rfl (spc_load _ _ _ _ _ (spc_set _ _ _ _ _ _ _ _ _ hG))) rfl ?_
      exact hP
  have HG2 := Lib.hid (fun W h => rget_ok A n c l (a + 1) 1 1 rfl (by decide) (by decide) W B (HRz.out W h) hn ha1 g2)
  have ha2 := drop_le ha1 g2
  have x2 := nS_ok g2
  obtain ⟨o, ho⟩ : ∃ o, nV 1 (some (l.drop (a + 1))) = o := ⟨_, rfl⟩
  have lo : o < 256 := by rw [← ho]; exact nV_lt 1 _
  rw [ho] at HG2
  have HFS := Lib.hid (show fS (some (l.drop a)) = (⟨(mg : Int), (rep fN o (some (l.drop (a + 1 + 1)))).1, (nV 1 (rep fN o (some (l.drop (a + 1 + 1)))).2 : Int) - 1⟩, nS 1 (rep fN o (some (l.drop (a + 1 + 1)))).2) by unfold fS; rw [x1, hmg, x2, ho])
  clear x1 hmg x2 ho
  refine (HG2.out W1 HZm.out.2).mono ?_
  rintro e w1 ⟨rfl, rfl⟩
  go_wp2_with fail
  go_loopw [1, 9, 10, 11] (fun pl _ ok i wr => ∃ (j : Nat) (A' : Option Addr) (c' : Nat) (ys : List Int) (t' : Sx), j ≤ o ∧ i = .int .i64 (j : Int) ∧ ys.length = j ∧ ZB w0 wr 43 [.int .i64 (mg : Int), .slice A' j c', .int .i64 0] ∧ wr.ownsRow (g + 2) 3 1 (.slice A' j c') j (iv ys) ∧ AtS l t' pl ok ∧ rep fN o (some (l.drop (a + 1 + 1))) = (ys ++ (rep fN (o - j) t').1, (rep fN (o - j) t').2)) (fun _ _ _ i _ => o - (intOf i).toNat)
  case atStart => exact ⟨0, none, 0, [], _, by omega, rfl, rfl, HZm.out, World.ownsRow_nil _ _ _ _, AtS.yes' ha2 (by simp), rep_start⟩
  case round =>
    obtain ⟨j, A', c', ys, t', hj, rfl, hyl, hzB, ho, hat, hrep⟩ := hrel
    have HRL := Lib.hid hyl
    have HZ1 := Lib.hid hzB
    have HOW1 := Lib.hid ho
    have HQ := Lib.hid hrep
    have hzsz := hzB.size
    clear hyl hzB ho hrep HG1 HG2
    rcases hat with ⟨rfl, rfl, rfl⟩ | ⟨k, hk, rfl, rfl, rfl⟩
    · by_cases hlt : j < o
      · have dj : (j : Int) < (o : Int) := by omega
        have HFT := Lib.hid (show fS (some (l.drop a)) = (⟨(mg : Int), ys, -1⟩, none) by rw [HFS.out, rep_end HQ.out (.inr rfl)]; rfl)
        have c0 : (wr).cell? ⟨g + 1, 0, none⟩ = some (.int .i64 (mg : Int)) := HZ1.out.cellZ hzb rfl
        have f0 : (wr).frozen? ⟨g + 1, 0, none⟩ = false := HZ1.out.freeZ hzb 0
        have c1 : (wr).cell? ⟨g + 1, 1, none⟩ = some (.slice A' j c') := HZ1.out.cellZ hzb rfl
        have f1 : (wr).frozen? ⟨g + 1, 1, none⟩ = false := HZ1.out.freeZ hzb 1
        have c2 : (wr).cell? ⟨g + 1, 2, none⟩ = some (.int .i64 0) := HZ1.out.cellZ hzb rfl
        have f2 : (wr).frozen? ⟨g + 1, 2, none⟩ = false := HZ1.out.freeZ hzb 2
        have HZ := Lib.hid (show ZB w0 ((wr).setCell ⟨g + 1, 2, none⟩ (.int .i64 (-1))) 43 [.int .i64 (mg : Int), .slice A' j c', .int .i64 (-1)] from HZ1.out.putZ hzb 2 (.int .i64 (-1)))
        have HOW := Lib.hid (own_set (k := 2) (x := .int .i64 (-1)) HOW1.out (show g + 1 < g + 2 by omega))
        have hbz := HZ.out.2
        rw [hzb] at hbz
        have hG0 := (hbz.block g (Nat.lt_succ_self _)).trans HG0.out
        have l0 : ((wr).setCell ⟨g + 1, 2, none⟩ (.int .i64 (-1))).cell? ⟨g + 1, 0, none⟩ = some (.int .i64 (mg : Int)) := HZ.out.cellZ hzb rfl
        have l1 : ((wr).setCell ⟨g + 1, 2, none⟩ (.int .i64 (-1))).cell? ⟨g + 1, 1, none⟩ = some (.slice A' j c') := HZ.out.cellZ hzb rfl
        have l2 : ((wr).setCell ⟨g + 1, 2, none⟩ (.int .i64 (-1))).cell? ⟨g + 1, 2, none⟩ = some (.int .i64 (-1)) := HZ.out.cellZ hzb rfl
        have r0 : ((wr).setCell ⟨g + 1, 2, none⟩ (.int .i64 (-1))).cell? ⟨g, 0, none⟩ = some (.int .i64 0) := by rw [blk_cell hG0]; rfl
        have r1 : ((wr).setCell ⟨g + 1, 2, none⟩ (.int .i64 (-1))).cell? ⟨g, 1, none⟩ = some (.slice none 0 0) := by rw [blk_cell hG0]; rfl
        have r2 : ((wr).setCell ⟨g + 1, 2, none⟩ (.int .i64 (-1))).cell? ⟨g, 2, none⟩ = some (.int .i64 0) := by rw [blk_cell hG0]; rfl
        have q0 : ((wr).setCell ⟨g + 1, 2, none⟩ (.int .i64 (-1))).frozen? ⟨g, 0, none⟩ = false := frozen_of_row _ _ _ _ _ hG0
        have q1 : ((wr).setCell ⟨g + 1, 2, none⟩ (.int .i64 (-1))).frozen? ⟨g, 1, none⟩ = false := frozen_of_row _ _ _ _ _ hG0
        have q2 : ((wr).setCell ⟨g + 1, 2, none⟩ (.int .i64 (-1))).frozen? ⟨g, 2, none⟩ = false := frozen_of_row _ _ _ _ _ hG0
        clear hG0 hbz
        go_wp2_with fail
        (try simp only [Exit.inBlock, Exit.then])
        obtain ⟨hG, hP⟩ := HF.out ((wr).setCell ⟨g + 1, 2, none⟩ (.int .i64 (-1))) j A' c' (mg : Int) (-1) ys none _ _ HFT.out (AtS.no l) HRL.out HOW.out HZ.out
        refine bodyPost_ret (v := .tuple #[.agg #[.int .i64 (mg : Int), .slice A' j c', .int .i64 (-1)], .int .i64 (-1), .bool false]) (results_cell_tmp3 rfl _ _ _ ⟨g, 0, none⟩ _ _ _ rfl rfl rfl (spc_load _ _ _ _ _ (spc_set _ _ _ _ _ _ _ _ _ hG))) rfl ?_
        exact hP
      · have dj : ¬ (j : Int) < (o : Int) := by omega
        have HFT := Lib.hid (show fS (some (l.drop a)) = (⟨(mg : Int), ys, -1⟩, none) by rw [HFS.out, rep_end HQ.out (.inr rfl)]; rfl)
        have c0 : (wr).cell? ⟨g + 1, 0, none⟩ = some (.int .i64 (mg : Int)) := HZ1.out.cellZ hzb rfl
        have f0 : (wr).frozen? ⟨g + 1, 0, none⟩ = false := HZ1.out.freeZ hzb 0
        have c1 : (wr).cell? ⟨g + 1, 1, none⟩ = some (.slice A' j c') := HZ1.out.cellZ hzb rfl
        have f1 : (wr).frozen? ⟨g + 1, 1, none⟩ = false := HZ1.out.freeZ hzb 1
        have c2 : (wr).cell? ⟨g + 1, 2, none⟩ = some (.int .i64 0) := HZ1.out.cellZ hzb rfl
        have f2 : (wr).frozen? ⟨g + 1, 2, none⟩ = false := HZ1.out.freeZ hzb 2
        have HZ := Lib.hid (show ZB w0 ((wr).setCell ⟨g + 1, 2, none⟩ (.int .i64 (-1))) 43 [.int .i64 (mg : Int), .slice A' j c', .int .i64 (-1)] from HZ1.out.putZ hzb 2 (.int .i64 (-1)))
        have HOW := Lib.hid (own_set (k := 2) (x := .int .i64 (-1)) HOW1.out (show g + 1 < g + 2 by omega))
        have hbz := HZ.out.2
        rw [hzb] at hbz
        have hG0 := (hbz.block g (Nat.lt_succ_self _)).trans HG0.out
        have l0 : ((wr).setCell ⟨g + 1, 2, none⟩ (.int .i64 (-1))).cell? ⟨g + 1, 0, none⟩ = some (.int .i64 (mg : Int)) := HZ.out.cellZ hzb rfl
        have l1 : ((wr).setCell ⟨g + 1, 2, none⟩ (.int .i64 (-1))).cell? ⟨g + 1, 1, none⟩ = some (.slice A' j c') := HZ.out.cellZ hzb rfl
        have l2 : ((wr).setCell ⟨g + 1, 2, none⟩ (.int .i64 (-1))).cell? ⟨g + 1, 2, none⟩ = some (.int .i64 (-1)) := HZ.out.cellZ hzb rfl
        have r0 : ((wr).setCell ⟨g + 1, 2, none⟩ (.int .i64 (-1))).cell? ⟨g, 0, none⟩ = some (.int .i64 0) := by rw [blk_cell hG0]; rfl
        have r1 : ((wr).setCell ⟨g + 1, 2, none⟩ (.int .i64 (-1))).cell? ⟨g, 1, none⟩ = some (.slice none 0 0) := by rw [blk_cell hG0]; rfl
        have r2 : ((wr).setCell ⟨g + 1, 2, none⟩ (.int .i64 (-1))).cell? ⟨g, 2, none⟩ = some (.int .i64 0) := by rw [blk_cell hG0]; rfl
        have q0 : ((wr).setCell ⟨g + 1, 2, none⟩ (.int .i64 (-1))).frozen? ⟨g, 0, none⟩ = false := frozen_of_row _ _ _ _ _ hG0
        have q1 : ((wr).setCell ⟨g + 1, 2, none⟩ (.int .i64 (-1))).frozen? ⟨g, 1, none⟩ = false := frozen_of_row _ _ _ _ _ hG0
        have q2 : ((wr).setCell ⟨g + 1, 2, none⟩ (.int .i64 (-1))).frozen? ⟨g, 2, none⟩ = false := frozen_of_row _ _ _ _ _ hG0
        clear hG0 hbz
        go_wp2_with fail
        (try simp only [Exit.inBlock, Exit.then])
        obtain ⟨hG, hP⟩ := HF.out ((wr).setCell ⟨g + 1, 2, none⟩ (.int .i64 (-1))) j A' c' (mg : Int) (-1) ys none _ _ HFT.out (AtS.no l) HRL.out HOW.out HZ.out
        refine bodyPost_ret (v := .tuple #[.agg #[.int .i64 (mg : Int), .slice A' j c', .int .i64 (-1)], .int .i64 (-1), .bool false]) (results_cell_tmp3 rfl _ _ _ ⟨g, 0, none⟩ _ _ _ rfl rfl rfl (spc_load _ _ _ _ _ (spc_set _ _ _ _ _ _ _ _ _ hG))) rfl ?_
        exact hP
    · by_cases hlt : j < o
      case pos =>
        have dj : (j : Int) < (o : Int) := by omega
        have hQ2 := rep_go HQ.out hlt rfl
        by_cases g3 : 1 ≤ (l.drop k).length
        case pos =>
          have HG3 := Lib.hid (rget_ok A n c l k 1 1 rfl (by decide) (by decide) wr B (HRz.out wr HZ1.out.2) hn hk g3)
          have hk1 := drop_le hk g3
          obtain ⟨v, hv⟩ : ∃ v, nV 1 (some (l.drop k)) = v := ⟨_, rfl⟩
          rw [hv] at HG3
          have hft : fN (some (l.drop k)) = ((v : Int), some (l.drop (k + 1))) := by unfold fN; rw [nS_ok g3, hv]
          rw [hft] at hQ2
          have HQ2 := Lib.hid hQ2
          clear hQ2 hft
          have c1 : (wr).cell? ⟨g + 1, 1, none⟩ = some (.slice A' j c') := HZ1.out.cellZ hzb rfl
          have f1 : (wr).frozen? ⟨g + 1, 1, none⟩ = false := HZ1.out.freeZ hzb 1
          have HL := Lib.hid (Reads.lit wr 3 [.int .i64 (v : Int)] 1 1 rfl _ rfl)
          have HV := Lib.hid (HOW1.out.alloc (.cells #[.int .i64 (v : Int)] 3))
          go_wp2_with fail
          refine HG3.out.mono ?_
          rintro e w1 ⟨rfl, rfl⟩
          go_wp2_with (at_builtin; refine wl_app TIt (by rfl) (.tmp 44) (.tmp 46) (by rfl) (.slice A' j c') (by rfl) (some ⟨wr.heap.size, 0, none⟩) 1 1 (by rfl) (g + 2) j (iv ys) HV.out (wr.heap.size + 1) [.int .i64 (v : Int)] HL.out ?a2 ?a3 ?a4 ?a5 ?a6)
          case a2 => simp [Value.oneCell']
          case a3 => omega
          case a4 => omega
          case a5 => simp; omega
          case a6 =>
            intro A9 c9 w9 hown hg9 _
            have hb9 : Below (g + 2) wr w9 := ((Below.refl (g + 2) wr).alloc (by omega) _).grown hg9 (by simp; omega) (own_drop HV.out)
            have hbz := HZ1.out.2
            have h9 : ZB w0 w9 43 [.int .i64 (mg : Int), .slice A' j c', .int .i64 0] := ⟨(hb9.block _ (by omega)).trans HZ1.out.1, hbz.trans (hb9.mono (by omega))⟩
            have HZ9 := Lib.hid (show ZB w0 (w9.setCell ⟨g + 1, 1, none⟩ (.slice A9 (j + 1) c9)) 43 [.int .i64 (mg : Int), .slice A9 (j + 1) c9, .int .i64 0] from h9.putZ hzb 1 (.slice A9 (j + 1) c9))
            have HO9 := Lib.hid (show (w9.setCell ⟨g + 1, 1, none⟩ (.slice A9 (j + 1) c9)).ownsRow (g + 2) 3 1 (.slice A9 (j + 1) c9) (j + 1) (iv (ys ++ [(v : Int)])) by rw [iv_append]; exact own_set hown (by omega))
            have c1' : w9.cell? ⟨g + 1, 1, none⟩ = some (.slice A' j c') := h9.cellZ hzb rfl
            have f1' : w9.frozen? ⟨g + 1, 1, none⟩ = false := h9.freeZ hzb 1
            clear hown hg9 hb9 hbz h9
            go_wp2_with fail
            exact ⟨⟨j + 1, A9, c9, ys ++ [(v : Int)], _, by omega, by go_num, by rw [List.length_append, HRL.out]; rfl, HZ9.out, HO9.out, AtS.yes' hk1 (by simp), HQ2.out⟩, by simp [intOf]; omega⟩
        case neg =>
          have HG3 := Lib.hid (rget_no A n c l k 1 1 rfl wr B (HRz.out wr HZ1.out.2) hn hk g3)
          have hft : fN (some (l.drop k)) = (0, none) := by unfold fN; rw [nS_no g3, nV_no g3]; rfl
          rw [hft] at hQ2
          have HQ2 := Lib.hid hQ2
          clear hQ2 hft
          have c1 : (wr).cell? ⟨g + 1, 1, none⟩ = some (.slice A' j c') := HZ1.out.cellZ hzb rfl
          have f1 : (wr).frozen? ⟨g + 1, 1, none⟩ = false := HZ1.out.freeZ hzb 1
          have HL := Lib.hid (Reads.lit wr 3 [.int .i64 0] 1 1 rfl _ rfl)
          have HV := Lib.hid (HOW1.out.alloc (.cells #[.int .i64 0] 3))
          go_wp2_with fail
          refine HG3.out.mono ?_
          rintro e w1 ⟨rfl, rfl⟩
          go_wp2_with (at_builtin; refine wl_app TIt (by rfl) (.tmp 44) (.tmp 46) (by rfl) (.slice A' j c') (by rfl) (some ⟨wr.heap.size, 0, none⟩) 1 1 (by rfl) (g + 2) j (iv ys) HV.out (wr.heap.size + 1) [.int .i64 0] HL.out ?b2 ?b3 ?b4 ?b5 ?b6)
          case b2 => simp [Value.oneCell']
          case b3 => omega
          case b4 => omega
          case b5 => simp; omega
          case b6 =>
            intro A9 c9 w9 hown hg9 _
            have hb9 : Below (g + 2) wr w9 := ((Below.refl (g + 2) wr).alloc (by omega) _).grown hg9 (by simp; omega) (own_drop HV.out)
            have hbz := HZ1.out.2
            have h9 : ZB w0 w9 43 [.int .i64 (mg : Int), .slice A' j c', .int .i64 0] := ⟨(hb9.block _ (by omega)).trans HZ1.out.1, hbz.trans (hb9.mono (by omega))⟩
            have HZ9 := Lib.hid (show ZB w0 (w9.setCell ⟨g + 1, 1, none⟩ (.slice A9 (j + 1) c9)) 43 [.int .i64 (mg : Int), .slice A9 (j + 1) c9, .int .i64 0] from h9.putZ hzb 1 (.slice A9 (j + 1) c9))
            have HO9 := Lib.hid (show (w9.setCell ⟨g + 1, 1, none⟩ (.slice A9 (j + 1) c9)).ownsRow (g + 2) 3 1 (.slice A9 (j + 1) c9) (j + 1) (iv (ys ++ [0])) by rw [iv_append]; exact own_set hown (by omega))
            have c1' : w9.cell? ⟨g + 1, 1, none⟩ = some (.slice A' j c') := h9.cellZ hzb rfl
            have f1' : w9.frozen? ⟨g + 1, 1, none⟩ = false := h9.freeZ hzb 1
            clear hown hg9 hb9 hbz h9
            go_wp2_with fail
            exact ⟨⟨j + 1, A9, c9, ys ++ [0], _, by omega, by go_num, by rw [List.length_append, HRL.out]; rfl, HZ9.out, HO9.out, AtS.no l, HQ2.out⟩, by simp [intOf]; omega⟩
      case neg =>
        have dj : ¬ (j : Int) < (o : Int) := by omega
        by_cases g3 : 1 ≤ (l.drop k).length
        case pos =>
          have HG3 := Lib.hid (rget_ok A n c l k 1 1 rfl (by decide) (by decide) wr B (HRz.out wr HZ1.out.2) hn hk g3)
          have hk1 := drop_le hk g3
          obtain ⟨v, hv⟩ : ∃ v, nV 1 (some (l.drop k)) = v := ⟨_, rfl⟩
          have lv : v < 256 := by rw [← hv]; exact nV_lt 1 _
          rw [hv] at HG3
          have HFT := Lib.hid (show fS (some (l.drop a)) = (⟨(mg : Int), ys, (v : Int) - 1⟩, some (l.drop (k + 1))) by rw [HFS.out, rep_end HQ.out (.inl (by omega)), nS_ok g3, hv])
          have c2 : (wr).cell? ⟨g + 1, 2, none⟩ = some (.int .i64 0) := HZ1.out.cellZ hzb rfl
          have f2 : (wr).frozen? ⟨g + 1, 2, none⟩ = false := HZ1.out.freeZ hzb 2
          go_wp2_with fail
          refine HG3.out.mono ?_
          rintro e w1 ⟨rfl, rfl⟩
          have HZv := Lib.hid (show ZB w0 (wr.setCell ⟨g + 1, 2, none⟩ (.int .i64 (v : Int))) 43 [.int .i64 (mg : Int), .slice A' j c', .int .i64 (v : Int)] from HZ1.out.putZ hzb 2 (.int .i64 (v : Int)))
          have HOv := Lib.hid (own_set (k := 2) (x := .int .i64 (v : Int)) HOW1.out (show g + 1 < g + 2 by omega))
          clear HZ1 HOW1
          have HZ1 := Lib.hid HZv.out
          have HOW1 := Lib.hid HOv.out
          clear HZv HOv
          have c0 : (wr.setCell ⟨g + 1, 2, none⟩ (.int .i64 (v : Int))).cell? ⟨g + 1, 0, none⟩ = some (.int .i64 (mg : Int)) := HZ1.out.cellZ hzb rfl
          have f0 : (wr.setCell ⟨g + 1, 2, none⟩ (.int .i64 (v : Int))).frozen? ⟨g + 1, 0, none⟩ = false := HZ1.out.freeZ hzb 0
          have c1 : (wr.setCell ⟨g + 1, 2, none⟩ (.int .i64 (v : Int))).cell? ⟨g + 1, 1, none⟩ = some (.slice A' j c') := HZ1.out.cellZ hzb rfl
          have f1 : (wr.setCell ⟨g + 1, 2, none⟩ (.int .i64 (v : Int))).frozen? ⟨g + 1, 1, none⟩ = false := HZ1.out.freeZ hzb 1
          have c2 : (wr.setCell ⟨g + 1, 2, none⟩ (.int .i64 (v : Int))).cell? ⟨g + 1, 2, none⟩ = some (.int .i64 (v : Int)) := HZ1.out.cellZ hzb rfl
          have f2 : (wr.setCell ⟨g + 1, 2, none⟩ (.int .i64 (v : Int))).frozen? ⟨g + 1, 2, none⟩ = false := HZ1.out.freeZ hzb 2
          have HZ := Lib.hid (show ZB w0 ((wr.setCell ⟨g + 1, 2, none⟩ (.int .i64 (v : Int))).setCell ⟨g + 1, 2, none⟩ (.int .i64 ((v : Int) - 1))) 43 [.int .i64 (mg : Int), .slice A' j c', .int .i64 ((v : Int) - 1)] from HZ1.out.putZ hzb 2 (.int .i64 ((v : Int) - 1)))
          have HOW := Lib.hid (own_set (k := 2) (x := .int .i64 ((v : Int) - 1)) HOW1.out (show g + 1 < g + 2 by omega))
          have hbz := HZ.out.2
          rw [hzb] at hbz
          have hG0 := (hbz.block g (Nat.lt_succ_self _)).trans HG0.out
          have l0 : ((wr.setCell ⟨g + 1, 2, none⟩ (.int .i64 (v : Int))).setCell ⟨g + 1, 2, none⟩ (.int .i64 ((v : Int) - 1))).cell? ⟨g + 1, 0, none⟩ = some (.int .i64 (mg : Int)) := HZ.out.cellZ hzb rfl
          have l1 : ((wr.setCell ⟨g + 1, 2, none⟩ (.int .i64 (v : Int))).setCell ⟨g + 1, 2, none⟩ (.int .i64 ((v : Int) - 1))).cell? ⟨g + 1, 1, none⟩ = some (.slice A' j c') := HZ.out.cellZ hzb rfl
          have l2 : ((wr.setCell ⟨g + 1, 2, none⟩ (.int .i64 (v : Int))).setCell ⟨g + 1, 2, none⟩ (.int .i64 ((v : Int) - 1))).cell? ⟨g + 1, 2, none⟩ = some (.int .i64 ((v : Int) - 1)) := HZ.out.cellZ hzb rfl
          have r0 : ((wr.setCell ⟨g + 1, 2, none⟩ (.int .i64 (v : Int))).setCell ⟨g + 1, 2, none⟩ (.int .i64 ((v : Int) - 1))).cell? ⟨g, 0, none⟩ = some (.int .i64 0) := by rw [blk_cell hG0]; rfl
          have r1 : ((wr.setCell ⟨g + 1, 2, none⟩ (.int .i64 (v : Int))).setCell ⟨g + 1, 2, none⟩ (.int .i64 ((v : Int) - 1))).cell? ⟨g, 1, none⟩ = some (.slice none 0 0) := by rw [blk_cell hG0]; rfl
          have r2 : ((wr.setCell ⟨g + 1, 2, none⟩ (.int .i64 (v : Int))).setCell ⟨g + 1, 2, none⟩ (.int .i64 ((v : Int) - 1))).cell? ⟨g, 2, none⟩ = some (.int .i64 0) := by rw [blk_cell hG0]; rfl
          have q0 : ((wr.setCell ⟨g + 1, 2, none⟩ (.int .i64 (v : Int))).setCell ⟨g + 1, 2, none⟩ (.int .i64 ((v : Int) - 1))).frozen? ⟨g, 0, none⟩ = false := frozen_of_row _ _ _ _ _ hG0
          have q1 : ((wr.setCell ⟨g + 1, 2, none⟩ (.int .i64 (v : Int))).setCell ⟨g + 1, 2, none⟩ (.int .i64 ((v : Int) - 1))).frozen? ⟨g, 1, none⟩ = false := frozen_of_row _ _ _ _ _ hG0
          have q2 : ((wr.setCell ⟨g + 1, 2, none⟩ (.int .i64 (v : Int))).setCell ⟨g + 1, 2, none⟩ (.int .i64 ((v : Int) - 1))).frozen? ⟨g, 2, none⟩ = false := frozen_of_row _ _ _ _ _ hG0
          clear hG0 hbz
          go_wp2_with fail
          (try simp only [Exit.inBlock, Exit.then])
          obtain ⟨hG, hP⟩ := HF.out ((wr.setCell ⟨g + 1, 2, none⟩ (.int .i64 (v : Int))).setCell ⟨g + 1, 2, none⟩ (.int .i64 ((v : Int) - 1))) j A' c' (mg : Int) ((v : Int) - 1) ys (some (l.drop (k + 1))) _ _ HFT.out (AtS.yes' (z := (k : Int) + 1) hk1 (by simp)) HRL.out HOW.out HZ.out
          refine bodyPost_ret (v := .tuple #[.agg #[.int .i64 (mg : Int), .slice A' j c', .int .i64 ((v : Int) - 1)], .int .i64 ((k : Int) + 1), .bool true]) (results_cell_tmp3 rfl _ _ _ ⟨g, 0, none⟩ _ _ _ rfl rfl rfl (spc_load _ _ _ _ _ (spc_set _ _ _ _ _ _ _ _ _ hG))) rfl ?_
          exact hP
        case neg =>
          have HG3 := Lib.hid (rget_no A n c l k 1 1 rfl wr B (HRz.out wr HZ1.out.2) hn hk g3)
          have HFT := Lib.hid (show fS (some (l.drop a)) = (⟨(mg : Int), ys, -1⟩, none) by rw [HFS.out, rep_end HQ.out (.inl (by omega)), nS_no g3, nV_no g3]; rfl)
          have c2 : (wr).cell? ⟨g + 1, 2, none⟩ = some (.int .i64 0) := HZ1.out.cellZ hzb rfl
          have f2 : (wr).frozen? ⟨g + 1, 2, none⟩ = false := HZ1.out.freeZ hzb 2
          go_wp2_with fail
          refine HG3.out.mono ?_
          rintro e w1 ⟨rfl, rfl⟩
          have HZv := Lib.hid (show ZB w0 (wr.setCell ⟨g + 1, 2, none⟩ (.int .i64 0)) 43 [.int .i64 (mg : Int), .slice A' j c', .int .i64 0] from HZ1.out.putZ hzb 2 (.int .i64 0))
          have HOv := Lib.hid (own_set (k := 2) (x := .int .i64 0) HOW1.out (show g + 1 < g + 2 by omega))
          clear HZ1 HOW1
          have HZ1 := Lib.hid HZv.out
          have HOW1 := Lib.hid HOv.out
          clear HZv HOv
          have c0 : (wr.setCell ⟨g + 1, 2, none⟩ (.int .i64 0)).cell? ⟨g + 1, 0, none⟩ = some (.int .i64 (mg : Int)) := HZ1.out.cellZ hzb rfl
          have f0 : (wr.setCell ⟨g + 1, 2, none⟩ (.int .i64 0)).frozen? ⟨g + 1, 0, none⟩ = false := HZ1.out.freeZ hzb 0
          have c1 : (wr.setCell ⟨g + 1, 2, none⟩ (.int .i64 0)).cell? ⟨g + 1, 1, none⟩ = some (.slice A' j c') := HZ1.out.cellZ hzb rfl
          have f1 : (wr.setCell ⟨g + 1, 2, none⟩ (.int .i64 0)).frozen? ⟨g + 1, 1, none⟩ = false := HZ1.out.freeZ hzb 1
          have c2 : (wr.setCell ⟨g + 1, 2, none⟩ (.int .i64 0)).cell? ⟨g + 1, 2, none⟩ = some (.int .i64 0) := HZ1.out.cellZ hzb rfl
          have f2 : (wr.setCell ⟨g + 1, 2, none⟩ (.int .i64 0)).frozen? ⟨g + 1, 2, none⟩ = false := HZ1.out.freeZ hzb 2
          have HZ := Lib.hid (show ZB w0 ((wr.setCell ⟨g + 1, 2, none⟩ (.int .i64 0)).setCell ⟨g + 1, 2, none⟩ (.int .i64 (-1))) 43 [.int .i64 (mg : Int), .slice A' j c', .int .i64 (-1)] from HZ1.out.putZ hzb 2 (.int .i64 (-1)))
          have HOW := Lib.hid (own_set (k := 2) (x := .int .i64 (-1)) HOW1.out (show g + 1 < g + 2 by omega))
          have hbz := HZ.out.2
          rw [hzb] at hbz
          have hG0 := (hbz.block g (Nat.lt_succ_self _)).trans HG0.out
          have l0 : ((wr.setCell ⟨g + 1, 2, none⟩ (.int .i64 0)).setCell ⟨g + 1, 2, none⟩ (.int .i64 (-1))).cell? ⟨g + 1, 0, none⟩ = some (.int .i64 (mg : Int)) := HZ.out.cellZ hzb rfl
          have l1 : ((wr.setCell ⟨g + 1, 2, none⟩ (.int .i64 0)).setCell ⟨g + 1, 2, none⟩ (.int .i64 (-1))).cell? ⟨g + 1, 1, none⟩ = some (.slice A' j c') := HZ.out.cellZ hzb rfl
          have l2 : ((wr.setCell ⟨g + 1, 2, none⟩ (.int .i64 0)).setCell ⟨g + 1, 2, none⟩ (.int .i64 (-1))).cell? ⟨g + 1, 2, none⟩ = some (.int .i64 (-1)) := HZ.out.cellZ hzb rfl
          have r0 : ((wr.setCell ⟨g + 1, 2, none⟩ (.int .i64 0)).setCell ⟨g + 1, 2, none⟩ (.int .i64 (-1))).cell? ⟨g, 0, none⟩ = some (.int .i64 0) := by rw [blk_cell hG0]; rfl
          have r1 : ((wr.setCell ⟨g + 1, 2, none⟩ (.int .i64 0)).setCell ⟨g + 1, 2, none⟩ (.int .i64 (-1))).cell? ⟨g, 1, none⟩ = some (.slice none 0 0) := by rw [blk_cell hG0]; rfl
          have r2 : ((wr.setCell ⟨g + 1, 2, none⟩ (.int .i64 0)).setCell ⟨g + 1, 2, none⟩ (.int .i64 (-1))).cell? ⟨g, 2, none⟩ = some (.int .i64 0) := by rw [blk_cell hG0]; rfl
          have q0 : ((wr.setCell ⟨g + 1, 2, none⟩ (.int .i64 0)).setCell ⟨g + 1, 2, none⟩ (.int .i64 (-1))).frozen? ⟨g, 0, none⟩ = false := frozen_of_row _ _ _ _ _ hG0
          have q1 : ((wr.setCell ⟨g + 1, 2, none⟩ (.int .i64 0)).setCell ⟨g + 1, 2, none⟩ (.int .i64 (-1))).frozen? ⟨g, 1, none⟩ = false := frozen_of_row _ _ _ _ _ hG0
          have q2 : ((wr.setCell ⟨g + 1, 2, none⟩ (.int .i64 0)).setCell ⟨g + 1, 2, none⟩ (.int .i64 (-1))).frozen? ⟨g, 2, none⟩ = false := frozen_of_row _ _ _ _ _ hG0
          clear hG0 hbz
          go_wp2_with fail
          (try simp only [Exit.inBlock, Exit.then])
          obtain ⟨hG, hP⟩ := HF.out ((wr.setCell ⟨g + 1, 2, none⟩ (.int .i64 0)).setCell ⟨g + 1, 2, none⟩ (.int .i64 (-1))) j A' c' (mg : Int) (-1) ys none _ _ HFT.out (AtS.no l) HRL.out HOW.out HZ.out
          refine bodyPost_ret (v := .tuple #[.agg #[.int .i64 (mg : Int), .slice A' j c', .int .i64 (-1)], .int .i64 (-1), .bool false]) (results_cell_tmp3 rfl _ _ _ ⟨g, 0, none⟩ _ _ _ rfl rfl rfl (spc_load _ _ _ _ _ (spc_set _ _ _ _ _ _ _ _ _ hG))) rfl ?_
          exact hP
end Go.Proofs.YtkmcjjoicpgjfaaDoor
