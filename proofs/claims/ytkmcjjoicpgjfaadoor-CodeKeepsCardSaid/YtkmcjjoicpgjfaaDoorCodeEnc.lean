/-
  Contract of code.Encode: a program's bytes, or the error of its form. Conditions: the sizes that slices can have.
-/
import Derived.Test.YtkmcjjoicpgjfaaDoorAppS
import Derived.Lib.SlBytesConst
namespace Go.Proofs.YtkmcjjoicpgjfaaDoor
open Go Go.RowKit Go.Sh

theorem step_appO {w : World} {ops : Array Oper} {o : Oper} {a : Act} {K : Act → World → Prop} {Q : Exit → Act → World → Prop} {Er : Prop} (hw : Region.wanted o (yielded ops a.tmps) = true) (s x : Operand)
    (ho : o.op = .call { callee := .builtin .append, args := #[s, x], argTypes := #[39, 39] })
    (A0 : Option Addr) (n c0 : Nat) (hs : a.eval s = .slice A0 n c0) (A : Option Addr) (m c : Nat) (hx : a.eval x = .slice A m c)
    (base : Nat) (rest E : List UInt8) (B : Nat) (news : List UInt8) (hown : OWr base w A0 n c0 (news ++ rest) E)
    (hr : RB w B A m news) (hE : E.length ≤ 140737488355000) (hbase : base ≤ w.heap.size)
    (h : ∀ A' c' w', OWr base w' A' (n + m) c' rest E → Below base w w' → Far w w' (.slice A0 n c0) (.slice A' (n + m) c') → K (a.put o.dst (.slice A' (n + m) c')) w') :
    if Region.wanted o (yielded ops a.tmps) = true then Oper.wp Tryd.prog o a w K Q else Er := by
  obtain ⟨l, h1, h2⟩ := hown
  have hl : n + m ≤ 140737488355000 := by
    have h3 := congrArg List.length h2
    have h4 := h1.1
    have h5 := hr.len
    rw [length_bv] at h4
    rw [List.length_append, List.length_append] at h3
    omega
  exact step_app TB hw s x ho _ hs A m c hx base n (bv l) h1 B (bv news) hr (bv_one _) (by omega) (by omega) hbase fun A' c' w' g1 g2 g3 => h A' c' w' ⟨l ++ news, by rw [bv_append]; exact g1, by rw [← h2, List.append_assoc]⟩ ((Below.refl base w).grown g2 hbase (own_drop h1)) (Far.of_grown g2 g3)
theorem wl_appO {w : World} {ops : Array Oper} {rs : List Oper} {o : Oper} {a : Act} {Q : Exit → Act → World → Prop} (hw : Region.wanted o (yielded ops a.tmps) = true) (s x : Operand)
    (ho : o.op = .call { callee := .builtin .append, args := #[s, x], argTypes := #[39, 39] })
    (A0 : Option Addr) (n c0 : Nat) (hs : a.eval s = .slice A0 n c0) (A : Option Addr) (m c : Nat) (hx : a.eval x = .slice A m c)
    (base : Nat) (rest E : List UInt8) (B : Nat) (news : List UInt8) (hown : OWr base w A0 n c0 (news ++ rest) E)
    (hr : RB w B A m news) (hE : E.length ≤ 140737488355000) (hbase : base ≤ w.heap.size)
    (h : ∀ A' c' w', OWr base w' A' (n + m) c' rest E → Below base w w' → Far w w' (.slice A0 n c0) (.slice A' (n + m) c') → wpList Tryd.prog ops Q rs (a.put o.dst (.slice A' (n + m) c')) w') : wpList Tryd.prog ops Q (o :: rs) a w := by
  obtain ⟨l, h1, h2⟩ := hown
  have hl : n + m ≤ 140737488355000 := by
    have h3 := congrArg List.length h2
    have h4 := h1.1
    have h5 := hr.len
    rw [length_bv] at h4
    rw [List.length_append, List.length_append] at h3
    omega
  exact wl_app TB hw s x ho _ hs A m c hx base n (bv l) h1 B (bv news) hr (bv_one _) (by omega) (by omega) hbase fun A' c' w' g1 g2 g3 => h A' c' w' ⟨l ++ news, by rw [bv_append]; exact g1, by rw [← h2, List.append_assoc]⟩ ((Below.refl base w).grown g2 hbase (own_drop h1)) (Far.of_grown g2 g3)
theorem itI_eq {l : List Int} {k : Nat} (h : k < l.length) : l[k]? = some (it l k) := by
  unfold it
  rw [List.getD_eq_getElem?_getD, List.getElem?_eq_getElem h, Option.getD_some]
/-- a constant string's bytes: full, marked -/
theorem EO.marked (w : World) (base : Nat) (hB : base ≤ w.heap.size) (l : List UInt8) (cs : Array Value) (hc : cs.toList = bv l) (n : Nat) (hn : l.length = n) (fr : Nat × Nat) : EO base (w.alloc (.cells cs 5 fr)) (some ⟨w.heap.size, 0, none⟩) n n l := by
  refine .inr ⟨rfl, hn, _, rfl, hB, by simp, fun j hj => ?_⟩
  rw [add_mk, blk_cell (heap_alloc_new w _), Nat.zero_add, ← hc]
  simp
theorem putD_any (d : Nat) (D n : Int) (hD : D = (d : Int)) (hd0 : 1 ≤ d) (hd : d ≤ 4) (A : Option Addr) (m c : Nat) (w : World) (base : Nat) (rest E : List UInt8) (ho : EOr base w A m c (beB d n ++ rest) E) (hB : base ≤ w.heap.size) (hE : E.length ≤ 140737488355000) :
    Calls Tryd.prog 51 #[.slice A m c, .int .i64 D, .int .i64 n] w (fun e w' => ∃ A' m' c', e = .returned (.slice A' m' c') ∧ OWr base w' A' m' c' rest E ∧ Below base w w' ∧ Far w w' (.slice A m c) (.slice A' m' c') ∧ 0 < m') := by
  subst hD
  exact putR_any d n hd0 hd A m c w base rest E ho hB hE
set_option maxRecDepth 100000 in
set_option maxHeartbeats 16000000 in
theorem Encode_any (d : Pad) (p : Prg) (w : World) (B : Nat) (hp : PR w B d p) (hB : B ≤ w.heap.size) :
    Calls Tryd.prog 17 #[.agg (pcs d p)] w (fun e w' => Below w.heap.size w w' ∧ ((ckP p ≠ 0 ∧ e = .returned (.tuple #[.slice none 0 0, .int .i64 (ckP p)])) ∨ (ckP p = 0 ∧ ∃ A n c, e = .returned (.tuple #[.slice A n c, .int .i64 0]) ∧ (encP p).length = n ∧ w'.ownsRow w.heap.size 5 1 (.slice A n c) n (bv (encP p))))) := by
  have hb1 := (Below.refl w.heap.size w).alloc (Nat.le_refl _) (.cells (pcs d p) 30)
  have HB1 := Lib.hid hb1
  have HPR := Lib.hid (hp.below (hb1.mono hB))
  have HBX := Lib.hid (show (w.alloc (.cells (pcs d p) 30)).heap[w.heap.size]? = some (.cells (pcs d p).toList.toArray 30 (0, 0)) from heap_alloc_new w _)
  have hps : (pcs d p).size = 8 := rfl
  have hz1 : (w.alloc (.cells (pcs d p) 30)).heap.size = w.heap.size + 1 := by simp
  have HCK := Lib.hid (fun (W : World) (h : PR W B d p) (hB : B ≤ W.heap.size) => CodeCheck_any d p W B h hB)
  have HI := Lib.hid (show (Tryd.prog.info? 30).map (·.size) = some (pcs d p).toList.length by rw [show (pcs d p).toList.length = 8 from rfl]; exact info_prog)
  have HFM := Lib.hid (fun h : ckP p = 0 => fm_of h)
  have HLE := Lib.hid (fun h : ckP p = 0 => encP_len h)
  have HEN := Lib.hid (show [115, 104, 108, 49] ++ ((headsP p).flatMap (beB 2) ++ tl0 p) = encP p from rfl)
  have HL1 := Lib.hid (show p.code.length = d.n1 by have := hp.code.len; rw [List.length_map] at this; exact this)
  have HL2 := Lib.hid (show p.msgs.length = d.n2 from hp.msgs.len)
  have HL3 := Lib.hid (show p.rts.length = d.n3 from hp.rts.len)
  have HL4 := Lib.hid (show p.snds.length = d.n4 from hp.snds.len)
  have HHS := Lib.hid (show headsP p = [(d.n1 : Int), (d.n2 : Int), (d.n3 : Int), (d.n4 : Int), p.vars, p.stack, p.blocks] by unfold headsP; rw [HL1.out, HL2.out, HL3.out, HL4.out])
  generalize headsP p = hs at *
  have HT0 := Lib.hid (show tl0 p = beB 4 p.fuel ++ (p.code.flatMap encI ++ tl1 p) from rfl)
  have HT1 := Lib.hid (show tl1 p = p.msgs.flatMap encM ++ tl2 p from rfl)
  have HT2 := Lib.hid (show tl2 p = p.rts.flatMap encRt ++ tl3 p from rfl)
  have HT3 := Lib.hid (show tl3 p = p.snds.flatMap encSd ++ [] by rw [List.append_nil]; rfl)
  generalize tl0 p = T0 at *
  generalize tl1 p = T1 at *
  generalize tl2 p = T2 at *
  generalize tl3 p = T3 at *
  generalize encP p = E at *
  generalize ckP p = ck at *
  have e0 : (pcs d p).toList[0]? = some (.slice d.A1 d.n1 d.c1) := rfl
  have e1 : (pcs d p).toList[1]? = some (.slice d.A2 d.n2 d.c2) := rfl
  have e2 : (pcs d p).toList[2]? = some (.slice d.A3 d.n3 d.c3) := rfl
  have e3 : (pcs d p).toList[3]? = some (.slice d.A4 d.n4 d.c4) := rfl
  have e4 : (pcs d p).toList[4]? = some (.int .i64 p.vars) := rfl
  have e5 : (pcs d p).toList[5]? = some (.int .i64 p.stack) := rfl
  have e6 : (pcs d p).toList[6]? = some (.int .i64 p.blocks) := rfl
  have e7 : (pcs d p).toList[7]? = some (.int .i64 p.fuel) := rfl
  have HEL := Lib.hid (And.intro e0 (And.intro e1 (And.intro e2 (And.intro e3 (And.intro e4 (And.intro e5 (And.intro e6 e7)))))))
  clear e0 e1 e2 e3 e4 e5 e6 e7 hp hb1
  obtain ⟨X, hX⟩ : ∃ X, pcs d p = X := ⟨_, rfl⟩
  have HTA := Lib.hid (show (pcs d p).toList.toArray = X by rw [hX])
  rw [hX] at HB1 HPR hps hz1 HCK ⊢
  have hxe : ¬ X = #[] := by intro h; rw [h] at hps; cases hps
  have HBX1 := Lib.hid (show (w.alloc (.cells X 30)).heap[w.heap.size]? = some (.cells (pcs d p).toList.toArray 30 (0, 0)) by rw [← hX]; exact HBX.out)
  clear hX HBX
  generalize (pcs d p).toList = L at *
  go_enter Tryd.func17, Tryd.ntmps17
  have HRNG := Lib.hid (blk_range HBX1.out)
  go_wp2_with (refine wl_load_mid rfl 30 (.tmp 1) rfl w.heap.size 0 rfl L _ HRNG.out Tryd.underlying30 rfl HI.out ?_; rw [HTA.out])
  clear HRNG
  generalize w.alloc (.cells X 30) = w1 at *
  obtain ⟨g, hg⟩ : ∃ g, w.heap.size = g := ⟨_, rfl⟩
  have HG := Lib.hid hg
  rw [hg] at hB hz1 HB1 HBX1 ⊢
  clear hg
  have HFR := Lib.hid (fun (W : World) (h : Below (g + 1) w1 W) (j : Nat) (v : Value) (hv : L[j]? = some v) => show W.cell? ⟨g, j, none⟩ = some v by rw [blk_cell ((h.block g (Nat.lt_succ_self _)).trans HBX1.out), List.getElem?_toArray]; exact hv)
  refine (HCK.out w1 HPR.out (by omega)).mono ?_
  rintro e w2 ⟨rfl, hb2⟩
  rw [hz1] at hb2
  have HB2 := Lib.hid hb2
  have hs2 := hb2.size
  clear hb2 HCK HTA
  by_cases hck : ck = 0
  case neg =>
    have hne : (ck != 0) = true := by rw [bne_iff_ne]; exact hck
    have HNE := Lib.hid hck
    clear hck
    go_wp2_with fail
    go_ret2
    exact ⟨by rw [HG.out]; exact HB1.out.trans (HB2.out.mono (Nat.le_succ _)), .inl ⟨HNE.out, rfl⟩⟩
  case pos =>
    have HFMM := Lib.hid (HFM.out hck)
    have hEl := HLE.out hck
    have HLEN := Lib.hid (show E.length ≤ 140737488355000 by omega)
    subst hck
    clear HFM HLE hEl
    have hcv := fun (W : World) (C : Array Value) (n c : Nat) => Lib.run_convert_bytes_const (P := Tryd.prog) W 39 5 C n c Tryd.underlying39 Tryd.underlying5
    have hb3 := (Below.refl w2.heap.size w2).alloc (Nat.le_refl _) (.cells #[.int .u8 115, .int .u8 104, .int .u8 108, .int .u8 49] 5 (4, 5))
    have HB3 := Lib.hid (HB2.out.trans (hb3.mono (by omega)))
    have HO3 := Lib.hid (show EOr (g + 1) (w2.alloc (.cells #[.int .u8 115, .int .u8 104, .int .u8 108, .int .u8 49] 5 (4, 5))) (some ⟨w2.heap.size, 0, none⟩) 4 4 ((hs.drop 0).flatMap (beB 2) ++ T0) E from ⟨[115, 104, 108, 49], EO.marked w2 (g + 1) (by omega) [115, 104, 108, 49] #[.int .u8 115, .int .u8 104, .int .u8 108, .int .u8 49] rfl 4 rfl (4, 5), HEN.out⟩)
    have hz3 : (w2.alloc (.cells #[.int .u8 115, .int .u8 104, .int .u8 108, .int .u8 49] 5 (4, 5))).heap.size = w2.heap.size + 1 := by simp
    have HP1 := Lib.hid (fun (A : Option Addr) (m c : Nat) (n : Int) (W : World) (rest : List UInt8) (h : EOr (g + 1) W A m c (beB 1 n ++ rest) E) (hB : g + 1 ≤ W.heap.size) => putD_any 1 1 n rfl (by decide) (by decide) A m c W (g + 1) rest E h hB HLEN.out)
    have HP2 := Lib.hid (fun (A : Option Addr) (m c : Nat) (n : Int) (W : World) (rest : List UInt8) (h : EOr (g + 1) W A m c (beB 2 n ++ rest) E) (hB : g + 1 ≤ W.heap.size) => putD_any 2 2 n rfl (by decide) (by decide) A m c W (g + 1) rest E h hB HLEN.out)
    have HP4 := Lib.hid (fun (A : Option Addr) (m c : Nat) (n : Int) (W : World) (rest : List UInt8) (h : EOr (g + 1) W A m c (beB 4 n ++ rest) E) (hB : g + 1 ≤ W.heap.size) => putD_any 4 4 n rfl (by decide) (by decide) A m c W (g + 1) rest E h hB HLEN.out)
    obtain ⟨e0, e1, e2, e3, e4, e5, e6, e7⟩ := HEL.out
    have k0 := HFR.out _ HB3.out 0 _ e0
    have k1 := HFR.out _ HB3.out 1 _ e1
    have k2 := HFR.out _ HB3.out 2 _ e2
    have k3 := HFR.out _ HB3.out 3 _ e3
    have k4 := HFR.out _ HB3.out 4 _ e4
    have k5 := HFR.out _ HB3.out 5 _ e5
    have k6 := HFR.out _ HB3.out 6 _ e6
    clear e0 e1 e2 e3 e4 e5 e6 e7 hb3
    go_wp2_with fail
    generalize w2.alloc (.cells #[.int .u8 115, .int .u8 104, .int .u8 108, .int .u8 49] 5 (4, 5)) = w3 at *
    clear hcv k0 k1 k2 k3 k4 k5 k6
    go_loopw [5, 7, 46] (fun o _ i wr => ∃ (k : Nat) (A : Option Addr) (m c : Nat), k ≤ 7 ∧ i = .int .i64 (k : Int) ∧ o = .slice A m c ∧ EOr (g + 1) wr A m c ((hs.drop k).flatMap (beB 2) ++ T0) E ∧ Below (g + 1) w1 wr) (fun _ _ i _ => 7 - (intOf i).toNat)
    case atStart => exact ⟨0, some ⟨w2.heap.size, 0, none⟩, 4, 4, by omega, rfl, rfl, HO3.out, HB3.out⟩
    case round =>
      obtain ⟨k, A, m, c, hk, rfl, rfl, ho, hb⟩ := hrel
      have HO := Lib.hid ho
      have HBr := Lib.hid hb
      have hzr := hb.size
      clear ho hb HO3 HB3
      rcases (show k = 0 ∨ k = 1 ∨ k = 2 ∨ k = 3 ∨ k = 4 ∨ k = 5 ∨ k = 6 ∨ k = 7 by omega) with rfl | rfl | rfl | rfl | rfl | rfl | rfl | rfl
      · have hix : ∀ W : World, (Instr.index 97 (.agg #[.int .i64 ((d.n1 : Int)), .int .i64 ((d.n2 : Int)), .int .i64 ((d.n3 : Int)), .int .i64 ((d.n4 : Int)), .int .i64 (p.vars), .int .i64 (p.stack), .int .i64 (p.blocks)]) (.int .i64 0)).run Tryd.prog W = .ok (.int .i64 ((d.n1 : Int))) W := fun _ => by kernel_rfl
        go_wp2_with fail
        refine (putD_any 2 2 (d.n1 : Int) rfl (by decide) (by decide) A m c _ (g + 1) ((hs.drop 1).flatMap (beB 2) ++ T0) E (HO.out.to (drop_flat (by rw [HHS.out]; rfl) _)) (by omega) HLEN.out).mono ?_
        rintro e w4 ⟨A4, m4, c4, rfl, ho4, hb4, _⟩
        have HO4 := Lib.hid ho4.eo
        have HB4 := Lib.hid (HBr.out.trans hb4)
        clear ho4 hb4
        go_wp2_with fail
        exact ⟨⟨1, A4, m4, c4, by decide, rfl, rfl, HO4.out, HB4.out⟩, by simp [intOf]⟩
      · have hix : ∀ W : World, (Instr.index 97 (.agg #[.int .i64 ((d.n1 : Int)), .int .i64 ((d.n2 : Int)), .int .i64 ((d.n3 : Int)), .int .i64 ((d.n4 : Int)), .int .i64 (p.vars), .int .i64 (p.stack), .int .i64 (p.blocks)]) (.int .i64 1)).run Tryd.prog W = .ok (.int .i64 ((d.n2 : Int))) W := fun _ => by kernel_rfl
        go_wp2_with fail
        refine (putD_any 2 2 (d.n2 : Int) rfl (by decide) (by decide) A m c _ (g + 1) ((hs.drop 2).flatMap (beB 2) ++ T0) E (HO.out.to (drop_flat (by rw [HHS.out]; rfl) _)) (by omega) HLEN.out).mono ?_
        rintro e w4 ⟨A4, m4, c4, rfl, ho4, hb4, _⟩
        have HO4 := Lib.hid ho4.eo
        have HB4 := Lib.hid (HBr.out.trans hb4)
        clear ho4 hb4
        go_wp2_with fail
        exact ⟨⟨2, A4, m4, c4, by decide, rfl, rfl, HO4.out, HB4.out⟩, by simp [intOf]⟩
      · have hix : ∀ W : World, (Instr.index 97 (.agg #[.int .i64 ((d.n1 : Int)), .int .i64 ((d.n2 : Int)), .int .i64 ((d.n3 : Int)), .int .i64 ((d.n4 : Int)), .int .i64 (p.vars), .int .i64 (p.stack), .int .i64 (p.blocks)]) (.int .i64 2)).run Tryd.prog W = .ok (.int .i64 ((d.n3 : Int))) W := fun _ => by kernel_rfl
        go_wp2_with fail
        refine (putD_any 2 2 (d.n3 : Int) rfl (by decide) (by decide) A m c _ (g + 1) ((hs.drop 3).flatMap (beB 2) ++ T0) E (HO.out.to (drop_flat (by rw [HHS.out]; rfl) _)) (by omega) HLEN.out).mono ?_
        rintro e w4 ⟨A4, m4, c4, rfl, ho4, hb4, _⟩
        have HO4 := Lib.hid ho4.eo
        have HB4 := Lib.hid (HBr.out.trans hb4)
        clear ho4 hb4
        go_wp2_with fail
        exact ⟨⟨3, A4, m4, c4, by decide, rfl, rfl, HO4.out, HB4.out⟩, by simp [intOf]⟩
      · have hix : ∀ W : World, (Instr.index 97 (.agg #[.int .i64 ((d.n1 : Int)), .int .i64 ((d.n2 : Int)), .int .i64 ((d.n3 : Int)), .int .i64 ((d.n4 : Int)), .int .i64 (p.vars), .int .i64 (p.stack), .int .i64 (p.blocks)]) (.int .i64 3)).run Tryd.prog W = .ok (.int .i64 ((d.n4 : Int))) W := fun _ => by kernel_rfl
        go_wp2_with fail
        refine (putD_any 2 2 (d.n4 : Int) rfl (by decide) (by decide) A m c _ (g + 1) ((hs.drop 4).flatMap (beB 2) ++ T0) E (HO.out.to (drop_flat (by rw [HHS.out]; rfl) _)) (by omega) HLEN.out).mono ?_
        rintro e w4 ⟨A4, m4, c4, rfl, ho4, hb4, _⟩
        have HO4 := Lib.hid ho4.eo
        have HB4 := Lib.hid (HBr.out.trans hb4)
        clear ho4 hb4
        go_wp2_with fail
        exact ⟨⟨4, A4, m4, c4, by decide, rfl, rfl, HO4.out, HB4.out⟩, by simp [intOf]⟩
      · have hix : ∀ W : World, (Instr.index 97 (.agg #[.int .i64 ((d.n1 : Int)), .int .i64 ((d.n2 : Int)), .int .i64 ((d.n3 : Int)), .int .i64 ((d.n4 : Int)), .int .i64 (p.vars), .int .i64 (p.stack), .int .i64 (p.blocks)]) (.int .i64 4)).run Tryd.prog W = .ok (.int .i64 (p.vars)) W := fun _ => by kernel_rfl
        go_wp2_with fail
        refine (putD_any 2 2 p.vars rfl (by decide) (by decide) A m c _ (g + 1) ((hs.drop 5).flatMap (beB 2) ++ T0) E (HO.out.to (drop_flat (by rw [HHS.out]; rfl) _)) (by omega) HLEN.out).mono ?_
        rintro e w4 ⟨A4, m4, c4, rfl, ho4, hb4, _⟩
        have HO4 := Lib.hid ho4.eo
        have HB4 := Lib.hid (HBr.out.trans hb4)
        clear ho4 hb4
        go_wp2_with fail
        exact ⟨⟨5, A4, m4, c4, by decide, rfl, rfl, HO4.out, HB4.out⟩, by simp [intOf]⟩
      · have hix : ∀ W : World, (Instr.index 97 (.agg #[.int .i64 ((d.n1 : Int)), .int .i64 ((d.n2 : Int)), .int .i64 ((d.n3 : Int)), .int .i64 ((d.n4 : Int)), .int .i64 (p.vars), .int .i64 (p.stack), .int .i64 (p.blocks)]) (.int .i64 5)).run Tryd.prog W = .ok (.int .i64 (p.stack)) W := fun _ => by kernel_rfl
        go_wp2_with fail
        refine (putD_any 2 2 p.stack rfl (by decide) (by decide) A m c _ (g + 1) ((hs.drop 6).flatMap (beB 2) ++ T0) E (HO.out.to (drop_flat (by rw [HHS.out]; rfl) _)) (by omega) HLEN.out).mono ?_
        rintro e w4 ⟨A4, m4, c4, rfl, ho4, hb4, _⟩
        have HO4 := Lib.hid ho4.eo
        have HB4 := Lib.hid (HBr.out.trans hb4)
        clear ho4 hb4
        go_wp2_with fail
        exact ⟨⟨6, A4, m4, c4, by decide, rfl, rfl, HO4.out, HB4.out⟩, by simp [intOf]⟩
      · have hix : ∀ W : World, (Instr.index 97 (.agg #[.int .i64 ((d.n1 : Int)), .int .i64 ((d.n2 : Int)), .int .i64 ((d.n3 : Int)), .int .i64 ((d.n4 : Int)), .int .i64 (p.vars), .int .i64 (p.stack), .int .i64 (p.blocks)]) (.int .i64 6)).run Tryd.prog W = .ok (.int .i64 (p.blocks)) W := fun _ => by kernel_rfl
        go_wp2_with fail
        refine (putD_any 2 2 p.blocks rfl (by decide) (by decide) A m c _ (g + 1) ((hs.drop 7).flatMap (beB 2) ++ T0) E (HO.out.to (drop_flat (by rw [HHS.out]; rfl) _)) (by omega) HLEN.out).mono ?_
        rintro e w4 ⟨A4, m4, c4, rfl, ho4, hb4, _⟩
        have HO4 := Lib.hid ho4.eo
        have HB4 := Lib.hid (HBr.out.trans hb4)
        clear ho4 hb4
        go_wp2_with fail
        exact ⟨⟨7, A4, m4, c4, by decide, rfl, rfl, HO4.out, HB4.out⟩, by simp [intOf]⟩
      · have HO7 := Lib.hid (HO.out.to (show (hs.drop 7).flatMap (beB 2) ++ T0 = beB 4 p.fuel ++ (p.code.flatMap encI ++ T1) by rw [drop_end (by rw [HHS.out]; exact Nat.le_refl _), HT0.out]))
        have k7 := HFR.out _ HBr.out 7 _ HEL.out.2.2.2.2.2.2.2
        clear HO
        go_wp2_with fail
        refine (putD_any 4 4 p.fuel rfl (by decide) (by decide) A m c _ (g + 1) (p.code.flatMap encI ++ T1) E HO7.out (by omega) HLEN.out).mono ?_
        rintro e w5 ⟨A5, m5, c5, rfl, ho5, hb5, _⟩
        have HO5 := Lib.hid ho5
        have HB5 := Lib.hid (HBr.out.trans hb5)
        have k0 := HFR.out _ HB5.out 0 _ HEL.out.1
        have hz5 := HB5.out.size
        clear ho5 hb5 HO7 HBr k7 hzr HHS HEN HT0
        go_wp2_with fail
        clear k0
        have hn1 : d.n1 ≤ 4000 := by have := HFMM.out.n1; rw [HL1.out] at this; exact this
        go_loopw [5, 9, 60] (fun o _ i wr => ∃ (k : Nat) (A : Option Addr) (m c : Nat), k ≤ d.n1 ∧ i = .int .i64 (k : Int) ∧ o = .slice A m c ∧ OWr (g + 1) wr A m c ((p.code.drop k).flatMap encI ++ T1) E ∧ Below (g + 1) w1 wr) (fun _ _ i _ => d.n1 - (intOf i).toNat)
        case atStart => exact ⟨0, A5, m5, c5, by omega, rfl, rfl, HO5.out, HB5.out⟩
        case round =>
          obtain ⟨k, A, m, c, hk, rfl, rfl, ho, hb⟩ := hrel
          have HO := Lib.hid ho
          have HBr := Lib.hid hb
          have hzr := hb.size
          clear ho hb HO5 HB5
          by_cases hlt : k < d.n1
          · have dk : (k : Int) < (d.n1 : Int) := by omega
            obtain ⟨b, off, hA1, hbB, c0, c1, c2⟩ := ins_at (HPR.out.code.below (HBr.out.mono (by omega))) hlt
            rw [hA1]
            have HO2 := Lib.hid (HO.out.to (show _ = (iat p.code k).op :: (beB 4 (iat p.code k).a ++ (beB 2 (iat p.code k).b ++ ((p.code.drop (k + 1)).flatMap encI ++ T1))) by rw [drop_flat (iat_eq (by have := HL1.out; omega)) T1]; unfold encI; simp))
            obtain ⟨R0, hR0⟩ : ∃ R0, (p.code.drop (k + 1)).flatMap encI ++ T1 = R0 := ⟨_, rfl⟩
            rw [hR0] at HO2
            have HR0 := Lib.hid hR0
            clear hR0
            generalize iat p.code k = st at *
            obtain ⟨op, a, bb⟩ := st
            simp only at c0 c1 c2 HO2
            have hba := (Below.refl wr.heap.size wr).alloc (Nat.le_refl _) (.cells #[.int .u8 (op.toNat : Int), .int .i64 a, .int .i64 bb] 33)
            have HBA := Lib.hid (HBr.out.trans (hba.mono (by omega)))
            have HOA := Lib.hid (HO2.out.later hba)
            have hng := HO.out.not_new (k := wr.heap.size) (Nat.le_refl _)
            have HCA := Lib.hid (heap_alloc_new wr (.cells #[.int .u8 (op.toNat : Int), .int .i64 a, .int .i64 bb] 33))
            have hzA : (wr.alloc (.cells #[.int .u8 (op.toNat : Int), .int .i64 a, .int .i64 bb] 33)).heap.size = wr.heap.size + 1 := by simp
            clear hba HO HO2 HBr
            go_wp2_with fail
            generalize wr.alloc (.cells #[.int .u8 (op.toNat : Int), .int .i64 a, .int .i64 bb] 33) = wa at *
            clear c0 c1 c2
            obtain ⟨ga, hga⟩ : ∃ ga, wr.heap.size = ga := ⟨_, rfl⟩
            rw [hga] at HCA hzA hzr hng ⊢
            have HGA := Lib.hid hng
            clear hng
            have j0 : wa.cell? ⟨ga, 0, none⟩ = some (.int .u8 (op.toNat : Int)) := by rw [blk_cell HCA.out]; rfl
            have j1 : wa.cell? ⟨ga, 1, none⟩ = some (.int .i64 a) := by rw [blk_cell HCA.out]; rfl
            have j2 : wa.cell? ⟨ga, 2, none⟩ = some (.int .i64 bb) := by rw [blk_cell HCA.out]; rfl
            have hga2 : ga < wa.heap.size := by omega
            have hga3 : g + 1 ≤ ga := by omega
            have hga4 : g + 1 ≤ wa.heap.size := by omega
            clear hzA hga
            have hb14 : Below wa.heap.size wa (wa.alloc (.cells #[.int .u8 (op.toNat : Int)] 5)).drew := ((Below.refl _ _).alloc (Nat.le_refl _) _).drew
            have HBB := Lib.hid (HBA.out.trans (hb14.mono hga4))
            have HOB := Lib.hid (HOA.out.later hb14)
            have HNB := Lib.hid (HOA.out.not_new (k := wa.heap.size) (Nat.le_refl _))
            have HCB := Lib.hid ((hb14.block ga hga2).trans HCA.out)
            have HRB := Lib.hid (show RB (wa.alloc (.cells #[.int .u8 (op.toNat : Int)] 5)).drew (wa.heap.size + 1) (some ⟨wa.heap.size, 0, none⟩) 1 [op] from Reads.lit wa _ [.int .u8 (op.toNat : Int)] 1 1 rfl _ rfl)
            have hz14 : (wa.alloc (.cells #[.int .u8 (op.toNat : Int)] 5)).drew.heap.size = wa.heap.size + 1 := by show (wa.alloc _).heap.size = _; simp
            have hz15 : g + 1 ≤ (wa.alloc (.cells #[.int .u8 (op.toNat : Int)] 5)).drew.heap.size := by omega
            have hz16 : ga < (wa.alloc (.cells #[.int .u8 (op.toNat : Int)] 5)).drew.heap.size := by omega
            clear hb14
            go_region_held3 (fun w' => w'.cell? ⟨ga, 0, none⟩ = some (.int .u8 (op.toNat : Int)) ∧ w'.cell? ⟨ga, 1, none⟩ = some (.int .i64 a) ∧ w'.cell? ⟨ga, 2, none⟩ = some (.int .i64 bb)) (go_keep) (first | ((fail_if_success (go_simp; go_at_call 51)); refine step_appO (by rfl) (.tmp 64) (.tmp 67) (by rfl) A m c (by rfl) (some ⟨wa.heap.size, 0, none⟩) 1 1 (by rfl) (g + 1) (beB 4 a ++ (beB 2 bb ++ R0)) E (wa.heap.size + 1) [op] HOB.out HRB.out HLEN.out hz15 ?_; intro A5 c5 w5 ho5 hb5 hf5; have HO5 := Lib.hid ho5.eo; have HB5 := Lib.hid (HBB.out.trans hb5); have HF5 := Lib.hid (hf5 ga hz16 HGA.out); have hs5 := hb5.size; have hg5 : g + 1 ≤ w5.heap.size := Nat.le_trans hz15 hs5; have hg5a : ga < w5.heap.size := Nat.lt_of_lt_of_le hz16 hs5; have HC5 := Lib.hid (HF5.out.1.trans HCB.out); have ka0 : w5.cell? ⟨ga, 0, none⟩ = some (.int .u8 (op.toNat : Int)) := (by rw [blk_cell HC5.out]; rfl); have ka1 : w5.cell? ⟨ga, 1, none⟩ = some (.int .i64 a) := (by rw [blk_cell HC5.out]; rfl); have ka2 : w5.cell? ⟨ga, 2, none⟩ = some (.int .i64 bb) := (by rw [blk_cell HC5.out]; rfl); clear ho5 hb5 hf5) | (go_at_call 51; refine (HP2.out A6 m6 c6 bb w6 R0 HO6.out hg6).mono ?_; rintro e w7 ⟨A7, m7, c7, rfl, ho7, hb7, hf7, _⟩; have HO7 := Lib.hid ho7; have HB7 := Lib.hid (HB6.out.trans hb7); have HF7 := Lib.hid (hf7 ga hg6a HF6.out.2); have HC7 := Lib.hid (HF7.out.1.trans HC6.out); have kc0 : w7.cell? ⟨ga, 0, none⟩ = some (.int .u8 (op.toNat : Int)) := (by rw [blk_cell HC7.out]; rfl); have kc1 : w7.cell? ⟨ga, 1, none⟩ = some (.int .i64 a) := (by rw [blk_cell HC7.out]; rfl); have kc2 : w7.cell? ⟨ga, 2, none⟩ = some (.int .i64 bb) := (by rw [blk_cell HC7.out]; rfl); clear ho7 hb7 hf7) | (go_at_call 51; refine (HP4.out A5 (m + 1) c5 a w5 (beB 2 bb ++ R0) HO5.out hg5).mono ?_; rintro e w6 ⟨A6, m6, c6, rfl, ho6, hb6, hf6, _⟩; have HO6 := Lib.hid ho6.eo; have HB6 := Lib.hid (HB5.out.trans hb6); have HF6 := Lib.hid (hf6 ga hg5a HF5.out.2); have hs6 := hb6.size; have hg6 : g + 1 ≤ w6.heap.size := Nat.le_trans hg5 hs6; have hg6a : ga < w6.heap.size := Nat.lt_of_lt_of_le hg5a hs6; have HC6 := Lib.hid (HF6.out.1.trans HC5.out); have kb0 : w6.cell? ⟨ga, 0, none⟩ = some (.int .u8 (op.toNat : Int)) := (by rw [blk_cell HC6.out]; rfl); have kb1 : w6.cell? ⟨ga, 1, none⟩ = some (.int .i64 a) := (by rw [blk_cell HC6.out]; rfl); have kb2 : w6.cell? ⟨ga, 2, none⟩ = some (.int .i64 bb) := (by rw [blk_cell HC6.out]; rfl); clear ho6 hb6 hf6))
            all_goals go_wp2_with fail
            all_goals exact ⟨⟨k + 1, A7, m7, c7, by omega, by go_num, rfl, by rw [HR0.out]; exact HO7.out, HB7.out⟩, by simp [intOf]; omega⟩
          · obtain rfl : k = d.n1 := by omega
            have HO1 := Lib.hid (HO.out.to (show _ = p.msgs.flatMap encM ++ T2 by rw [drop_end (by have := HL1.out; omega), HT1.out]))
            have k1 := HFR.out _ HBr.out 1 _ HEL.out.2.1
            clear HO hn1
            go_wp2_with fail
            clear k1
            have hn2 : d.n2 ≤ 64 := by have := HFMM.out.n2; rw [HL2.out] at this; exact this
            go_loopw [5, 11, 79] (fun o _ i wr => ∃ (k : Nat) (A : Option Addr) (m c : Nat), k ≤ d.n2 ∧ i = .int .i64 (k : Int) ∧ o = .slice A m c ∧ OWr (g + 1) wr A m c ((p.msgs.drop k).flatMap encM ++ T2) E ∧ Below (g + 1) w1 wr) (fun _ _ i _ => d.n2 - (intOf i).toNat)
            case atStart => exact ⟨0, A, m, c, by omega, rfl, rfl, HO1.out, HBr.out⟩
            case round =>
              clear HO1 HBr hzr
              obtain ⟨k, A, m, c, hk, rfl, rfl, ho, hb⟩ := hrel
              have HO := Lib.hid ho
              have HBr := Lib.hid hb
              have hzr := hb.size
              clear ho hb
              by_cases hlt : k < d.n2
              · have dk : (k : Int) < (d.n2 : Int) := by omega
                obtain ⟨ad, Ai, ni, ci, hA2, hbB, c0, hnc, hrow⟩ := (HPR.out.msgs.below (HBr.out.mono (by omega))).at_ hlt
                rw [hA2]
                have hml := hrow.len
                obtain ⟨R0, hR0⟩ : ∃ R0, (p.msgs.drop (k + 1)).flatMap encM ++ T2 = R0 := ⟨_, rfl⟩
                have HO2 := Lib.hid (HO.out.to (show _ = beB 2 (ni : Int) ++ (lat p.msgs k ++ R0) by rw [drop_flat (show p.msgs[k]? = some (lat p.msgs k) from lat_eq (by have := HL2.out; omega)) T2, hR0]; unfold encM; rw [hml, List.append_assoc]))
                have HR0 := Lib.hid hR0
                have HRW := Lib.hid hrow
                clear hR0 HO hrow hml
                generalize lat p.msgs k = ms at *
                go_wp2_with fail
                refine (HP2.out A m c (ni : Int) _ (ms ++ R0) HO2.out.eo (by omega)).mono ?_
                rintro e w6 ⟨A6, m6, c6, rfl, ho6, hb6, _, _⟩
                have HO6 := Lib.hid ho6
                have HB6 := Lib.hid (HBr.out.trans hb6)
                have HRW6 := Lib.hid (HRW.out.below (hb6.mono (by omega)))
                have hz6 := HB6.out.size
                have hg6 : g + 1 ≤ w6.heap.size := by omega
                clear ho6 hb6 HO2 HBr HRW c0
                go_wp2_with (at_builtin; refine wl_appO rfl (.tmp 86) (.tmp 87) rfl A6 m6 c6 rfl Ai ni ci rfl (g + 1) R0 E B ms HO6.out HRW6.out HLEN.out hg6 ?appm)
                case appm =>
                  intro A7 c7 w7 ho7 hb7 _
                  have HO7 := Lib.hid ho7
                  have HB7 := Lib.hid (HB6.out.trans hb7)
                  clear ho7 hb7 HO6 HB6 HRW6
                  go_wp2_with fail
                  exact ⟨⟨k + 1, A7, m6 + ni, c7, by omega, by go_num, rfl, by rw [HR0.out]; exact HO7.out, HB7.out⟩, by simp [intOf]; omega⟩
              · obtain rfl : k = d.n2 := by omega
                have HO1 := Lib.hid (HO.out.to (show _ = p.rts.flatMap encRt ++ T3 by rw [drop_end (by have := HL2.out; omega), HT2.out]))
                have k2 := HFR.out _ HBr.out 2 _ HEL.out.2.2.1
                clear HO hn2
                go_wp2_with fail
                clear k2
                have hn3 : d.n3 ≤ 64 := by have := HFMM.out.n3; rw [HL3.out] at this; exact this
                go_loopw [5, 13, 15, 93] (fun o _ _ i wr => ∃ (k : Nat) (A : Option Addr) (m c : Nat), k ≤ d.n3 ∧ i = .int .i64 (k : Int) ∧ o = .slice A m c ∧ OWr (g + 1) wr A m c ((p.rts.drop k).flatMap encRt ++ T3) E ∧ Below (g + 1) w1 wr) (fun _ _ _ i _ => d.n3 - (intOf i).toNat)
                case atStart => exact ⟨0, A, m, c, by omega, rfl, rfl, HO1.out, HBr.out⟩
                case round =>
                  clear HO1 HBr hzr
                  obtain ⟨k, A, m, c, hk, rfl, rfl, ho, hb⟩ := hrel
                  have HO := Lib.hid ho
                  have HBr := Lib.hid hb
                  have hzr := hb.size
                  clear ho hb
                  by_cases hlt : k < d.n3
                  · have dk : (k : Int) < (d.n3 : Int) := by omega
                    obtain ⟨ad, Ai, ni, ci, hA3, hbB, c0, hnc, hrow⟩ := (HPR.out.rts.below (HBr.out.mono (by omega))).at_ hlt
                    rw [hA3]
                    have hml : (rat p.rts k).length = ni := by have := hrow.len; rw [List.length_map] at this; exact this
                    obtain ⟨R0, hR0⟩ : ∃ R0, (p.rts.drop (k + 1)).flatMap encRt ++ T3 = R0 := ⟨_, rfl⟩
                    have HO2 := Lib.hid (HO.out.to (show _ = beB 1 (ni : Int) ++ ((rat p.rts k).flatMap encT ++ R0) by rw [drop_flat (rat_eq (by have := HL3.out; omega)) T3, hR0]; unfold encRt; rw [hml, List.append_assoc]))
                    have HR0 := Lib.hid hR0
                    have HRW := Lib.hid hrow
                    have HML := Lib.hid hml
                    have HRT := Lib.hid (HFMM.out.rts _ (rat_mem (l := p.rts) (k := k) (by have := HL3.out; omega)))
                    have hni : ni ≤ 5 := by have := HRT.out.2.1; omega
                    clear hR0 HO hrow hml
                    generalize rat p.rts k = rt at *
                    go_wp2_with fail
                    refine (HP1.out A m c (ni : Int) _ (rt.flatMap encT ++ R0) HO2.out.eo (by omega)).mono ?_
                    rintro e w6 ⟨A6, m6, c6, rfl, ho6, hb6, _, _⟩
                    have HO6 := Lib.hid ho6
                    have HB6 := Lib.hid (HBr.out.trans hb6)
                    have hz6 := HB6.out.size
                    have HRW6 := Lib.hid (HRW.out.below (hb6.mono (by omega)))
                    clear ho6 hb6 HO2 HBr HRW c0
                    go_wp2_with fail
                    go_loopw [5, 15, 103] (fun o _ i wr => ∃ (j : Nat) (A : Option Addr) (m c : Nat), j ≤ ni ∧ i = .int .i64 (j : Int) ∧ o = .slice A m c ∧ OWr (g + 1) wr A m c ((rt.drop j).flatMap encT ++ R0) E ∧ Below (g + 1) w6 wr) (fun _ _ i _ => ni - (intOf i).toNat)
                    case atStart => exact ⟨0, A6, m6, c6, by omega, rfl, rfl, HO6.out, Below.refl _ _⟩
                    case round =>
                      clear HO6
                      obtain ⟨j, A, m, c, hj, rfl, rfl, ho, hb⟩ := hrel
                      have HO := Lib.hid ho
                      have HBi := Lib.hid (HB6.out.trans hb)
                      have HRWi := Lib.hid (HRW6.out.below (hb.mono (by omega)))
                      have hzi := hb.size
                      clear ho
                      have HBj := Lib.hid hb
                      clear hb
                      by_cases hlj : j < ni
                      · have dj : (j : Int) < (ni : Int) := by omega
                        obtain ⟨b, off, hAi, hbB2, c0, c1, c2⟩ := stop_at HRWi.out hlj
                        rw [hAi]
                        obtain ⟨R1, hR1⟩ : ∃ R1, (rt.drop (j + 1)).flatMap encT ++ R0 = R1 := ⟨_, rfl⟩
                        have HO2 := Lib.hid (HO.out.to (show _ = beB 1 ((sat rt j).nm.size : Int) ++ (nmL (sat rt j).nm ++ (beB 4 (sat rt j).dl ++ (beB 1 (sat rt j).fl ++ R1))) by rw [drop_flat (sat_eq (by have := HML.out; omega)) R0, hR1]; unfold encT; simp))
                        have HR1 := Lib.hid hR1
                        clear hR1 HO
                        generalize sat rt j = st at *
                        obtain ⟨nm, dl, fl⟩ := st
                        simp only at c0 c1 c2 HO2
                        have hba := (Below.refl wr.heap.size wr).alloc (Nat.le_refl _) (.cells #[.string nm, .int .i64 dl, .int .i64 fl] 66)
                        have HBA := Lib.hid (HBi.out.trans (hba.mono (by omega)))
                        have HBA6 := Lib.hid (HBj.out.trans (hba.mono (by omega)))
                        have HOA := Lib.hid (HO2.out.later hba)
                        have hng := HO2.out.not_new (k := wr.heap.size) (Nat.le_refl _)
                        have HCA := Lib.hid (heap_alloc_new wr (.cells #[.string nm, .int .i64 dl, .int .i64 fl] 66))
                        have hzA : (wr.alloc (.cells #[.string nm, .int .i64 dl, .int .i64 fl] 66)).heap.size = wr.heap.size + 1 := by simp
                        clear hba HO2 HBi
                        go_wp2_with fail
                        generalize wr.alloc (.cells #[.string nm, .int .i64 dl, .int .i64 fl] 66) = wa at *
                        clear c0 c1 c2
                        obtain ⟨ga, hga⟩ : ∃ ga, wr.heap.size = ga := ⟨_, rfl⟩
                        rw [hga] at HCA hzA hzi hng ⊢
                        have HGA := Lib.hid hng
                        have j0 : wa.cell? ⟨ga, 0, none⟩ = some (.string nm) := by rw [blk_cell HCA.out]; rfl
                        have hga2 : ga < wa.heap.size := by omega
                        have hga3 : g + 1 ≤ ga := by omega
                        have hga4 : g + 1 ≤ wa.heap.size := by omega
                        clear hzA hga hng
                        have hbd : Below wa.heap.size wa wa.drew := (Below.refl _ _).drew
                        have HBB := Lib.hid (HBA.out.trans (hbd.mono hga4))
                        have HOB := Lib.hid (HOA.out.later hbd)
                        have HCB := Lib.hid ((hbd.block ga hga2).trans HCA.out)
                        have hz15 : g + 1 ≤ wa.drew.heap.size := hga4
                        have hz16 : ga < wa.drew.heap.size := hga2
                        clear hbd
                        go_region_held3 (fun w' => w'.cell? ⟨ga, 0, none⟩ = some (.string nm)) (go_keep) (first | (go_at_call 51; refine (HP1.out A m c (nm.size : Int) wa.drew (nmL nm ++ (beB 4 dl ++ (beB 1 fl ++ R1))) HOB.out.eo hz15).mono ?_; rintro e w7 ⟨A7, m7, c7, rfl, ho7, hb7, hf7, hp7⟩; have HO7 := Lib.hid ho7; have HB7 := Lib.hid (HBB.out.trans hb7); have HF7 := Lib.hid (hf7 ga hz16 HGA.out); have hs7 := hb7.size; have hg7 : g + 1 ≤ w7.heap.size := Nat.le_trans hz15 hs7; have hg7a : ga < w7.heap.size := Nat.lt_of_lt_of_le hz16 hs7; have HC7 := Lib.hid (HF7.out.1.trans HCB.out); have ka0 : w7.cell? ⟨ga, 0, none⟩ = some (.string nm) := (by rw [blk_cell HC7.out]; rfl); have HP7 := Lib.hid hp7; have HFX := Lib.hid hb7; clear ho7 hb7 hf7 hp7) | ((fail_if_success (go_simp; go_at_call 51)); refine step_appS (by rfl) (.tmp 111) (.tmp 113) (by rfl) A7 m7 c7 (by rfl) nm (by rfl) (g + 1) (beB 4 dl ++ (beB 1 fl ++ R1)) E HO7.out HP7.out HLEN.out hg7 ?_; intro A8 c8 w8 ho8 hb8 hf8; have HO8 := Lib.hid ho8; have HB8 := Lib.hid (HB7.out.trans hb8); have HF8 := Lib.hid (hf8 ga hg7a HF7.out.2); have hs8 := hb8.size; have hg8 : g + 1 ≤ w8.heap.size := Nat.le_trans hg7 hs8; have hg8a : ga < w8.heap.size := Nat.lt_of_lt_of_le hg7a hs8; have HC8 := Lib.hid (HF8.out.1.trans HC7.out); have kb0 : w8.cell? ⟨ga, 0, none⟩ = some (.string nm) := (by rw [blk_cell HC8.out]; rfl); have HFY := Lib.hid hb8; clear ho8 hb8 hf8))
                        all_goals (have HB8i := Lib.hid (((HBA6.out.trans ((Below.refl (g + 1) wa).drew)).trans HFX.out).trans HFY.out))
                        all_goals (clear j0 ka0 kb0 HOA HOB HCA HCB HGA HBB HB7 HO7 HF7 HC7 HBA HBA6 hs7 hg7 hg7a hga2 hga4 hz15 hz16 HFX HFY)
                        all_goals go_wp2_with fail
                        all_goals (have HOD := Lib.hid (HO8.out.later ((Below.refl w8.heap.size w8).drew)))
                        all_goals (have j1 : w8.cell? ⟨ga, 1, none⟩ = some (.int .i64 dl) := by rw [blk_cell HC8.out]; rfl)
                        all_goals (have j2 : w8.cell? ⟨ga, 2, none⟩ = some (.int .i64 fl) := by rw [blk_cell HC8.out]; rfl)
                        all_goals go_region_held3 (fun w' => w'.cell? ⟨ga, 1, none⟩ = some (.int .i64 dl) ∧ w'.cell? ⟨ga, 2, none⟩ = some (.int .i64 fl)) (go_keep) (first | (go_at_call 51; refine (HP1.out A9 m9 c9 fl w9 R1 HO9.out.eo hg9).mono ?_; rintro e wx ⟨Ax, mx, cx, rfl, hox, hbx, hfx, _⟩; have HOX := Lib.hid hox; have HFZ := Lib.hid (hfx ga hg9a HF9.out.2); have HCX := Lib.hid (HFZ.out.1.trans HC9.out); have kd1 : wx.cell? ⟨ga, 1, none⟩ = some (.int .i64 dl) := (by rw [blk_cell HCX.out]; rfl); have kd2 : wx.cell? ⟨ga, 2, none⟩ = some (.int .i64 fl) := (by rw [blk_cell HCX.out]; rfl); have HFY := Lib.hid hbx; clear hox hbx hfx) | (go_at_call 51; refine (HP4.out A8 (m7 + nm.size) c8 dl w8.drew (beB 1 fl ++ R1) HOD.out.eo hg8).mono ?_; rintro e w9 ⟨A9, m9, c9, rfl, ho9, hb9, hf9, _⟩; have HO9 := Lib.hid ho9; have HF9 := Lib.hid (hf9 ga hg8a HF8.out.2); have hs9 := hb9.size; have hg9 : g + 1 ≤ w9.heap.size := Nat.le_trans hg8 hs9; have hg9a : ga < w9.heap.size := Nat.lt_of_lt_of_le hg8a hs9; have HC9 := Lib.hid (HF9.out.1.trans HC8.out); have kc1 : w9.cell? ⟨ga, 1, none⟩ = some (.int .i64 dl) := (by rw [blk_cell HC9.out]; rfl); have kc2 : w9.cell? ⟨ga, 2, none⟩ = some (.int .i64 fl) := (by rw [blk_cell HC9.out]; rfl); have HFX := Lib.hid hb9; clear ho9 hb9 hf9))
                        all_goals go_wp2_with fail
                        all_goals exact ⟨⟨j + 1, Ax, mx, cx, by omega, by go_num, rfl, by rw [HR1.out]; exact HOX.out, ((HB8i.out.trans ((Below.refl (g + 1) w8).drew)).trans HFX.out).trans HFY.out⟩, by simp [intOf]; omega⟩
                      · obtain rfl : j = ni := by omega
                        have HO8 := Lib.hid (HO.out.to (show _ = R0 by rw [drop_end (by have := HML.out; omega)]))
                        clear HO HRWi
                        go_wp2_with fail
                        exact ⟨⟨k + 1, A, m, c, by omega, by go_num, rfl, by rw [HR0.out]; exact HO8.out, HBi.out⟩, by simp [intOf]; omega⟩
                  · obtain rfl : k = d.n3 := by omega
                    have HO1 := Lib.hid (HO.out.to (show _ = p.snds.flatMap encSd ++ [] by rw [drop_end (by have := HL3.out; omega), HT3.out]))
                    have k3 := HFR.out _ HBr.out 3 _ HEL.out.2.2.2.1
                    clear HO hn3
                    go_wp2_with fail
                    clear k3
                    have hn4 : d.n4 ≤ 64 := by have := HFMM.out.n4; rw [HL4.out] at this; exact this
                    go_loopw [5, 17, 19, 127] (fun o _ _ i wr => ∃ (k : Nat) (A : Option Addr) (m c : Nat), k ≤ d.n4 ∧ i = .int .i64 (k : Int) ∧ o = .slice A m c ∧ OWr (g + 1) wr A m c ((p.snds.drop k).flatMap encSd ++ []) E ∧ Below (g + 1) w1 wr) (fun _ _ _ i _ => d.n4 - (intOf i).toNat)
                    case atStart => exact ⟨0, A, m, c, by omega, rfl, rfl, HO1.out, HBr.out⟩
                    case round =>
                      clear HO1 HBr hzr
                      obtain ⟨k, A, m, c, hk, rfl, rfl, ho, hb⟩ := hrel
                      have HO := Lib.hid ho
                      have HBr := Lib.hid hb
                      have hzr := hb.size
                      clear ho hb
                      by_cases hlt : k < d.n4
                      · have dk : (k : Int) < (d.n4 : Int) := by omega
                        obtain ⟨b, off, Ai, ni, ci, hA4, hbB, c0, c1, c2, hnc, hrow⟩ := (HPR.out.snds.below (HBr.out.mono (by omega))).at_ hlt
                        rw [hA4]
                        have hml : (dat p.snds k).rts.length = ni := hrow.len
                        obtain ⟨R0, hR0⟩ : ∃ R0, (p.snds.drop (k + 1)).flatMap encSd ++ [] = R0 := ⟨_, rfl⟩
                        have HO2 := Lib.hid (HO.out.to (show _ = beB 1 (dat p.snds k).msg ++ (beB 1 (ni : Int) ++ ((dat p.snds k).rts.flatMap (beB 1) ++ (beB 1 ((dat p.snds k).blk + 1) ++ R0))) by rw [drop_flat (dat_eq (by have := HL4.out; omega)) [], hR0]; unfold encSd; rw [hml]; simp))
                        have HR0 := Lib.hid hR0
                        have HRW := Lib.hid hrow
                        have HML := Lib.hid hml
                        have HRT := Lib.hid (HFMM.out.snds _ (dat_mem (l := p.snds) (k := k) (by have := HL4.out; omega)))
                        have hni : ni ≤ 8 := by have := HRT.out.2.1; omega
                        have hbk1 : -1 ≤ (dat p.snds k).blk := HRT.out.2.2.2.2.2.1
                        have hbk2 : (dat p.snds k).blk ≤ 15 := HRT.out.2.2.2.2.2.2
                        clear hR0 HO hrow hml HRT
                        generalize dat p.snds k = sd at *
                        obtain ⟨mg, rl, bk⟩ := sd
                        simp only at c0 c1 c2 HO2 HRW HML hbk1 hbk2
                        have hba := (Below.refl wr.heap.size wr).alloc (Nat.le_refl _) (.cells #[.int .i64 mg, .slice Ai ni ci, .int .i64 bk] 43)
                        have HBA := Lib.hid (HBr.out.trans (hba.mono (by omega)))
                        have HOA := Lib.hid (HO2.out.later hba)
                        have HRA := Lib.hid (HRW.out.below (hba.mono (by omega)))
                        have hng := HO2.out.not_new (k := wr.heap.size) (Nat.le_refl _)
                        have HCA := Lib.hid (heap_alloc_new wr (.cells #[.int .i64 mg, .slice Ai ni ci, .int .i64 bk] 43))
                        have hzA : (wr.alloc (.cells #[.int .i64 mg, .slice Ai ni ci, .int .i64 bk] 43)).heap.size = wr.heap.size + 1 := by simp
                        clear hba HO2 HBr HRW
                        go_wp2_with fail
                        generalize wr.alloc (.cells #[.int .i64 mg, .slice Ai ni ci, .int .i64 bk] 43) = wa at *
                        clear c0 c1 c2
                        obtain ⟨ga, hga⟩ : ∃ ga, wr.heap.size = ga := ⟨_, rfl⟩
                        rw [hga] at HCA hzA hzr hng ⊢
                        have HGA := Lib.hid hng
                        have j0 : wa.cell? ⟨ga, 0, none⟩ = some (.int .i64 mg) := by rw [blk_cell HCA.out]; rfl
                        have j1 : wa.cell? ⟨ga, 1, none⟩ = some (.slice Ai ni ci) := by rw [blk_cell HCA.out]; rfl
                        have hga2 : ga < wa.heap.size := by omega
                        have hga3 : g + 1 ≤ ga := by omega
                        have hga4 : g + 1 ≤ wa.heap.size := by omega
                        clear hzA hga hng
                        have hbd : Below wa.heap.size wa wa.drew := (Below.refl _ _).drew
                        have HBB := Lib.hid (HBA.out.trans (hbd.mono hga4))
                        have HOB := Lib.hid (HOA.out.later hbd)
                        have HCB := Lib.hid ((hbd.block ga hga2).trans HCA.out)
                        have hz15 : g + 1 ≤ wa.drew.heap.size := hga4
                        have hz16 : ga < wa.drew.heap.size := hga2
                        clear hbd
                        have hBg : B ≤ g + 1 := by omega
                        go_region_held3 (fun w' => w'.cell? ⟨ga, 0, none⟩ = some (.int .i64 mg) ∧ w'.cell? ⟨ga, 1, none⟩ = some (.slice Ai ni ci)) (go_keep) (first | (go_at_call 51; refine (HP1.out A7 m7 c7 (ni : Int) w7 (rl.flatMap (beB 1) ++ (beB 1 (bk + 1) ++ R0)) HO7.out.eo hg7).mono ?_; rintro e w8 ⟨A8, m8, c8, rfl, ho8, hb8, hf8, _⟩; have HO8 := Lib.hid ho8; have HB8 := Lib.hid (HB7.out.trans hb8); have HF8 := Lib.hid (hf8 ga hg7a HF7.out.2); have hs8 := hb8.size; have hg8 : g + 1 ≤ w8.heap.size := Nat.le_trans hg7 hs8; have hg8a : ga < w8.heap.size := Nat.lt_of_lt_of_le hg7a hs8; have HC8 := Lib.hid (HF8.out.1.trans HC7.out); have HR8 := Lib.hid (HR7.out.below (hb8.mono hBg)); have kb0 : w8.cell? ⟨ga, 0, none⟩ = some (.int .i64 mg) := (by rw [blk_cell HC8.out]; rfl); have kb1 : w8.cell? ⟨ga, 1, none⟩ = some (.slice Ai ni ci) := (by rw [blk_cell HC8.out]; rfl); clear ho8 hb8 hf8) | (go_at_call 51; refine (HP1.out A m c mg wa.drew (beB 1 (ni : Int) ++ (rl.flatMap (beB 1) ++ (beB 1 (bk + 1) ++ R0))) HOB.out.eo hz15).mono ?_; rintro e w7 ⟨A7, m7, c7, rfl, ho7, hb7, hf7, _⟩; have HO7 := Lib.hid ho7; have HB7 := Lib.hid (HBB.out.trans hb7); have HF7 := Lib.hid (hf7 ga hz16 HGA.out); have hs7 := hb7.size; have hg7 : g + 1 ≤ w7.heap.size := Nat.le_trans hz15 hs7; have hg7a : ga < w7.heap.size := Nat.lt_of_lt_of_le hz16 hs7; have HC7 := Lib.hid (HF7.out.1.trans HCB.out); have HR7 := Lib.hid (HRA.out.below (((Below.refl B wa).drew).trans (hb7.mono hBg))); have ka0 : w7.cell? ⟨ga, 0, none⟩ = some (.int .i64 mg) := (by rw [blk_cell HC7.out]; rfl); have ka1 : w7.cell? ⟨ga, 1, none⟩ = some (.slice Ai ni ci) := (by rw [blk_cell HC7.out]; rfl); clear ho7 hb7 hf7))
                        all_goals (clear j0 j1 ka0 ka1 kb0 HOA HOB HCA HCB HGA HBB HB7 HO7 HF7 HC7 HBA hs7 hg7 hg7a hga2 hga4 hz15 hz16 HR7 HRA)
                        all_goals go_wp2_with fail
                        all_goals clear kb1
                        all_goals go_loopw [5, 19, 142] (fun o _ i wr => ∃ (j : Nat) (A : Option Addr) (m c : Nat), j ≤ ni ∧ i = .int .i64 (j : Int) ∧ o = .slice A m c ∧ OWr (g + 1) wr A m c ((rl.drop j).flatMap (beB 1) ++ (beB 1 (bk + 1) ++ R0)) E ∧ Below (g + 1) w8 wr ∧ wr.heap[ga]? = some (.cells #[.int .i64 mg, .slice Ai ni ci, .int .i64 bk] 43 (0, 0)) ∧ (Value.slice A m c).ownBlock ≠ some ga) (fun _ _ i _ => ni - (intOf i).toNat)
                        case atStart => exact ⟨0, A8, m8, c8, by omega, rfl, rfl, HO8.out, Below.refl _ _, HC8.out, HF8.out.2⟩
                        case round =>
                          clear HO8
                          obtain ⟨j, A, m, c, hj, rfl, rfl, ho, hb, hcg, hog⟩ := hrel
                          have HO := Lib.hid ho
                          have HBi := Lib.hid (HB8.out.trans hb)
                          have HBj := Lib.hid hb
                          have HRi := Lib.hid (HR8.out.below (hb.mono hBg))
                          have HCG := Lib.hid hcg
                          have HOG := Lib.hid hog
                          have hzi := hb.size
                          have hgi : g + 1 ≤ wr.heap.size := Nat.le_trans hg8 hzi
                          have hgia : ga < wr.heap.size := Nat.lt_of_lt_of_le hg8a hzi
                          clear ho hb hcg hog
                          by_cases hlj : j < ni
                          · have dj : (j : Int) < (ni : Int) := by omega
                            obtain ⟨ad, hAi, hbb, hcell, hi1, hi2⟩ := HRi.out.at_ hlj
                            rw [hAi]
                            have hRj := HO.out.to (show _ = beB 1 (it rl j) ++ ((rl.drop (j + 1)).flatMap (beB 1) ++ (beB 1 (bk + 1) ++ R0)) from drop_flat (show rl[j]? = some (it rl j) from itI_eq (by have := HML.out; omega)) _)
                            have HOj := Lib.hid hRj
                            clear hRj HO
                            go_wp2_with fail
                            refine (HP1.out A m c (it rl j) _ _ HOj.out.eo hgi).mono ?_
                            rintro e w9 ⟨A9, m9, c9, rfl, ho9, hb9, hf9, _⟩
                            have HO9 := Lib.hid ho9
                            have HB9 := Lib.hid (HBj.out.trans hb9)
                            have HF9 := Lib.hid (hf9 ga hgia HOG.out)
                            clear ho9 hb9 hf9
                            go_wp2_with fail
                            exact ⟨⟨j + 1, A9, m9, c9, by omega, by go_num, rfl, HO9.out, HB9.out, by rw [← hAi]; exact HF9.out.1.trans HCG.out, HF9.out.2⟩, by simp [intOf]; omega⟩
                          · obtain rfl : j = ni := by omega
                            have HOe := Lib.hid (HO.out.to (show _ = beB 1 (bk + 1) ++ R0 from drop_end (by have := HML.out; omega) _))
                            have k2 : wr.cell? ⟨ga, 2, none⟩ = some (.int .i64 bk) := by rw [blk_cell HCG.out]; rfl
                            clear HO
                            go_wp2_with fail
                            refine (HP1.out A m c (bk + 1) _ _ HOe.out.eo hgi).mono ?_
                            rintro e w9 ⟨A9, m9, c9, rfl, ho9, hb9, _, _⟩
                            have HO9 := Lib.hid ho9
                            have HB9 := Lib.hid (HBi.out.trans hb9)
                            clear ho9 hb9
                            go_wp2_with fail
                            exact ⟨⟨k + 1, A9, m9, c9, by omega, by go_num, rfl, by rw [HR0.out]; exact HO9.out, HB9.out⟩, by simp [intOf]; omega⟩
                      · obtain rfl : k = d.n4 := by omega
                        have HO8 := Lib.hid (HO.out.to (show _ = [] by rw [drop_end (by have := HL4.out; omega)]))
                        have HBF := Lib.hid (HB1.out.trans (HBr.out.mono (Nat.le_succ _)))
                        clear HO HBr
                        obtain ⟨l, hl1, hl2⟩ := HO8.out
                        rw [List.append_nil] at hl2
                        subst hl2
                        have HOL := Lib.hid (own_base hl1 (Nat.le_succ g))
                        have hll : l.length = m := by have := hl1.1; rw [length_bv] at this; omega
                        have HLL := Lib.hid hll
                        clear hl1 hll HO8
                        go_wp2_with fail
                        go_ret2
                        refine ⟨by rw [HG.out]; exact HBF.out, ?_⟩
                        first
                          | exact .inr ⟨rfl, A, m, c, rfl, HLL.out, by rw [HG.out]; exact HOL.out⟩
                          | exact ⟨A, m, c, rfl, HLL.out, by rw [HG.out]; exact HOL.out⟩
end Go.Proofs.YtkmcjjoicpgjfaaDoor
