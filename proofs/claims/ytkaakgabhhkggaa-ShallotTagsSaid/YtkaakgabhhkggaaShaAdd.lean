/-
  Contract of Hash.add: bytes put behind what was written. Conditions: a hash lies at the address; the bytes are not among those of the hash; the sizes that slices can have.
-/
import Derived.Test.YtkaakgabhhkggaaShaHash
import Derived.Test.YtkaakgabhhkggaaUntil
namespace Go.Proofs.Ytkaakgabhhkggaa
open Go Go.RowKit Go.Sh

theorem sh_trans {a w w' : World} {row : Option Nat} (h : a.grownBy w row) (k : w.grownBy w' row) : a.grownBy w' row :=
  ⟨k.os.trans h.os, k.tape.trans h.tape, k.output.trans h.output, Nat.le_trans h.size k.size, fun i hi hn => (k.block i (Nat.lt_of_lt_of_le hi h.size) hn).trans (h.block i hi hn)⟩
def slLen : Value → Nat
  | .slice _ n _ => n
  | _ => 0
set_option maxRecDepth 100000 in
theorem hash_store {w : World} {ty : TypeId} {p ct : Nat} {st st' : List Int} {op : List UInt8} {rest : List Value} (h : w.heap[p]? = some (.cells (hc st op ct rest).toArray ty (0, 0))) (h1 : st.length = 8) (h2 : st'.length = 8) (ho : op.length = 64) :
    (storeCells ⟨p, 0, none⟩ (wv st').toArray.toList).run Try.prog w = .ok () (w.setRow p (hc st' op ct rest).toArray) := by
  have hst := run_storeCells_at Try.prog p 0 ty (wv st').toArray.toList 0 _ w h (by simp only [List.size_toArray, length_hc h1 ho, length_wv, h2]; omega) (by simpa using wv_one st')
  simp only [Nat.add_zero, length_wv, h2] at hst
  rw [hc_state op h1] at hst
  exact hst
theorem rb_open {w : World} {ty : TypeId} {p ct : Nat} {st : List Int} {op : List UInt8} {rest : List Value} (h : w.heap[p]? = some (.cells (hc st op ct rest).toArray ty (0, 0))) (h1 : st.length = 8) (ho : op.length = 64) : RB w (p + 1) (some ⟨p, 8, none⟩) 64 op := by
  refine ⟨by rw [length_bv, ho], .inr ⟨_, rfl, Nat.lt_succ_self _, fun j hj => ?_⟩⟩
  rw [add_mk, blk_cell h, List.getElem?_toArray]
  unfold hc
  rw [List.getElem?_append_right (by rw [length_wv, h1]; omega), length_wv, h1, show 8 + j - 8 = j by omega, List.getElem?_append_left hj]
set_option maxRecDepth 100000 in
theorem run_arr64 (p f : Nat) (hf : f < 64) (W : World) : (Instr.sliceAt 37 (.pointer (some ⟨p, 8, none⟩)) (some (.int .i64 (f : Int))) none none).run Try.prog W = .ok (.slice (some ⟨p, 8 + f, none⟩) (64 - f) (64 - f)) W := by
  obtain ⟨i, hi, hz⟩ := Option.map_eq_some_iff.1 (show (Try.prog.info? 5).map (·.size) = some 1 by kernel_rfl)
  have h2 : ¬ 64 = f := by omega
  have h3 : f ≤ 64 := by omega
  simp [Instr.sliceAt, run_underlying Try.underlying37, Instr.sureAddr, Instr.sliceBounds, Instr.sliceBound, asIntOf, sizeOf, typeInfo, hi, hz, h2, h3, Addr.add]
set_option maxRecDepth 100000 in
set_option maxHeartbeats 4000000 in
theorem add_any (ty : TypeId) (p : Nat) (rest : List Value) (l : List UInt8) (A : Option Addr) (n c : Nat) (q : List UInt8) (w : World) (hH : HashAt w ty p rest l) (hfar : ∀ w', w.grownBy w' (some p) → ∃ B, RB w' B A n q) (hcap : n ≤ c) (hn : l.length + n ≤ 4611686018427387904) :
    Calls Try.prog 30 #[.pointer (some ⟨p, 0, none⟩), .slice A n c] w (fun e w' => e = .returned (.tuple #[]) ∧ HashAt w' ty p rest (l ++ q) ∧ w.grownBy w' (some p)) := by
  have HQL := Lib.hid (show q.length = n by obtain ⟨B, h⟩ := hfar w (World.grownBy.refl _ _); exact h.len)
  have HH := Lib.hid hH
  have HF := Lib.hid hfar
  clear hH hfar
  go_enter Try.func30, Try.ntmps30
  go_wp2_with fail
  go_loopw [1, 4, 5] (fun v1 _ _ wr => ∃ (m : Nat) (A' : Option Addr) (c' : Nat), m ≤ n ∧ v1 = .slice A' (n - m) c' ∧ n - m ≤ c' ∧ (∀ w', w.grownBy w' (some p) → ∃ B, RB w' B A' (n - m) (q.drop m)) ∧ HashAt wr ty p rest (l ++ q.take m) ∧ w.grownBy wr (some p)) (fun v1 _ _ _ => slLen v1)
  case atStart => exact ⟨0, A, c, Nat.zero_le _, rfl, hcap, HF.out, by rw [List.take_zero, List.append_nil]; exact HH.out, World.grownBy.refl _ _⟩
  case round =>
    obtain ⟨m, A', c', hm, rfl, hc', hfr, hh, hg⟩ := hrel
    have HFR := Lib.hid hfr
    have HHr := Lib.hid hh
    have HG := Lib.hid hg
    clear hfr hh hg
    by_cases hlt : m < n
    · have hN : (0 : Int) < ((n - m : Nat) : Int) := by omega
      have hN' : 0 < n - m := by omega
      obtain ⟨B, hr⟩ := HFR.out wr HG.out
      obtain ⟨st, op, hblk, hrep⟩ := HHr.out
      obtain ⟨N, hNN⟩ : ∃ N, n - m = N := ⟨_, rfl⟩
      obtain ⟨r, hR⟩ : ∃ r, l ++ q.take m = r := ⟨_, rfl⟩
      have HL := Lib.hid (show r.length = l.length + m by rw [← hR, List.length_append, List.length_take, HQL.out]; omega)
      rw [hR] at hblk hrep
      rw [hNN] at hN hN' hr hc'
      obtain ⟨ad, rfl, _, hcell⟩ := hr.at_ (k := 0) hN'
      have HQD := Lib.hid (show (q.drop m).length = N from hr.len)
      have HRP := Lib.hid hrep
      have HSRC := Lib.hid hr.2
      have HR := Lib.hid hr
      have HRR := Lib.hid hR
      have HNN := Lib.hid hNN
      have HFR' := Lib.hid (show ∀ w', w.grownBy w' (some p) → ∃ B, RB w' B (some ad) N (q.drop m) by rw [← hNN]; exact HFR.out)
      obtain ⟨a, ha⟩ : ∃ a, r.length = a := ⟨_, rfl⟩
      have HA := Lib.hid ha
      rw [ha] at hblk
      have hcnt : wr.cell? ⟨p, 72, none⟩ = some (.int .i64 (a : Int)) := by rw [blk_cell hblk, List.getElem?_toArray]; exact hc_count hrep.ls hrep.lo _ _
      obtain ⟨f, hf⟩ : ∃ f, a % 64 = f := ⟨_, rfl⟩
      have HFM := Lib.hid hf
      have hmod : (a : Int) % 64 = (f : Int) := by omega
      have hf64 : f < 64 := by omega
      have HBL := Lib.hid hblk
      obtain ⟨k, hk⟩ : ∃ k, Nat.min N (64 - f) = k := ⟨_, rfl⟩
      have HK := Lib.hid hk
      have hk1 : k ≤ N := by rw [← hk]; exact Nat.min_le_left _ _
      have hk2 : f + k ≤ 64 := by have : Nat.min N (64 - f) ≤ 64 - f := Nat.min_le_right _ _; omega
      have hk3 : 1 ≤ k := by have : Nat.min N (64 - f) = min N (64 - f) := rfl; omega
      have HY := Lib.hid (show ((q.drop m).take k).length = k by rw [List.length_take, HQD.out]; omega)
      have HAA := Lib.hid (show a + N ≤ 4611686018427387904 by have := HL.out; omega)
      clear hblk hrep hr hR hcell ha hf hk HFR
      rw [hNN]
      clear hNN
      have hrun := run_arr64 p f hf64
      have hrun2 := fun W : World => run_sl_lo TB W (some ad) N c' .i64 k hk1
      obtain ⟨A2, hA2⟩ : ∃ A2, (if c' = k then some ad else (some ad : Option Addr).map (·.add (k * 1))) = A2 := ⟨_, rfl⟩
      rw [hA2] at hrun2
      have HFR2 := Lib.hid (show ∀ w', w.grownBy w' (some p) → ∃ B, RB w' B A2 (N - k) (q.drop (m + k)) from fun w' hg => by
        obtain ⟨B, h⟩ := HFR'.out w' hg
        have h := h.cut hk1 hc'
        rw [List.drop_drop] at h
        rw [Nat.mul_one] at hA2
        rw [← hA2]
        exact ⟨B, h⟩)
      clear hA2
      have HSC := Lib.hid (show ∀ j v, (bv ((q.drop m).take k))[j]? = some v → wr.cell? (ad.add j) = some v from fun j v hv => by
        have h := (HR.out.take hk1).2
        rcases h with h | ⟨ad', he, _, h⟩
        · rw [h] at hv; simp at hv
        · obtain rfl := Option.some.inj he
          exact h.get hv)
      have hlen := HRP.out.lo
      have HFIT := Lib.hid (show 8 + f + (bv ((q.drop m).take k)).length ≤ (hc st op a rest).toArray.size by
        rw [length_bv, HY.out, List.size_toArray, length_hc HRP.out.ls HRP.out.lo]; omega)
      clear hlen
      obtain ⟨y, hy⟩ : ∃ y, (q.drop m).take k = y := ⟨_, rfl⟩
      rw [hy] at HY HSC HFIT
      have HYE := Lib.hid hy
      clear hy
      obtain ⟨w2, hw2⟩ : ∃ w2, wr.setRow p ((hc st op a rest).toArray.toList.take (8 + f) ++ (bv y ++ (hc st op a rest).toArray.toList.drop (8 + f + (bv y).length))).toArray = w2 := ⟨_, rfl⟩
      obtain ⟨op2, hop2⟩ : ∃ op2, op.take f ++ (y ++ op.drop (f + y.length)) = op2 := ⟨_, rfl⟩
      have HOP2 := Lib.hid hop2
      have hb2 : w2.heap[p]? = some (.cells (hc st op2 a rest).toArray ty (0, 0)) := by
        rw [← hw2, setRow_heap _ _ _ _ _ _ HBL.out, List.toList_toArray, length_bv, hc_splice HRP.out.ls f (by rw [HY.out, HRP.out.lo]; exact hk2), hop2]
      have HG2 := Lib.hid (show wr.grownBy w2 (some p) by rw [← hw2]; exact grown_setRow _ _ _)
      have hlo2 : op2.length = 64 := by
        have := HRP.out.lo
        rw [← hop2]
        simp only [List.length_append, List.length_take, List.length_drop, HY.out]
        omega
      have hcnt2 : w2.cell? ⟨p, 72, none⟩ = some (.int .i64 (a : Int)) := by rw [blk_cell hb2, List.getElem?_toArray]; exact hc_count HRP.out.ls hlo2 _ _
      have hfree2 := frozen_of_row w2 p 72 _ _ hb2
      have HW2 := Lib.hid hw2
      have HB2 := Lib.hid hb2
      have HLO2 := Lib.hid hlo2
      have HGI := Lib.hid (show goInt (bv y).length = .int .i64 (k : Int) by rw [length_bv, HY.out]; rfl)
      have hb3 : (w2.setCell ⟨p, 72, none⟩ (.int .i64 ((a : Int) + (k : Int)))).heap[p]? = some (.cells (hc st op2 (a + k) rest).toArray ty (0, 0)) := by
        rw [blk_set hb2, show (a : Int) + (k : Int) = ((a + k : Nat) : Int) by omega, List.setIfInBounds_toArray, hc_set HRP.out.ls hlo2]
      have HB3 := Lib.hid hb3
      have HG3 := Lib.hid (show wr.grownBy (w2.setCell ⟨p, 72, none⟩ (.int .i64 ((a : Int) + (k : Int)))) (some p) from sh_trans HG2.out (grown_setCell w2 p 72 _))
      have haa := HAA.out
      clear hw2 hop2 hb2 hlo2 hb3
      by_cases hful : f + k = 64
      · have t1 : ((a : Int) % 64 + (k : Int) == 64) = true := by rw [beq_iff_eq]; omega
        have t2 : ((f : Int) + (k : Int) == 64) = true := by rw [beq_iff_eq]; omega
        have HFUL := Lib.hid hful
        clear hful
        go_wp2_with (refine wpList_copy_own rfl (.tmp 18) (.tmp 19) 22 22 rfl 5 Try.underlying22 (by kernel_rfl) p (8 + f) (64 - f) (64 - f) ad N c' rfl rfl (hc st op a rest).toArray ty HBL.out (bv y) (by rw [length_bv, HY.out, HK.out]) HSC.out HFIT.out (bv_one _) ?_; rw [HW2.out, HGI.out])
        obtain ⟨w3, hw3⟩ : ∃ w3, w2.setCell ⟨p, 72, none⟩ (.int .i64 ((a : Int) + (k : Int))) = w3 := ⟨_, rfl⟩
        have H3 := HB3.out
        have G3 := HG3.out
        rw [hw3] at H3 G3 ⊢
        obtain ⟨ct, hct⟩ : ∃ ct, a + k = ct := ⟨_, rfl⟩
        rw [hct] at H3
        have hc3 : w3.cell? ⟨p, 72, none⟩ = some (.int .i64 (ct : Int)) := by rw [blk_cell H3, List.getElem?_toArray]; exact hc_count HRP.out.ls HLO2.out _ _
        have hl3 : p < w3.heap.size := (Array.getElem?_eq_some_iff.1 H3).1
        have hfu := HFUL.out
        have hfm := HFM.out
        have hs1 : (64 : Int) ≤ (ct : Int) := by omega
        have hs2 : (ct : Int) ≤ 4611686018427387904 := by omega
        have hct64 : 64 ≤ ct := by omega
        obtain ⟨c6, hc6⟩ : ∃ c6, ct - 64 = c6 := ⟨_, rfl⟩
        have hsub : IntKind.i64.wrap ((ct : Int) - 64) = (c6 : Int) := by rw [IntKind.wrap_i64]; omega
        have HC6 := Lib.hid hc6
        have HCT := Lib.hid hct
        have HH3 := Lib.hid H3
        obtain ⟨st0, hst0⟩ : ∃ st0, (if ct - 64 < 64 then shStart else st) = st0 := ⟨_, rfl⟩
        have hl0 : st0.length = 8 := by rw [← hst0]; split; rfl; exact HRP.out.ls
        have hw0 : AW st0 := by rw [← hst0]; split; exact AW.shStart; exact HRP.out.ws
        have HCM := Lib.hid (show ∀ W B, RB W B (some ⟨p, 8, none⟩) 64 op2 → B ≤ W.heap.size → Calls Try.prog 43 #[.agg (wv st0).toArray, .slice (some ⟨p, 8, none⟩) 64 64] W (fun e w' => e = .returned (.tuple #[.agg (wv (shComp st0 op2)).toArray, .int .i64 0]) ∧ Below W.heap.size W w') from fun W B h1 h2 => Compress_any _ _ op2 st0 W B h1 h2 hl0 hw0)
        have HBF := Lib.hid (show ∀ W, W.heap[p]? = w3.heap[p]? → Calls Try.prog 44 #[.pointer (some ⟨p, 0, none⟩), .int .i64 (c6 : Int)] W (fun e w' => e = .returned (.agg (wv st0).toArray) ∧ Below W.heap.size W w') from fun W h => by rw [← hst0]; rw [hc6]; exact before_any W ty p st _ c6 (h.trans H3) HRP.out.ls)
        have HST0 := Lib.hid hst0
        obtain ⟨st1, hst1⟩ : ∃ st1, shComp st0 op2 = st1 := ⟨_, rfl⟩
        rw [hst1] at HCM
        have HST1 := Lib.hid hst1
        have HL1 := Lib.hid (show st1.length = 8 by rw [← hst1]; rfl)
        obtain ⟨X, hX⟩ : ∃ X, (wv st1).toArray = X := ⟨_, rfl⟩
        have hXs : X.size = 8 := by rw [← hX, List.size_toArray, length_wv, HL1.out]
        have hXe : ¬ X = #[] := by intro h; rw [h] at hXs; cases hXs
        obtain ⟨X0, hX0⟩ : ∃ X0, (wv st0).toArray = X0 := ⟨_, rfl⟩
        have HST := Lib.hid (show ∀ W : World, W.heap[p]? = w3.heap[p]? → (storeCells ⟨p, 0, none⟩ X.toList).run Try.prog W = .ok () (W.setRow p (hc st1 op2 ct rest).toArray) from fun W h => by rw [← hX]; exact hash_store (h.trans H3) HRP.out.ls HL1.out HLO2.out)
        have HSC2 := Lib.hid (show ∀ W : World, W.heap[p]? = w3.heap[p]? → (W.setRow p (hc st1 op2 ct rest).toArray).cell? ⟨p, 72, none⟩ = some (.int .i64 (ct : Int)) from fun W h => by rw [blk_cell (setRow_heap _ _ _ _ _ _ (h.trans H3)), List.getElem?_toArray]; exact hc_count HL1.out HLO2.out _ _)
        have HRO := Lib.hid (show ∀ W : World, W.heap[p]? = w3.heap[p]? → RB W (p + 1) (some ⟨p, 8, none⟩) 64 op2 from fun W h => rb_open (h.trans H3) HRP.out.ls HLO2.out)
        rw [hX0] at HCM HBF
        rw [hX] at HCM
        clear hc6 hw3 hct H3 hfu hfm hst0 hl0 hw0 hst1 hX hX0 hcnt hcnt2 hfree2 hrun hrun2 hmod t1 t2
        go_region_held3 (fun w' => w'.cell? ⟨p, 72, none⟩ = some (.int .i64 (ct : Int))) (go_keep) (first
          | (go_at_call 44; refine (HBF.out w3.drew rfl).mono ?_; rintro e w4 ⟨rfl, hb4⟩; have e4 := hb4.block p hl3; have k4 := (hb4.cell (p := ⟨p, 72, none⟩) hl3).trans hc3; have z4 : w3.heap.size ≤ w4.heap.size := hb4.size)
          | (go_at_call 43; refine (HCM.out _ (p + 1) (by exact HRO.out _ e4) (by exact Nat.lt_of_lt_of_le hl3 z4)).mono ?_; rintro e w5 ⟨rfl, hb5⟩; have e5 := (hb5.block p (Nat.lt_of_lt_of_le hl3 z4)).trans e4; have k5 := (hb5.cell (p := ⟨p, 72, none⟩) (Nat.lt_of_lt_of_le hl3 z4)).trans k4; have hst := HST.out _ e5; have k6 := HSC2.out _ e5))
        have hnn := HNN.out
        have hlen : (r ++ y).length = ct := by rw [List.length_append, HA.out, HY.out]; exact HCT.out
        have hrep := HRP.out.full (y := y) (by rw [HA.out, HY.out, HFM.out]; exact HFUL.out) st0 (by rw [hlen]; exact HST0.out.symm)
        rw [HA.out, HFM.out, HOP2.out, HST1.out] at hrep
        have hg4 : w3.grownBy w4 (some p) := ⟨hb4.os, hb4.tape, hb4.output, hb4.size, fun k hk _ => hb4.block k hk⟩
        have hg5 : w4.grownBy w5 (some p) := ⟨hb5.os, hb5.tape, hb5.output, hb5.size, fun k hk _ => hb5.block k hk⟩
        have HGF := Lib.hid (sh_trans HG.out (sh_trans G3 (sh_trans hg4 (sh_trans hg5 (grown_setRow w5 p (hc st1 op2 ct rest).toArray)))))
        have HHF := Lib.hid (show HashAt (w5.setRow p (hc st1 op2 ct rest).toArray) ty p rest (r ++ y) from ⟨st1, op2, by rw [hlen]; exact setRow_heap _ _ _ _ _ _ (e5.trans HH3.out), hrep⟩)
        clear hlen hrep hg4 hg5 hb4 hb5 hst k4 k5 k6 e4 e5 z4 hc3 G3
        go_wp2_with fail
        refine ⟨⟨m + k, A2, c' - k, by omega, by rw [show N - k = n - (m + k) by omega], by omega, ?_, ?_, HGF.out⟩, by simp only [slLen]; omega⟩
        · rw [show n - (m + k) = N - k by omega]
          exact HFR2.out
        · rw [List.take_add, HYE.out, ← List.append_assoc, HRR.out]
          exact HHF.out
      · have t1 : ((a : Int) % 64 + (k : Int) == 64) = false := by rw [beq_eq_false_iff_ne]; omega
        have t2 : ((f : Int) + (k : Int) == 64) = false := by rw [beq_eq_false_iff_ne]; omega
        have HFUL := Lib.hid hful
        clear hful
        go_wp2_with (refine wpList_copy_own rfl (.tmp 18) (.tmp 19) 22 22 rfl 5 Try.underlying22 (by kernel_rfl) p (8 + f) (64 - f) (64 - f) ad N c' rfl rfl (hc st op a rest).toArray ty HBL.out (bv y) (by rw [length_bv, HY.out, HK.out]) HSC.out HFIT.out (bv_one _) ?_; rw [HW2.out, HGI.out])
        have hnn := HNN.out
        have hfu := HFUL.out
        have hfm := HFM.out
        have hkk := HK.out
        refine ⟨⟨m + k, A2, c' - k, by omega, by rw [show N - k = n - (m + k) by omega], by omega, ?_, ?_, sh_trans HG.out HG3.out⟩, by simp only [slLen]; omega⟩
        · rw [show n - (m + k) = N - k by omega]
          exact HFR2.out
        · rw [List.take_add, HYE.out, ← List.append_assoc, HRR.out]
          refine ⟨st, op2, ?_, ?_⟩
          · rw [List.length_append, HA.out, HY.out]
            exact HB3.out
          · have h := HRP.out.fill (y := y) (by rw [HA.out, HY.out, HFM.out]; omega)
            rw [HA.out, HFM.out, HOP2.out] at h
            exact h
    · obtain rfl : m = n := by omega
      have hz : ¬ (0 : Int) < ((m - m : Nat) : Int) := by omega
      have hq : q.take m = q := List.take_of_length_le (by rw [HQL.out]; exact Nat.le_refl _)
      have HHr' := Lib.hid (show HashAt wr ty p rest (l ++ q) by rw [← hq]; exact HHr.out)
      clear hq
      go_wp2_with fail
      go_end0
      exact ⟨rfl, HHr'.out, HG.out⟩
end Go.Proofs.Ytkaakgabhhkggaa
