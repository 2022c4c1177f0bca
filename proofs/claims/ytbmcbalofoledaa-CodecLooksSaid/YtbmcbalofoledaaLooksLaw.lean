/-
  The walk of shallotlaw01.CodecLooks: for every two lists of bytes the law returns true and writes nothing that was there. Condition: the lists are no longer than 140737488355328 bytes, which every slice that can be read is.
-/
import Derived.Test.YtbmcbalofoledaaLooks
namespace Go.Proofs.Ytbmcbalofoledaa
open Go Go.RowKit Go.Sh

theorem dec_comm (l r : List UInt8) : decide (r = l) = decide (l = r) := by
  rw [Bool.eq_iff_iff]
  simp only [decide_eq_true_eq]
  exact eq_comm
theorem cnt_comm (n m : Nat) : (if m = n then m else 0) = (if n = m then n else 0) := by
  by_cases h : n = m
  · simp [h]
  · rw [if_neg h, if_neg (fun e => h e.symm)]

theorem CodecLooks_walk (A : Option Addr) (n c : Nat) (l : List UInt8) (A' : Option Addr) (n' c' : Nat) (r : List UInt8) (w : World) (hl : RB w w.heap.size A n l) (hn : n ≤ 140737488355328) (hr : RB w w.heap.size A' n' r) (hn' : n' ≤ 140737488355328) :
    Calls Try.prog 4 #[.slice A n c, .slice A' n' c'] w (LawPost w) := by
  have HL := Lib.hid hl
  have HR := Lib.hid hr
  clear hl hr
  go_enter Try.func4, Try.ntmps4
  go_wp2_with fail
  refine (Looks_any _ _ _ _ _ _ [1, 2, 3] [9, 2, 3] _ (w.heap.size + 1) (w.heap.size + 1 + 1) ((RB.lit w _ [1, 2, 3] _ rfl _ rfl).alloc (by simp) _) (RB.litAt _ _ [9, 2, 3] _ rfl _ rfl _ (by simp)) (by simp)).mono fun e w1 h => ?_
  obtain ⟨rfl, hb1⟩ := h.below
  rw [show decide (([1, 2, 3] : List UInt8) = [9, 2, 3]) = false by decide, show (if ([1, 2, 3] : List UInt8).length = ([9, 2, 3] : List UInt8).length then ([1, 2, 3] : List UInt8).length else 0) = 3 from rfl]
  have HB1 := Lib.hid (show Below w.heap.size w w1 from (((Below.refl _ _).alloc (Nat.le_refl _) _).alloc (by simp) _).trans (hb1.mono (by simp; omega)))
  clear h hb1
  go_wp2_with fail
  refine (Same_any _ _ _ _ _ _ [4] [4] _ (w1.heap.size + 1) (w1.heap.size + 1 + 1) ((RB.lit w1 _ [4] _ rfl _ rfl).alloc (by simp) _) (RB.litAt _ _ [4] _ rfl _ rfl _ (by simp)) (by simp)).mono fun e w2 h => ?_
  obtain ⟨rfl, hb2⟩ := h.below
  rw [show decide (([4] : List UInt8) = [4]) = true by decide]
  have HB2 := Lib.hid (show Below w.heap.size w w2 from ((HB1.out.alloc HB1.out.size _).alloc (by have := HB1.out.size; simp; omega) _).trans (hb2.mono (by have := HB1.out.size; simp; omega)))
  clear h hb2 HB1
  go_wp2_with fail
  refine (Copy_any _ _ _ l _ w.heap.size (HL.out.below HB2.out) HB2.out.size hn).mono ?_
  rintro e w3 ⟨g3, c3, rfl, hown3, hb3⟩
  have HO3 := Lib.hid hown3
  have HB3 := Lib.hid (below_up HB2.out hb3 (Nat.le_refl _))
  clear hown3 hb3 HB2
  go_wp2_with fail
  refine (Copy_any _ _ _ r _ w.heap.size (HR.out.below HB3.out) HB3.out.size hn').mono ?_
  rintro e w4 ⟨g4, c4, rfl, hown4, hb4⟩
  have HO4 := Lib.hid hown4
  have HO3' := Lib.hid (own_later HO3.out hb4)
  have HB4 := Lib.hid (below_up HB3.out hb4 (Nat.le_refl _))
  clear hown4 hb4 HB3 HO3
  go_wp2_with fail
  refine (Looks_any _ _ _ _ _ _ l r _ _ _ (RB.of_own HO3'.out) (RB.of_own HO4.out) hn).mono fun e w5 h => ?_
  obtain ⟨rfl, hb5⟩ := h.below
  generalize hB : decide (l = r) = b
  generalize hQ : (if n = n' then n else 0) = q
  have HB5 := Lib.hid (below_up HB4.out hb5 (Nat.le_refl _))
  have KB := Lib.hid hB
  have KQ := Lib.hid hQ
  clear h hb5 HB4 HO4 HO3' hB hQ
  go_wp2_with fail
  refine (RefLooks_any _ _ _ _ _ _ l r _ w.heap.size w.heap.size (HL.out.below HB5.out) (HR.out.below HB5.out) hn).mono fun e w6 h => ?_
  obtain ⟨rfl, hb6⟩ := h.below
  rw [KB.out, KQ.out]
  have HB6 := Lib.hid (below_up HB5.out hb6 (Nat.le_refl _))
  clear h hb6 HB5
  go_wp2_with fail
  refine (Copy_any _ _ _ r _ w.heap.size (HR.out.below HB6.out) HB6.out.size hn').mono ?_
  rintro e w7 ⟨g7, c7, rfl, hown7, hb7⟩
  have HO7 := Lib.hid hown7
  have HB7 := Lib.hid (below_up HB6.out hb7 (Nat.le_refl _))
  clear hown7 hb7 HB6
  go_wp2_with fail
  refine (Copy_any _ _ _ l _ w.heap.size (HL.out.below HB7.out) HB7.out.size hn).mono ?_
  rintro e w8 ⟨g8, c8, rfl, hown8, hb8⟩
  have HO8 := Lib.hid hown8
  have HO7' := Lib.hid (own_later HO7.out hb8)
  have HB8 := Lib.hid (below_up HB7.out hb8 (Nat.le_refl _))
  clear hown8 hb8 HB7 HO7
  go_wp2_with fail
  refine (Looks_any _ _ _ _ _ _ r l _ _ _ (RB.of_own HO7'.out) (RB.of_own HO8.out) hn').mono fun e w9 h => ?_
  obtain ⟨rfl, hb9⟩ := h.below
  rw [dec_comm, cnt_comm, KB.out, KQ.out]
  have HB9 := Lib.hid (below_up HB8.out hb9 (Nat.le_refl _))
  clear h hb9 HB8 HO8 HO7'
  have tb : (b == b) = true := by simp
  have tq : ((q : Int) == (q : Int)) = true := by simp
  go_wp2_with fail
  refine (Copy_any _ _ _ l _ w.heap.size (HL.out.below HB9.out) HB9.out.size hn).mono ?_
  rintro e w10 ⟨g10, c10, rfl, hown10, hb10⟩
  have HO10 := Lib.hid hown10
  have HB10 := Lib.hid (below_up HB9.out hb10 (Nat.le_refl _))
  clear hown10 hb10 HB9
  go_wp2_with fail
  refine (Copy_any _ _ _ r _ w.heap.size (HR.out.below HB10.out) HB10.out.size hn').mono ?_
  rintro e w11 ⟨g11, c11, rfl, hown11, hb11⟩
  have HO11 := Lib.hid hown11
  have HO10' := Lib.hid (own_later HO10.out hb11)
  have HB11 := Lib.hid (below_up HB10.out hb11 (Nat.le_refl _))
  clear hown11 hb11 HB10 HO10
  go_wp2_with fail
  refine (Same_any _ _ _ _ _ _ l r _ _ _ (RB.of_own HO10'.out) (RB.of_own HO11.out) hn).mono fun e w12 h => ?_
  obtain ⟨rfl, hb12⟩ := h.below
  rw [KB.out]
  have HB12 := Lib.hid (below_up HB11.out hb12 (Nat.le_refl _))
  clear h hb12 HB11 HO11 HO10'
  go_wp2_with fail
  refine (Copy_any _ _ _ l _ w.heap.size (HL.out.below HB12.out) HB12.out.size hn).mono ?_
  rintro e w13 ⟨g13, c13, rfl, hown13, hb13⟩
  have HO13 := Lib.hid hown13
  have HB13 := Lib.hid (below_up HB12.out hb13 (Nat.le_refl _))
  clear hown13 hb13 HB12
  go_wp2_with fail
  refine (Copy_any _ _ _ l _ w.heap.size (HL.out.below HB13.out) HB13.out.size hn).mono ?_
  rintro e w14 ⟨g14, c14, rfl, hown14, hb14⟩
  have HO14 := Lib.hid hown14
  have HO13' := Lib.hid (own_later HO13.out hb14)
  have HB14 := Lib.hid (below_up HB13.out hb14 (Nat.le_refl _))
  clear hown14 hb14 HB13 HO13
  go_wp2_with fail
  refine (Same_any _ _ _ _ _ _ l l _ _ _ (RB.of_own HO13'.out) (RB.of_own HO14.out) hn).mono fun e w15 h => ?_
  obtain ⟨rfl, hb15⟩ := h.below
  rw [show decide (l = l) = true by simp]
  have HB15 := Lib.hid (below_up HB14.out hb15 (Nat.le_refl _))
  clear h hb15 HB14 HO14 HO13'
  go_wp2
  go_ret
  exact ⟨by simp, HB15.out⟩
end Go.Proofs.Ytbmcbalofoledaa
