/-
  The walks of shallotlaw01.awake and shallotlaw01.CodecPuts: for every order, width and number the law returns true and writes nothing that was there. Condition: the number fits 64 bits.
-/
import Derived.Test.YtobmopjfbgkfbaaPut
import Derived.Test.YtobmopjfbgkfbaaPad
namespace Go.Proofs.Ytobmopjfbgkfbaa
open Go Go.RowKit Go.Sh

set_option maxRecDepth 100000 in
theorem awake_any (w : World) : Calls Try.prog 37 #[] w (LawPost w) := by
  go_enter Try.func37, Try.ntmps37
  go_wp2_with fail
  refine (Put_any 2 2 258 _ (by omega)).mono ?_
  rintro e w1 ⟨A1, n1, c1, rfl, hl1, hown1, hb1⟩
  rw [show putL 2 2 258 = [1, 2] by decide] at hl1 hown1
  rw [show putE 2 2 258 = 0 by decide]
  subst hl1
  have HO1 := Lib.hid hown1
  have HB1 := Lib.hid hb1
  clear hown1 hb1
  go_wp2_with fail
  refine (Equal_any _ _ _ _ _ _ [1, 2] [1, 2] _ w1.heap.size (w1.heap.size + 1) ((RB.of_own HO1.out).alloc (Nat.le_refl _) _) (RB.lit w1 _ [1, 2] _ rfl _ rfl) (by simp)).mono fun e w2 h => ?_
  obtain ⟨rfl, hb2⟩ := h.below
  rw [show decide (([1, 2] : List UInt8) = [1, 2]) = true by decide]
  have HB2 := Lib.hid (show Below w.heap.size w w2 from (HB1.out.alloc HB1.out.size _).trans (hb2.mono (by have := HB1.out.size; simp; omega)))
  clear h hb2 HB1 HO1
  go_wp2_with fail
  refine (Join_any _ _ _ [[7], [], [8, 9]] _ (w2.heap.size + 1 + 1 + 1) ?_ (by simp) (by omega) (by decide)).mono ?_
  · refine RBB.of_list (Reads.lit _ _ [.slice (some ⟨w2.heap.size, 0, none⟩) 1 1, .slice none 0 0, .slice (some ⟨w2.heap.size + 1, 0, none⟩) 2 2] 3 1 rfl _ (by simp)) rfl (fun i hi => ?_)
    rcases (by omega : i = 0 ∨ i = 1 ∨ i = 2) with rfl | rfl | rfl
    · exact ⟨_, 1, 1, rfl, Nat.le_refl _, (((RB.lit w2 _ [7] _ rfl 1 rfl).alloc (by simp) _).alloc (by simp) _).more (by omega)⟩
    · exact ⟨_, 0, 0, rfl, Nat.le_refl _, RB.none_⟩
    · exact ⟨_, 2, 2, rfl, Nat.le_refl _, ((RB.litAt _ _ [8, 9] _ rfl 2 rfl _ (by simp)).alloc (by simp) _).more (by omega)⟩
  rintro e w3 ⟨g3, n3, c3, rfl, hl3, hown3, hb3⟩
  rw [show ([[7], [], [8, 9]] : List (List UInt8)).flatten = [7, 8, 9] by rfl] at hl3 hown3
  subst hl3
  have HO3 := Lib.hid hown3
  have HB3 := Lib.hid (show Below w.heap.size w w3 from (((HB2.out.alloc HB2.out.size _).alloc (by have := HB2.out.size; simp; omega) _).alloc (by have := HB2.out.size; simp; omega) _).trans (hb3.mono (by have := HB2.out.size; simp; omega)))
  clear hown3 hb3 HB2
  go_wp2_with fail
  refine (Equal_any _ _ _ _ _ _ [7, 8, 9] [7, 8, 9] _ w3.heap.size (w3.heap.size + 1) ((RB.of_own HO3.out).alloc (Nat.le_refl _) _) (RB.lit w3 _ [7, 8, 9] _ rfl _ rfl) (by simp)).mono fun e w4 h => ?_
  obtain ⟨rfl, hb4⟩ := h.below
  rw [show decide (([7, 8, 9] : List UInt8) = [7, 8, 9]) = true by decide]
  have HB4 := Lib.hid (show Below w.heap.size w w4 from (HB3.out.alloc HB3.out.size _).trans (hb4.mono (by have := HB3.out.size; simp; omega)))
  clear h hb4 HB3 HO3
  go_wp2
  go_ret
  exact ⟨rfl, HB4.out⟩

theorem val_digits (v : Nat) : ∀ m, val (fun j => v / 256 ^ j % 256) m = v % 256 ^ m
  | 0 => by simp [val, Nat.mod_one]
  | m + 1 => by
    rw [val, val_digits v m, Nat.pow_succ, Nat.mod_mul, Nat.mul_comm]

theorem get_put (o d : Int) (v : Nat) (h : putE o d v = 0) : getE o d.toNat 0 d = 0 ∧ getV o (putL o d v) d.toNat 0 d = v := by
  have hok : okW o d = true := by
    rcases Bool.eq_false_or_eq_true (okW o d) with h1 | h1
    · exact h1
    · simp [putE, h1] at h
  have hlt : v < 256 ^ d.toNat := by
    rcases Nat.lt_or_ge v (256 ^ d.toNat) with h1 | h1
    · exact h1
    · simp [putE, hok, h1] at h
  obtain ⟨ho, d1, d2⟩ := okW_yes hok
  have e1 : getE o d.toNat 0 d = 0 := by
    unfold getE
    rw [if_neg (by rw [hok]; simp), if_neg (by omega)]
  refine ⟨e1, ?_⟩
  have e2 : putL o d v = putB o d.toNat v := by simp [putL, h]
  unfold getV
  rw [if_pos e1, e2, show (0 : Int).toNat = 0 from rfl]
  have e3 : val (dig o (putB o d.toNat v) 0 d.toNat) d.toNat = val (fun j => v / 256 ^ j % 256) d.toNat := by
    refine val_congr _ fun j hj => ?_
    rcases ho with rfl | rfl
    · simp only [dig, putB]
      rw [if_neg (by decide), if_neg (by decide), Nat.zero_add, by8_rowf _ hj, pc_nat]
    · simp only [dig, putB, if_true]
      rw [by8_rowf _ (by omega), pc_nat, show d.toNat - 1 - (0 + d.toNat - 1 - j) = j by omega]
  rw [e3, val_digits, Nat.mod_eq_of_lt hlt]

end Go.Proofs.Ytobmopjfbgkfbaa
