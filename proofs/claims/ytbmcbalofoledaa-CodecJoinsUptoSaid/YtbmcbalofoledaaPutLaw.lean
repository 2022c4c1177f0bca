/-
  The walks of shallotlaw01.awake and shallotlaw01.CodecPuts: for every order, width and number the law returns true and writes nothing that was there. Condition: the number fits 64 bits.
-/
import Derived.Test.YtbmcbalofoledaaPut
import Derived.Test.YtbmcbalofoledaaPad
namespace Go.Proofs.Ytbmcbalofoledaa
open Go Go.RowKit Go.Sh

theorem awake_any (w : World) : Calls Try.prog 37 #[] w (LawPost w) := by
  go_enter Try.func37, Try.ntmps37
  go_wp2_with fail
  refine (Put_any 2 2 258 _ (by omega)).mono ?_
  rintro e w1 ⟨A1, n1, c1, rfl, hl1, hown1, hb1⟩
  rw [show putL 2 2 258 = [1, 2] by decide] at hl1 hown1
  rw [show putE 2 2 258 = 0 by decide]
  subst hl1
  have HO1 := Lib.hid hown1
  have HB1 := Lib.hid hb1
  clear hown1 hb1
  go_wp2_with fail
  refine (Equal_any _ _ _ _ _ _ [1, 2] [1, 2] _ w1.heap.size (w1.heap.size + 1) ((RB.of_own HO1.out).alloc (Nat.le_refl _) _) (RB.lit w1 _ [1, 2] _ rfl _ rfl) (by simp)).mono fun e w2 h => ?_
  obtain ⟨rfl, hb2⟩ := h.below
  rw [show decide (([1, 2] : List UInt8) = [1, 2]) = true by decide]
  have HB2 := Lib.hid (show Below w.heap.size w w2 from (HB1.out.alloc HB1.out.size _).trans (hb2.mono (by have := HB1.out.size; simp; omega)))
  clear h hb2 HB1 HO1
  go_wp2_with fail
  refine (Join_any _ _ _ [[7], [], [8, 9]] _ (w2.heap.size + 1 + 1 + 1) ?_ (by simp) (by omega) (by decide)).mono ?_
  · refine RBB.of_list (Reads.lit _ _ [.slice (some ⟨w2.heap.size, 0, none⟩) 1 1, .slice none 0 0, .slice (some ⟨w2.heap.size + 1, 0, none⟩) 2 2] 3 1 rfl _ (by simp)) rfl (fun i hi => ?_)
    rcases (by omega : i = 0 ∨ i = 1 ∨ i = 2) with rfl | rfl | rfl
    · exact ⟨_, 1, 1, rfl, Nat.le_refl _, (((RB.lit w2 _ [7] _ rfl 1 rfl).alloc (by simp) _).alloc (by simp) _).more (by omega)⟩
    · exact ⟨_, 0, 0, rfl, Nat.le_refl _, RB.none_⟩
    · exact ⟨_, 2, 2, rfl, Nat.le_refl _, ((RB.litAt _ _ [8, 9] _ rfl 2 rfl _ (by simp)).alloc (by simp) _).more (by omega)⟩
  rintro e w3 ⟨g3, n3, c3, rfl, hl3, hown3, hb3⟩
  rw [show ([[7], [], [8, 9]] : List (List UInt8)).flatten = [7, 8, 9] by rfl] at hl3 hown3
  subst hl3
  have HO3 := Lib.hid hown3
  have HB3 := Lib.hid (show Below w.heap.size w w3 from (((HB2.out.alloc HB2.out.size _).alloc (by have := HB2.out.size; simp; omega) _).alloc (by have := HB2.out.size; simp; omega) _).trans (hb3.mono (by have := HB2.out.size; simp; omega)))
  clear hown3 hb3 HB2
  go_wp2_with fail
  refine (Equal_any _ _ _ _ _ _ [7, 8, 9] [7, 8, 9] _ w3.heap.size (w3.heap.size + 1) ((RB.of_own HO3.out).alloc (Nat.le_refl _) _) (RB.lit w3 _ [7, 8, 9] _ rfl _ rfl) (by simp)).mono fun e w4 h => ?_
  obtain ⟨rfl, hb4⟩ := h.below
  rw [show decide (([7, 8, 9] : List UInt8) = [7, 8, 9]) = true by decide]
  have HB4 := Lib.hid (show Below w.heap.size w w4 from (HB3.out.alloc HB3.out.size _).trans (hb4.mono (by have := HB3.out.size; simp; omega)))
  clear h hb4 HB3 HO3
  go_wp2
  go_ret
  exact ⟨rfl, HB4.out⟩

theorem val_digits (v : Nat) : ∀ m, val (fun j => v / 256 ^ j % 256) m = v % 256 ^ m
  | 0 => by simp [val, Nat.mod_one]
  | m + 1 => by
    rw [val, val_digits v m, Nat.pow_succ, Nat.mod_mul, Nat.mul_comm]

theorem get_put (o d : Int) (v : Nat) (h : putE o d v = 0) : getE o d.toNat 0 d = 0 ∧ getV o (putL o d v) d.toNat 0 d = v := by
  have hok : okW o d = true := by
    rcases Bool.eq_false_or_eq_true (okW o d) with h1 | h1
    · exact h1
    · simp [putE, h1] at h
  have hlt : v < 256 ^ d.toNat := by
    rcases Nat.lt_or_ge v (256 ^ d.toNat) with h1 | h1
    · exact h1
    · simp [putE, hok, h1] at h
  obtain ⟨ho, d1, d2⟩ := okW_yes hok
  have e1 : getE o d.toNat 0 d = 0 := by
    unfold getE
    rw [if_neg (by rw [hok]; simp), if_neg (by omega)]
  refine ⟨e1, ?_⟩
  have e2 : putL o d v = putB o d.toNat v := by simp [putL, h]
  unfold getV
  rw [if_pos e1, e2, show (0 : Int).toNat = 0 from rfl]
  have e3 : val (dig o (putB o d.toNat v) 0 d.toNat) d.toNat = val (fun j => v / 256 ^ j % 256) d.toNat := by
    refine val_congr _ fun j hj => ?_
    rcases ho with rfl | rfl
    · simp only [dig, putB]
      rw [if_neg (by decide), if_neg (by decide), Nat.zero_add, by8_rowf _ hj, pc_nat]
    · simp only [dig, putB, if_true]
      rw [by8_rowf _ (by omega), pc_nat, show d.toNat - 1 - (0 + d.toNat - 1 - j) = j by omega]
  rw [e3, val_digits, Nat.mod_eq_of_lt hlt]

theorem CodecPuts_walk (o d n : Int) (w : World) (_ho : -9223372036854775808 ≤ o ∧ o ≤ 9223372036854775807) (_hd : -9223372036854775808 ≤ d ∧ d ≤ 9223372036854775807) (hn : 0 ≤ n ∧ n ≤ 18446744073709551615) :
    Calls Try.prog 9 #[.int .i64 o, .int .i64 d, .int .u64 n] w (LawPost w) := by
  obtain ⟨v, rfl⟩ := Int.eq_ofNat_of_zero_le hn.1
  have hv : v < 18446744073709551616 := by omega
  have HV := Lib.hid hv
  clear hn hv _ho _hd
  go_enter Try.func9, Try.ntmps9
  go_wp2_with fail
  refine (awake_any _).mono ?_
  rintro e w1 ⟨rfl, hb1⟩
  have HB1 := Lib.hid hb1
  clear hb1
  go_wp2_with fail
  refine (Put_any o d v _ HV.out).mono ?_
  rintro e w2 ⟨A2, n2, c2, rfl, hl2, hown2, hb2⟩
  have HO2 := Lib.hid hown2
  have HL2 := Lib.hid hl2
  have HB2 := Lib.hid (below_up HB1.out hb2 (Nat.le_refl _))
  clear hown2 hl2 hb2 HB1
  go_wp2_with fail
  refine (RefPut_any o d v _ HV.out).mono ?_
  rintro e w3 ⟨A3, n3, c3, rfl, hl3, hown3, hb3⟩
  have HO3 := Lib.hid hown3
  have HO2' := Lib.hid (own_later HO2.out hb3)
  have HB3 := Lib.hid (below_up HB2.out hb3 (Nat.le_refl _))
  have hn2 : n2 ≤ 8 := by
    rw [← HL2.out]
    unfold putL
    split
    · rename_i h0
      rw [length_putB]
      rcases Bool.eq_false_or_eq_true (okW o d) with h1 | h1
      · have := okW_yes h1
        omega
      · simp [putE, h1] at h0
    · simp
  clear hown3 hl3 hb3 HB2 HO2
  go_wp2_with fail
  refine (told_any _ _ _ _ _ _ (putL o d v) (putL o d v) _ _ _ _ _ (RB.of_own HO2'.out) (RB.of_own HO3.out) (by omega)).mono fun e w4 h => ?_
  obtain ⟨rfl, hb4⟩ := h.below
  rw [show decide (putL o d v = putL o d v ∧ putE o d v = putE o d v) = true by simp]
  have HO4 := Lib.hid (own_later HO2'.out hb4)
  have HB4 := Lib.hid (below_up HB3.out hb4 (Nat.le_refl _))
  clear h hb4 HB3 HO3 HO2'
  by_cases h0 : putE o d v = 0
  · obtain ⟨g1, g2⟩ := get_put o d v h0
    have hlen : n2 = d.toNat := by rw [← HL2.out, putL, if_pos h0, length_putB]
    subst hlen
    have G1 := Lib.hid g1
    have G2 := Lib.hid g2
    rw [h0]
    clear g1 g2 h0
    go_wp2_with fail
    refine (Get_any o _ _ _ (putL o d v) 0 d _ _ (RB.of_own HO4.out) (by omega) (by omega)).mono ?_
    rintro e w5 ⟨rfl, rfl⟩
    rw [G1.out, G2.out]
    have t : ((v : Int) == (v : Int)) = true := by simp
    go_wp2
    go_ret
    exact ⟨rfl, HB4.out⟩
  · have hne : (putE o d v != 0) = true := by rw [bne_iff_ne]; exact h0
    clear h0
    generalize putE o d v = x at *
    go_wp2
    go_ret
    exact ⟨rfl, HB4.out⟩
end Go.Proofs.Ytbmcbalofoledaa
