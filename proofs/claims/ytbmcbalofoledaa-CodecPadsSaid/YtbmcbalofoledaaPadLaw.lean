/-
  The walk of shallotlaw01.CodecPads: for every list of bytes and every length the law returns true and writes nothing that was there. Condition: the list is no longer than 140737488355328 bytes, which every slice that can be read is.
-/
import Derived.Test.YtbmcbalofoledaaPad
namespace Go.Proofs.Ytbmcbalofoledaa
open Go Go.RowKit Go.Sh

theorem pad3 : padL [7] 3 = [7, 0, 0] := by decide
theorem pad3e : padE [7] 3 = 0 := by decide

theorem padL_small (l : List UInt8) (n : Int) : (padL l n).length ≤ 140737488355328 := by
  unfold padL
  split
  · simp
  · split
    · simp
    · simp; omega

theorem CodecPads_walk (A : Option Addr) (m c : Nat) (l : List UInt8) (n : Int) (w : World) (hr : RB w w.heap.size A m l) (hm : m ≤ 140737488355328) (hn : -9223372036854775808 ≤ n ∧ n ≤ 9223372036854775807) :
    Calls Try.prog 3 #[.slice A m c, .int .i64 n] w (LawPost w) := by
  have HR := Lib.hid hr
  clear hr
  obtain ⟨n1, n2⟩ := hn
  go_enter Try.func3, Try.ntmps3
  go_wp2_with fail
  refine (Pad_any _ _ _ [7] 3 _ (w.heap.size + 1) (RB.lit w _ [7] _ rfl _ rfl) (by simp)).mono ?_
  rintro e w1 ⟨A1, m1, c1, rfl, hl1, hown1, hb1⟩
  rw [pad3] at hl1 hown1
  rw [pad3e]
  subst hl1
  have HO1 := Lib.hid hown1
  have HB1 := Lib.hid (show Below w.heap.size w w1 from ((Below.refl _ _).alloc (Nat.le_refl _) _).trans (hb1.mono (by simp)))
  clear hown1 hb1
  go_wp2_with fail
  refine (told_any _ _ _ _ _ _ [7, 0, 0] [7, 0, 0] 0 0 _ w1.heap.size (w1.heap.size + 1) ((RB.of_own HO1.out).alloc (Nat.le_refl _) _) (RB.lit w1 _ [7, 0, 0] _ rfl _ rfl) (by simp)).mono fun e w2 h => ?_
  obtain ⟨rfl, hb2⟩ := h.below
  have HB2 := Lib.hid (show Below w.heap.size w w2 from (HB1.out.alloc HB1.out.size _).trans (hb2.mono (by have := HB1.out.size; simp; omega)))
  clear h hb2 HB1 HO1
  have hcases : (n ≤ 100000) ∨ (100000 < n ∧ n ≤ 16777216) ∨ (100000 < n ∧ 16777216 < n) := by omega
  rcases hcases with h1 | ⟨h1, h2⟩ | ⟨h1, h2⟩
  all_goals
    go_wp2_with fail
    refine (Copy_any _ _ _ l _ w.heap.size (HR.out.below HB2.out) HB2.out.size hm).mono ?_
    rintro e w3 ⟨g3, c3, rfl, hown3, hb3⟩
    have HO3 := Lib.hid hown3
    have HB3 := Lib.hid (below_up HB2.out hb3 (Nat.le_refl _))
    clear hown3 hb3 HB2
    go_wp2_with fail
    refine (Pad_any _ _ _ l _ _ w3.heap.size (RB.of_own HO3.out) (Nat.le_refl _)).mono ?_
    rintro e w4 ⟨A4, n4, c4, rfl, hl4, hown4, hb4⟩
    have HO4 := Lib.hid hown4
    have HL4 := Lib.hid hl4
    have HB4 := Lib.hid (below_up HB3.out hb4 (Nat.le_refl _))
    clear hown4 hl4 hb4 HB3 HO3
    go_wp2_with fail
    refine (RefPad_any _ _ _ l _ _ w.heap.size (HR.out.below HB4.out) HB4.out.size hm).mono ?_
    rintro e w5 ⟨A5, n5, c5, rfl, hl5, hown5, hb5⟩
    have HO5 := Lib.hid hown5
    have HO4' := Lib.hid (own_later HO4.out hb5)
    have HL5 := Lib.hid hl5
    have HB5 := Lib.hid (below_up HB4.out hb5 (Nat.le_refl _))
    clear hown5 hl5 hb5 HB4 HO4
    go_wp2_with fail
    refine (told_any _ _ _ _ _ _ _ _ _ _ _ w5.heap.size w5.heap.size (RB.of_own HO4'.out) (RB.of_own HO5.out) (by rw [← HL4.out]; exact padL_small _ _)).mono fun e w6 h => ?_
    obtain ⟨rfl, hb6⟩ := h.below
    go_wp2
    go_ret
    exact ⟨by simp, below_up HB5.out hb6 (Nat.le_refl _)⟩
end Go.Proofs.Ytbmcbalofoledaa
