/-
  The walk of shallotlaw04.ChachaStreams: it returns true; nothing that was there has turned.
-/
import Derived.Test.YtbnlpahgpphpjaaChaLaw
import Derived.Test.YtbnlpahgpphpjaaChaRefStream
namespace Go.Proofs.Ytbnlpahgpphpjaa
open Go Go.RowKit Go.Sh

theorem length_strL (key : List UInt8) (kl : Nat) (n : Int) : (strL key kl n).length ≤ 65536 := by
  unfold strL
  split
  · rename_i h
    rw [length_sbytes]
    unfold strE at h
    split at h
    · omega
    · omega
  · simp
set_option maxHeartbeats 1000000 in
theorem ChachaStreams_walk (A : Option Addr) (kl c : Nat) (key : List UInt8) (n : Int) (w : World) (hk : RB w w.heap.size A kl key) (hn : kl ≤ 140737488355328) (hb : -9223372036854775808 ≤ n ∧ n ≤ 9223372036854775807) :
    Calls Try.prog 5 #[.slice A kl c, .int .i64 n] w (LawPost w) := by
  have HK := Lib.hid hk
  clear hk
  go_enter Try.func5, Try.ntmps5
  go_wp2_with fail
  refine (awake_any w).mono ?_
  rintro e w1 ⟨rfl, hb1⟩
  have HK1 := Lib.hid (HK.out.below hb1)
  have hz1 := hb1.size
  have HB1 := Lib.hid hb1
  clear hb1
  have hcase : (3000 < n ∧ n ≤ 65536) ∨ (3000 < n ∧ ¬ n ≤ 65536) ∨ ¬ 3000 < n := by omega
  rcases hcase with ⟨h1, h2⟩ | ⟨h1, h2⟩ | h1
  · have hmod : n.tmod 3000 = n % 3000 := Int.tmod_eq_emod_of_nonneg (by omega)
    have hx1 : 0 ≤ n % 3000 := by omega
    have hx2 : n % 3000 < 3000 := by omega
    generalize n % 3000 = x at *
    go_wp2_with fail
    refine (Copy_any A kl c key w1 w.heap.size HK1.out hz1 (by omega)).mono ?_
    rintro e w2 ⟨g2, c2, rfl, ho2, hb2⟩
    have HB2 := Lib.hid (HB1.out.trans (hb2.mono hz1))
    have HK2 := Lib.hid (RB.of_own ho2)
    have HKO := Lib.hid (HK1.out.below (hb2.mono hz1))
    have hz2 := hb2.size
    clear ho2 hb2 HK1
    go_wp2_with fail
    refine (Stream_any _ kl c2 key x w2 w2.heap.size HK2.out (Nat.le_refl _)).mono ?_
    rintro e w3 ⟨A3, n3, c3, rfl, hn3, ho3, hb3⟩
    have HB3 := Lib.hid (HB2.out.trans (hb3.mono (by omega)))
    have HO3 := Lib.hid ho3
    have HKO3 := Lib.hid (HKO.out.below (hb3.mono (by omega)))
    have hz3 := hb3.size
    clear ho3 hb3 HK2 HKO
    go_wp2_with fail
    refine (RefStream_any A kl c key x w3 w.heap.size HKO3.out (by omega)).mono ?_
    rintro e w4 ⟨A4, n4, c4, rfl, hn4, ho4, hb4⟩
    have R3 := Lib.hid ((RB.of_own HO3.out).below hb4)
    have R4 := Lib.hid (RB.of_own ho4)
    have HB4 := Lib.hid (HB3.out.trans (hb4.mono (by omega)))
    have hz4 := hb4.size
    have hl3 : n3 ≤ 140737488355328 := by have := length_strL key kl x; omega
    clear ho4 hb4 HKO3 HO3
    generalize strE kl x = er at *
    generalize strL key kl x = l at *
    go_wp2_with fail
    refine (Equal_any A3 A4 n3 n4 c3 c4 l l w4 _ _ R3.out R4.out hl3).mono ?_
    rintro e w5 h5
    obtain ⟨rfl, hb5⟩ := h5.below
    have HB5 := Lib.hid (HB4.out.trans (hb5.mono (by omega)))
    clear hb5 h5
    rw [show decide (l = l) = true by simp]
    go_wp2_with fail
    go_ret
    exact ⟨rfl, HB5.out⟩
  · skip
    go_wp2_with fail
    refine (Copy_any A kl c key w1 w.heap.size HK1.out hz1 (by omega)).mono ?_
    rintro e w2 ⟨g2, c2, rfl, ho2, hb2⟩
    have HB2 := Lib.hid (HB1.out.trans (hb2.mono hz1))
    have HK2 := Lib.hid (RB.of_own ho2)
    have HKO := Lib.hid (HK1.out.below (hb2.mono hz1))
    have hz2 := hb2.size
    clear ho2 hb2 HK1
    go_wp2_with fail
    refine (Stream_any _ kl c2 key n w2 w2.heap.size HK2.out (Nat.le_refl _)).mono ?_
    rintro e w3 ⟨A3, n3, c3, rfl, hn3, ho3, hb3⟩
    have HB3 := Lib.hid (HB2.out.trans (hb3.mono (by omega)))
    have HO3 := Lib.hid ho3
    have HKO3 := Lib.hid (HKO.out.below (hb3.mono (by omega)))
    have hz3 := hb3.size
    clear ho3 hb3 HK2 HKO
    go_wp2_with fail
    refine (RefStream_any A kl c key n w3 w.heap.size HKO3.out (by omega)).mono ?_
    rintro e w4 ⟨A4, n4, c4, rfl, hn4, ho4, hb4⟩
    have R3 := Lib.hid ((RB.of_own HO3.out).below hb4)
    have R4 := Lib.hid (RB.of_own ho4)
    have HB4 := Lib.hid (HB3.out.trans (hb4.mono (by omega)))
    have hz4 := hb4.size
    have hl3 : n3 ≤ 140737488355328 := by have := length_strL key kl n; omega
    clear ho4 hb4 HKO3 HO3
    generalize strE kl n = er at *
    generalize strL key kl n = l at *
    go_wp2_with fail
    refine (Equal_any A3 A4 n3 n4 c3 c4 l l w4 _ _ R3.out R4.out hl3).mono ?_
    rintro e w5 h5
    obtain ⟨rfl, hb5⟩ := h5.below
    have HB5 := Lib.hid (HB4.out.trans (hb5.mono (by omega)))
    clear hb5 h5
    rw [show decide (l = l) = true by simp]
    go_wp2_with fail
    go_ret
    exact ⟨rfl, HB5.out⟩
  · skip
    go_wp2_with fail
    refine (Copy_any A kl c key w1 w.heap.size HK1.out hz1 (by omega)).mono ?_
    rintro e w2 ⟨g2, c2, rfl, ho2, hb2⟩
    have HB2 := Lib.hid (HB1.out.trans (hb2.mono hz1))
    have HK2 := Lib.hid (RB.of_own ho2)
    have HKO := Lib.hid (HK1.out.below (hb2.mono hz1))
    have hz2 := hb2.size
    clear ho2 hb2 HK1
    go_wp2_with fail
    refine (Stream_any _ kl c2 key n w2 w2.heap.size HK2.out (Nat.le_refl _)).mono ?_
    rintro e w3 ⟨A3, n3, c3, rfl, hn3, ho3, hb3⟩
    have HB3 := Lib.hid (HB2.out.trans (hb3.mono (by omega)))
    have HO3 := Lib.hid ho3
    have HKO3 := Lib.hid (HKO.out.below (hb3.mono (by omega)))
    have hz3 := hb3.size
    clear ho3 hb3 HK2 HKO
    go_wp2_with fail
    refine (RefStream_any A kl c key n w3 w.heap.size HKO3.out (by omega)).mono ?_
    rintro e w4 ⟨A4, n4, c4, rfl, hn4, ho4, hb4⟩
    have R3 := Lib.hid ((RB.of_own HO3.out).below hb4)
    have R4 := Lib.hid (RB.of_own ho4)
    have HB4 := Lib.hid (HB3.out.trans (hb4.mono (by omega)))
    have hz4 := hb4.size
    have hl3 : n3 ≤ 140737488355328 := by have := length_strL key kl n; omega
    clear ho4 hb4 HKO3 HO3
    generalize strE kl n = er at *
    generalize strL key kl n = l at *
    go_wp2_with fail
    refine (Equal_any A3 A4 n3 n4 c3 c4 l l w4 _ _ R3.out R4.out hl3).mono ?_
    rintro e w5 h5
    obtain ⟨rfl, hb5⟩ := h5.below
    have HB5 := Lib.hid (HB4.out.trans (hb5.mono (by omega)))
    clear hb5 h5
    rw [show decide (l = l) = true by simp]
    go_wp2_with fail
    go_ret
    exact ⟨rfl, HB5.out⟩
end Go.Proofs.Ytbnlpahgpphpjaa
