/-
  shallotlaw04.awake and the walk of shallotlaw04.ChachaBlocks: it returns true; nothing that was there has turned.
-/
import Derived.Test.YtbnlpahgpphpjaaChaPiece
import Derived.Test.YtbnlpahgpphpjaaChaRef
import Derived.Test.YtbnlpahgpphpjaaChaFact
namespace Go.Proofs.Ytbnlpahgpphpjaa
open Go Go.RowKit Go.Sh

theorem awake_any (w : World) : Calls Try.prog 11 #[] w (LawPost w) := by
  go_enter Try.func11, Try.ntmps11
  go_wp2_with (at_make; refine wl_makeB TB rfl (.const (.int .i64 32)) (.const (.int .i64 32)) rfl .i64 .i64 _ _ rfl rfl 32 rfl rfl (by omega) w.heap.size (Nat.le_refl _) ?m5)
  case m5 =>
    intro w1 hown hg hlt
    have HN := Lib.hid (RB.of_own hown)
    have HB1 := Lib.hid (show Below w.heap.size w w1 from (Below.refl _ _).grown hg (Nat.le_refl _) (by simp))
    clear hown hg
    go_wp2_with fail
    refine (Stream_any (some ⟨w.heap.size, 0, none⟩) 32 32 (zs 32) 4 w1 w1.heap.size HN.out (Nat.le_refl _)).mono ?_
    rw [show strE 32 4 = 0 from rfl, show strL (zs 32) 32 4 = [118, 184, 224, 173] from fact_bytes]
    rintro e w2 ⟨A2, n2, c2, rfl, hn2, ho2, hb2⟩
    obtain rfl : 4 = n2 := hn2
    have R2 := Lib.hid (RB.of_own ho2)
    have B2 := Lib.hid (HB1.out.trans (hb2.mono (Nat.le_of_lt hlt)))
    have hz := B2.out.size
    clear ho2 hb2 HB1 HN
    go_wp2_with fail
    refine (Equal_any A2 (some ⟨w2.heap.size, 0, none⟩) 4 4 c2 4 [118, 184, 224, 173] [118, 184, 224, 173] _ w2.heap.size (w2.heap.size + 1) (R2.out.alloc (Nat.le_refl _) _) (RB.lit w2 _ _ _ rfl 4 rfl) (by omega)).mono ?_
    rintro e w3 h3
    obtain ⟨rfl, hb3⟩ := h3.below
    have B3 := Lib.hid ((B2.out.alloc hz _).trans (hb3.mono (by simp; omega)))
    clear hb3 h3
    go_wp2_with fail
    go_ret
    exact ⟨rfl, B3.out⟩

set_option maxHeartbeats 1000000 in
theorem ChachaBlocks_walk (A : Option Addr) (n c : Nat) (key : List UInt8) (A' : Option Addr) (m c' : Nat) (nonce : List UInt8) (ctr : Int) (w : World) (hk : RB w w.heap.size A n key) (hn : n ≤ 140737488355328) (hr : RB w w.heap.size A' m nonce) (hm : m ≤ 140737488355328) (hc : W32 ctr) :
    Calls Try.prog 4 #[.slice A n c, .slice A' m c', .int .u32 ctr] w (LawPost w) := by
  have HK := Lib.hid hk
  have HR := Lib.hid hr
  clear hk hr
  go_enter Try.func4, Try.ntmps4
  go_wp2_with fail
  refine (awake_any w).mono ?_
  rintro e w1 ⟨rfl, hb1⟩
  have HK1 := Lib.hid (HK.out.below hb1)
  have HR1 := Lib.hid (HR.out.below hb1)
  have hz1 := hb1.size
  have HB1 := Lib.hid hb1
  clear hb1
  go_wp2_with fail
  refine (Copy_any A n c key w1 w.heap.size HK1.out hz1 (by omega)).mono ?_
  rintro e w2 ⟨g2, c2, rfl, ho2, hb2⟩
  have HR2 := Lib.hid (HR1.out.below (hb2.mono hz1))
  have HB2 := Lib.hid (HB1.out.trans (hb2.mono hz1))
  have HK2 := Lib.hid (RB.of_own ho2)
  have HKO := Lib.hid (HK1.out.below (hb2.mono hz1))
  have hz2 := hb2.size
  clear ho2 hb2 HK1 HR1
  go_wp2_with fail
  refine (Copy_any A' m c' nonce w2 w.heap.size HR2.out (by omega) (by omega)).mono ?_
  rintro e w3 ⟨g3, c3, rfl, ho3, hb3⟩
  have HB3 := Lib.hid (HB2.out.trans (hb3.mono (by omega)))
  have HK3 := Lib.hid ((HK2.out.below hb3).more hb3.size)
  have HR3 := Lib.hid (RB.of_own ho3)
  have HKO3 := Lib.hid (HKO.out.below (hb3.mono (by omega)))
  have HRO3 := Lib.hid (HR2.out.below (hb3.mono (by omega)))
  have hz3 := hb3.size
  clear ho3 hb3 HK2 HKO HR2
  go_wp2_with fail
  refine (Block_any (some ⟨g2, 0, none⟩) (some ⟨g3, 0, none⟩) n m c2 c3 key nonce ctr w3 w3.heap.size HK3.out HR3.out (Nat.le_refl _) hc).mono ?_
  rintro e w4 ⟨A4, n4, c4, rfl, hn4, ho4, hb4⟩
  have HB4 := Lib.hid (HB3.out.trans (hb4.mono (by omega)))
  have HR4 := Lib.hid (RB.of_own ho4)
  have HKO4 := Lib.hid (HKO3.out.below (hb4.mono (by omega)))
  have HRO4 := Lib.hid (HRO3.out.below (hb4.mono (by omega)))
  have hz4 := hb4.size
  clear ho4 hb4 HK3 HR3 HKO3 HRO3
  by_cases h : n = 32 ∧ m = 12
  · have e1 : blkE n m = 0 := if_pos h
    have e2 : blkL key nonce n m ctr = blk key nonce ctr := if_pos h
    rw [e1]
    rw [e2] at hn4 HR4
    rw [length_blk] at hn4
    obtain ⟨rfl, rfl⟩ := h
    subst hn4
    go_wp2_with fail
    refine (RefBlock_any A A' c c' key nonce ctr w4 w.heap.size HKO4.out HRO4.out (by omega) hc).mono ?_
    rintro e w5 ⟨g5, c5, rfl, ho5, hb5⟩
    have HR5 := Lib.hid (RB.of_own ho5)
    have HR4' := Lib.hid (HR4.out.below hb5)
    have HB5 := Lib.hid (HB4.out.trans (hb5.mono (by omega)))
    have hz5 := hb5.size
    clear ho5 hb5
    go_wp2_with fail
    refine (Equal_any A4 (some ⟨g5, 0, none⟩) 64 64 c4 c5 _ _ _ _ _ HR4'.out HR5.out (by omega)).mono ?_
    rintro e w6 h6
    obtain ⟨rfl, hb6⟩ := h6.below
    have HB6 := Lib.hid (HB5.out.trans (hb6.mono (by omega)))
    clear hb6 h6
    rw [show decide (blk key nonce ctr = blk key nonce ctr) = true by simp]
    go_wp2_with fail
    go_ret
    exact ⟨rfl, HB6.out⟩
  · have e1 : blkE n m = 2 := if_neg h
    have e2 : blkL key nonce n m ctr = [] := if_neg h
    rw [e1]
    rw [e2] at hn4
    obtain rfl : 0 = n4 := hn4
    by_cases h1 : n = 32
    · have h2 : ((m : Int) != 12) = true := by rw [bne_iff_ne]; omega
      subst h1
      clear h e1 e2
      go_wp2_with fail
      go_ret
      exact ⟨rfl, HB4.out⟩
    · have h2 : ((n : Int) != 32) = true := by rw [bne_iff_ne]; omega
      clear h e1 e2
      go_wp2_with fail
      go_ret
      exact ⟨rfl, HB4.out⟩
end Go.Proofs.Ytbnlpahgpphpjaa
