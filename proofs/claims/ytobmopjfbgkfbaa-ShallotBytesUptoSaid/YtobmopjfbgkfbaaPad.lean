/-
  Contracts of codec.Pad, shallotref01.Pad and shallotlaw01.told: both pads give the same bytes and the same error's number, whatever the bytes and the length; told tells whether bytes and errors are equal. No conditions but the sizes that a slice can have.
-/
import Derived.Test.YtobmopjfbgkfbaaCopy
namespace Go.Proofs.Ytobmopjfbgkfbaa
open Go Go.RowKit Go.Sh

theorem beq_int (x y : Int) : (x == y) = decide (x = y) := by rw [Bool.eq_iff_iff]; simp

/-- what a pad gives -/
def padL (l : List UInt8) (n : Int) : List UInt8 := if n < 0 ∨ 16777216 < n then [] else if n < l.length then [] else l ++ List.replicate (n.toNat - l.length) 0
def padE (l : List UInt8) (n : Int) : Int := if n < 0 ∨ 16777216 < n then 1 else if n < l.length then 2 else 0

set_option maxRecDepth 100000 in
theorem Pad_any (A : Option Addr) (m c : Nat) (l : List UInt8) (n : Int) (w : World) (B : Nat) (hr : RB w B A m l) (hB : B ≤ w.heap.size) :
    Calls Try.prog 72 #[.slice A m c, .int .i64 n] w (RetBE w (padL l n) (padE l n)) := by
  have hl := hr.len
  by_cases h1 : n < 0
  · have e1 : padL l n = [] := by simp [padL, h1]
    have e2 : padE l n = 1 := by simp [padE, h1]
    rw [e1, e2]
    clear e1 e2 hl hr
    go_enter Try.func72, Try.ntmps72
    go_wp2
    go_ret2
    exact RetBE.nil w 1
  · by_cases h2 : 16777216 < n
    · have e1 : padL l n = [] := by simp [padL, h2]
      have e2 : padE l n = 1 := by simp [padE, h2]
      rw [e1, e2]
      clear e1 e2 hl hr
      go_enter Try.func72, Try.ntmps72
      go_wp2
      go_ret2
      exact RetBE.nil w 1
    · by_cases h3 : n < (m : Int)
      · have e1 : padL l n = [] := by simp [padL, h1, h2, hl, h3]
        have e2 : padE l n = 2 := by simp [padE, h1, h2, hl, h3]
        rw [e1, e2]
        clear e1 e2 hl hr
        go_enter Try.func72, Try.ntmps72
        go_wp2
        go_ret2
        exact RetBE.nil w 2
      · obtain ⟨k, rfl⟩ := Int.eq_ofNat_of_zero_le (show 0 ≤ n by omega)
        have e1 : padL l (k : Int) = l ++ List.replicate (k - m) 0 := by simp [padL, h1, h2, hl, h3]
        have e2 : padE l (k : Int) = 0 := by simp [padE, h1, h2, hl, h3]
        rw [e1, e2]
        have HL := Lib.hid hl
        have HR := Lib.hid hr
        clear e1 e2 hl hr
        go_enter Try.func72, Try.ntmps72
        go_wp2_with (at_make; refine wl_makeB TB rfl (.tmp 17) (.tmp 17) rfl .i64 .i64 _ _ rfl rfl k ?m1 ?m2 ?m3 w.heap.size (Nat.le_refl _) ?m5)
        case m1 => rfl
        case m2 => rfl
        case m3 => omega
        case m5 =>
          intro w1 hown hg hlt
          have HO := Lib.hid hown
          have hb : Below w.heap.size w w1 := (Below.refl _ _).grown hg (Nat.le_refl _) (by simp)
          have HB := Lib.hid hb
          clear hown hg hb
          go_wp2_with (with_reducible refine wl_copy TB rfl (.tmp 19) (.tmp 20) rfl _ k k rfl A m c rfl w.heap.size _ HO.out B (bv l) ?c1 (bv_one l) ?c2)
          case c1 => exact HR.out.below (HB.out.mono hB)
          case c2 =>
            intro w2 hown2 hg2
            have HO2 := Lib.hid hown2
            have HG2 := Lib.hid hg2
            clear hown2 hg2
            go_wp2
            go_ret2
            refine ⟨_, k, k, rfl, ?_, ?_, HB.out.grown HG2.out HB.out.size (by simp [Value.ownBlock])⟩
            · simp [HL.out]; omega
            · have h := HO2.out
              have e3 : (bv l).take k ++ (bv (zs k)).drop m = bv (l ++ List.replicate (k - m) 0) := by
                rw [List.take_of_length_le (by rw [length_bv, HL.out]; omega), bv_append]
                simp [bv, zs]
              rw [e3] at h
              exact h

end Go.Proofs.Ytobmopjfbgkfbaa
