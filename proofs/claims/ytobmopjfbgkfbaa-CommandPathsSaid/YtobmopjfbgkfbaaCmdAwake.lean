/-
  Contract of shallotlaw10.awake: it returns true and writes nothing that was there. No conditions.
-/
import Derived.Test.YtobmopjfbgkfbaaCmdEnc
namespace Go.Proofs.Ytobmopjfbgkfbaa
open Go Go.RowKit Go.Sh

def awakeC : Cmd := ⟨1, 7, 258, 5, noMark⟩
theorem awakeC_ok : awakeC.OK := ⟨by decide, by decide, by decide, by decide, rfl, by unfold awakeC noMark; simp⟩
theorem awakeC_v : awakeC.v = .agg #[.int .u8 1, .int .u8 7, .int .u32 258, .int .u64 5, .int .u8 0, .int .u8 0, .int .u8 0, .int .u8 0, .int .u8 0, .int .u8 0, .int .u8 0, .int .u8 0, .int .u8 0, .int .u8 0, .int .u8 0, .int .u8 0, .int .u8 0, .int .u8 0, .int .u8 0, .int .u8 0] := rfl
theorem awakeC_check : checkN awakeC = 0 := by decide +kernel
def awakeL : List UInt8 := [1, 7, 0, 0, 1, 2, 0, 0, 0, 0, 0, 0, 0, 5]
theorem awakeC_enc : (encE awakeC).length = 32 ∧ (encE awakeC).take 14 = awakeL := by decide +kernel

set_option maxRecDepth 100000 in
theorem awake_any (w : World) : Calls Try.prog 32 #[] w (fun e w' => e = .returned (.bool true) ∧ Below w.heap.size w w') := by
  have HE := Lib.hid (fun W => Encode_any awakeC W awakeC_ok)
  rw [awakeC_v] at HE
  go_enter Try.func32, Try.ntmps32
  go_wp2_with fail
  refine (HE.out _).mono ?_
  rintro e w1 ⟨A, n, c, rfl, hn, ho, hb⟩
  rw [awakeC_check]
  rw [awakeC_enc.1] at hn
  subst hn
  have hc := own_cap ho
  have HR := Lib.hid (show RB w1 w1.heap.size A 14 awakeL by rw [← awakeC_enc.2]; exact (RB.of_own ho).take (k := 14) (by omega))
  have HB := Lib.hid hb
  clear ho hb HE
  have hsl := fun W => run_sl_hi TB W A 32 c .i64 14 (by omega)
  go_wp2_with fail
  refine (Equal_any _ _ _ _ _ _ awakeL awakeL _ w1.heap.size (w1.heap.size + 1) (HR.out.alloc (Nat.le_refl _) _) (RB.lit w1 _ awakeL _ rfl _ rfl) (by simp)).mono fun e w6 h => ?_
  obtain ⟨rfl, hb6⟩ := h.below
  rw [show decide (awakeL = awakeL) = true by decide]
  have HB6 := Lib.hid (HB.out.trans ((((Below.refl _ _).alloc (Nat.le_refl _) _).trans (hb6.mono (by simp))).mono HB.out.size))
  clear h hb6 HB HR
  go_wp2
  go_ret
  exact ⟨rfl, HB6.out⟩
end Go.Proofs.Ytobmopjfbgkfbaa
