/-
  Two arrays of 32 bytes that are the same are told equal by '==' (and not told unequal by '!='). No conditions.
-/
import Derived.Test.YtobmopjfbgkfbaaShaFin
import Derived.Test.YtobmopjfbgkfbaaEqs
namespace Go.Proofs.Ytobmopjfbgkfbaa
open Go Go.RowKit Go.Sh

theorem list32 {l : List UInt8} (h : l.length = 32) : ∃ m0 m1 m2 m3 m4 m5 m6 m7 m8 m9 m10 m11 m12 m13 m14 m15 m16 m17 m18 m19 m20 m21 m22 m23 m24 m25 m26 m27 m28 m29 m30 m31, l = [m0, m1, m2, m3, m4, m5, m6, m7, m8, m9, m10, m11, m12, m13, m14, m15, m16, m17, m18, m19, m20, m21, m22, m23, m24, m25, m26, m27, m28, m29, m30, m31] := by
  match l, h with
  | [m0, m1, m2, m3, m4, m5, m6, m7, m8, m9, m10, m11, m12, m13, m14, m15, m16, m17, m18, m19, m20, m21, m22, m23, m24, m25, m26, m27, m28, m29, m30, m31], _ => exact ⟨m0, m1, m2, m3, m4, m5, m6, m7, m8, m9, m10, m11, m12, m13, m14, m15, m16, m17, m18, m19, m20, m21, m22, m23, m24, m25, m26, m27, m28, m29, m30, m31, rfl⟩
set_option maxRecDepth 100000 in
theorem cells32c : Try.prog.cellsOf 24 = 32 := by kernel_rfl
set_option maxRecDepth 100000 in
theorem cells1c : Try.prog.cellsOf 5 = 1 := by kernel_rfl
theorem wf_c (x : UInt8) : (Lit.int .u8 (x.toNat : Int)).wf = true := by
  have := x.toNat_lt
  simp [Lit.wf, IntKind.min, IntKind.max, IntKind.signed, IntKind.bits]
  omega
theorem sum_formed (l : List UInt8) (h : l.length = 32) : (Value.agg (bv l).toArray).formed Try.prog 24 = true := by
  simp [Value.formed, Try.underlying24, cells32c, length_bv, h]
set_option maxRecDepth 100000 in
set_option maxHeartbeats 4000000 in
theorem sum_lits (l : List UInt8) (h : l.length = 32) : Try.prog.keyLits 2 24 (Value.agg (bv l).toArray).cells.toList = some (l.map fun x => Lit.int .u8 (x.toNat : Int)) := by
  obtain ⟨m0, m1, m2, m3, m4, m5, m6, m7, m8, m9, m10, m11, m12, m13, m14, m15, m16, m17, m18, m19, m20, m21, m22, m23, m24, m25, m26, m27, m28, m29, m30, m31, rfl⟩ := list32 h
  have r32 : List.range 32 = [0, 1, 2, 3, 4, 5, 6, 7, 8, 9, 10, 11, 12, 13, 14, 15, 16, 17, 18, 19, 20, 21, 22, 23, 24, 25, 26, 27, 28, 29, 30, 31] := rfl
  simp [Program.keyLits, bv, Try.underlying24, Try.underlying5, Value.cells, cells32c, cells1c, r32, wf_c m0, wf_c m1, wf_c m2, wf_c m3, wf_c m4, wf_c m5, wf_c m6, wf_c m7, wf_c m8, wf_c m9, wf_c m10, wf_c m11, wf_c m12, wf_c m13, wf_c m14, wf_c m15, wf_c m16, wf_c m17, wf_c m18, wf_c m19, wf_c m20, wf_c m21, wf_c m22, wf_c m23, wf_c m24, wf_c m25, wf_c m26, wf_c m27, wf_c m28, wf_c m29, wf_c m30, wf_c m31]
set_option maxRecDepth 100000 in
/-- '==' on an array and itself -/
theorem sum_same (l : List UInt8) (h : l.length = 32) (w : World) : (Op.equalIn 10000 24 (.agg (bv l).toArray) (.agg (bv l).toArray)).run Try.prog w = .ok true w :=
  equalIn_keys (P := Try.prog) (t := 24) (m := 2) (by kernel_rfl) 10000 (by omega) (sum_formed l h) (sum_formed l h) (sum_lits l h) (sum_lits l h) _ (by simp) w
end Go.Proofs.Ytobmopjfbgkfbaa
