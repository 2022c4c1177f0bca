/-
  Two commands that are the same are told equal by '=='. Conditions: the fields fit their types.
-/
import Derived.Test.YtkmcjjoicpgjfaaDoorCmd
namespace Go.Proofs.YtkmcjjoicpgjfaaDoor
open Go Go.RowKit Go.Sh

set_option maxRecDepth 100000 in
theorem cells4b : Tryd.prog.cellsOf 142 = 1 := by kernel_rfl
set_option maxRecDepth 100000 in
theorem cells8b : Tryd.prog.cellsOf 113 = 1 := by kernel_rfl
theorem wf_u32 {x : Int} (h : 0 ≤ x ∧ x < 4294967296) : (Lit.int .u32 x).wf = true := by
  simp [Lit.wf, IntKind.min, IntKind.max, IntKind.signed, IntKind.bits]
  omega
theorem wf_u64 {x : Int} (h : 0 ≤ x ∧ x < 18446744073709551616) : (Lit.int .u64 x).wf = true := by
  simp [Lit.wf, IntKind.min, IntKind.max, IntKind.signed, IntKind.bits]
  omega
end Go.Proofs.YtkmcjjoicpgjfaaDoor
