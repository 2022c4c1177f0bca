/-
  The sum of 'abc', as far as the law asks for it.
-/
import Derived.Test.YtobmopjfbgkfbaaShaFin
namespace Go.Proofs.Ytobmopjfbgkfbaa
open Go Go.RowKit Go.Sh
set_option maxRecDepth 100000 in
theorem abc_first : (sumB [97, 98, 99]).getD 0 0 = 186 := by kernel_rfl
set_option maxRecDepth 100000 in
theorem abc_last : (sumB [97, 98, 99]).getD 31 0 = 173 := by kernel_rfl
end Go.Proofs.Ytobmopjfbgkfbaa
