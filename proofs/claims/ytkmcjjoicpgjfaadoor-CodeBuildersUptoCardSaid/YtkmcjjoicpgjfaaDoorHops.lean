/-
  Contract of shallotlaw10.Hops: the program's hops with the same cells, in new memory. Conditions: the sizes that slices can have.
-/
import Derived.Test.YtkmcjjoicpgjfaaDoorHop
namespace Go.Proofs.YtkmcjjoicpgjfaaDoor
open Go Go.RowKit Go.Sh

def zHop : Hp := ⟨⟨#[]⟩, 0, List.replicate 64 (.int .u8 0), 0, 0⟩
theorem zHop_ok : zHop.OK := ⟨by decide, by decide, fun v hv => by rw [List.eq_of_mem_replicate hv]; rfl, by decide, by decide⟩
end Go.Proofs.YtkmcjjoicpgjfaaDoor
