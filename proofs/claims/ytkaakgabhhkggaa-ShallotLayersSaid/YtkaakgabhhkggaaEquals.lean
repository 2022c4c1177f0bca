/-
  Contract of shallotref01.Equals: whether two lists of lists of bytes are equal. (Cut out of the text on lists, for seats that have no joins.)
-/
import Derived.Test.YtkaakgabhhkggaaCopy
namespace Go.Proofs.Ytkaakgabhhkggaa
open Go Go.RowKit Go.Sh

set_option maxRecDepth 100000 in
theorem TBB : STy Try.prog 58 22 (.slice none 0 0) 1 24 := ⟨Try.underlying58, by kernel_rfl, rfl, by decide⟩

theorem take_snoc (ls : List (List UInt8)) (k : Nat) (hk : k < ls.length) : ls.take (k + 1) = ls.take k ++ [lat ls k] := by
  rw [List.take_succ_eq_append_getElem hk]
  simp [lat, hk]

end Go.Proofs.Ytkaakgabhhkggaa
