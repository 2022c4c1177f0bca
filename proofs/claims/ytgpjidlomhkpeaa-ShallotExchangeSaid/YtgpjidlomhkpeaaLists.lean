/-
  Contracts of codec.Join, shallotref01.Join, shallotref01.Copies and shallotref01.Equals: both joins put the lists one behind the other in new memory; Copies copies them all; Equals tells whether two lists of lists are equal.
-/
import Derived.Test.YtgpjidlomhkpeaaCopy
namespace Go.Proofs.Ytgpjidlomhkpeaa
open Go Go.RowKit Go.Sh

set_option maxRecDepth 100000 in
theorem TBB : STy Try.prog 23 22 (.slice none 0 0) 1 24 := ⟨Try.underlying23, by kernel_rfl, rfl, by decide⟩

theorem sum_take (ls : List (List UInt8)) (k : Nat) (hk : k < ls.length) : (ls.take (k + 1)).flatten = (ls.take k).flatten ++ lat ls k := by
  rw [List.take_succ_eq_append_getElem hk, List.flatten_append]
  simp [lat, hk]
theorem sum_le (ls : List (List UInt8)) (k : Nat) : ((ls.take k).flatten).length ≤ ls.flatten.length := by
  have h : ls.flatten = (ls.take k).flatten ++ (ls.drop k).flatten := by rw [← List.flatten_append, List.take_append_drop]
  rw [h, List.length_append]
  omega
theorem one_le_sum (ls : List (List UInt8)) (k : Nat) (hk : k < ls.length) : ((ls.take k).flatten).length + (lat ls k).length ≤ ls.flatten.length := by
  have h := sum_le ls (k + 1)
  rw [sum_take ls k hk, List.length_append] at h
  exact h

/-- lists of bytes in new memory are handed back; nothing that was there has turned -/
def RetBB (w : World) (m : Nat) (ls : List (List UInt8)) (e : Ending) (w' : World) : Prop :=
  ∃ g c, e = .returned (.slice (some ⟨g, 0, none⟩) m c) ∧ OBB w' w.heap.size 5 22 (.slice (some ⟨g, 0, none⟩) m c) m ls ∧ Below w.heap.size w w'

theorem take_snoc (ls : List (List UInt8)) (k : Nat) (hk : k < ls.length) : ls.take (k + 1) = ls.take k ++ [lat ls k] := by
  rw [List.take_succ_eq_append_getElem hk]
  simp [lat, hk]

end Go.Proofs.Ytgpjidlomhkpeaa
