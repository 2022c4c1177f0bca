/-
  Contracts of shallotref04.Bytes and shallotref04.Stream. Conditions of Bytes: a key of 32 bytes, a place and a length within the longest stream.
-/
import Derived.Test.YtkaakgabhhkggaaChaPiece
import Derived.Test.YtkaakgabhhkggaaChaRef
namespace Go.Proofs.Ytkaakgabhhkggaa
open Go Go.RowKit Go.Sh

theorem sbytes_block (key : List UInt8) (q k : Nat) : sbytes key (64 * q) (64 * (k + 1)) = sbytes key (64 * q) (64 * k) ++ blk key (zs 12) ((q + k : Nat) : Int) := by
  have h := sbytes_add key (64 * q) (64 * k) 64 (by omega)
  have e1 : (64 * q + 64 * k) / 64 = q + k := by omega
  have e2 : (64 * q + 64 * k) % 64 = 0 := by omega
  rw [e1, e2, List.drop_zero, List.take_of_length_le (by rw [length_blk]; exact Nat.le_refl _)] at h
  exact h
theorem sbytes_cut (key : List UInt8) (a' m n t : Nat) (h : m + n ≤ t) : ((sbytes key a' t).drop m).take n = sbytes key (a' + m) n := by
  apply List.ext_getElem
  · simp only [List.length_take, List.length_drop, length_sbytes]
    omega
  · intro i h1 h2
    simp only [sbytes, rowf, List.getElem_take, List.getElem_drop, List.getElem_map, List.getElem_range]
    rw [Nat.add_assoc]

end Go.Proofs.Ytkaakgabhhkggaa
