/-
  Contract of shallotref04.words: the words of bytes, the least byte first, in new memory. No conditions but the sizes that a slice can have.
-/
import Derived.Test.YtkaakgabhhkggaaChaIni
namespace Go.Proofs.Ytkaakgabhhkggaa
open Go Go.RowKit Go.Sh

/-- words in new memory (or none) are handed back; nothing that was there has turned -/
def RetW (w : World) (s : List Int) (e : Ending) (w' : World) : Prop :=
  ∃ A n c, e = .returned (.slice A n c) ∧ s.length = n ∧ w'.ownsRow w.heap.size 35 1 (.slice A n c) n (wv s) ∧ Below w.heap.size w w'

theorem get_word (l : List UInt8) (n k : Nat) (h : 4 * k + 4 ≤ n) : getE 1 n ((4 * k : Nat) : Int) 4 = 0 ∧ ((getV 1 l n ((4 * k : Nat) : Int) 4 : Nat) : Int) = wd l (4 * k) := by
  have e : getE 1 n ((4 * k : Nat) : Int) 4 = 0 := by
    unfold getE
    rw [if_neg (by simp [okW]; omega), if_neg (by omega)]
  refine ⟨e, ?_⟩
  unfold getV
  rw [if_pos e, dig_one]
  rfl

end Go.Proofs.Ytkaakgabhhkggaa
