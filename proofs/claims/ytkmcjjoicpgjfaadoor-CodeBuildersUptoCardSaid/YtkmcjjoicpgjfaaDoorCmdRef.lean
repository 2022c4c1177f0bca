/-
  Contracts of shallotref10.marked, Check and Encode: what the document's own code answers of a command. Conditions: the fields fit their types.
-/
import Derived.Test.YtkmcjjoicpgjfaaDoorCmdEnc
import Derived.Test.YtkmcjjoicpgjfaaDoorMid
namespace Go.Proofs.YtkmcjjoicpgjfaaDoor
open Go Go.RowKit Go.Sh

theorem mark_cell {w : World} {b : Nat} {c : Cmd} (hc : c.OK) (h : CmdAt w b c) {k : Nat} (hk : k < 16) : w.cell? ⟨b, 4 + k, none⟩ = some (.int .u8 (it c.m k)) := by
  have hk' : k < c.m.length := by rw [hc.l]; exact hk
  have := h.r (4 + k) (.int .u8 (it c.m k)) (by simp [Cmd.cells, Nat.add_comm 4 k, it, List.getElem?_eq_getElem hk'])
  rw [Nat.zero_add] at this
  exact this
theorem noMark_rep : noMark = List.replicate 16 0 := rfl
set_option maxRecDepth 100000 in
theorem noMark_of {c : Cmd} (hc : c.OK) (h : ∀ k, k < 16 → it c.m k = 0) : c.m = noMark := by
  rw [noMark_rep]
  refine List.eq_replicate_iff.2 ⟨hc.l, fun y hy => ?_⟩
  obtain ⟨i, hi, rfl⟩ := List.mem_iff_getElem.1 hy
  have := h i (by rw [hc.l] at hi; exact hi)
  rw [it, List.getD_eq_getElem?_getD, List.getElem?_eq_getElem hi] at this
  simpa using this
theorem it_noMark (k : Nat) : it noMark k = 0 := by
  rw [noMark_rep, it, List.getD_eq_getElem?_getD, List.getElem?_replicate]
  split <;> rfl

end Go.Proofs.YtkmcjjoicpgjfaaDoor
