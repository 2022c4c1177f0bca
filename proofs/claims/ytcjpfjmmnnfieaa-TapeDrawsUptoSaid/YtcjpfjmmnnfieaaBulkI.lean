/-
  What the bound of an Upto statement gives: the lengths of lists of lists of ints. No statement of the seat is proved here.
-/
import Derived.Test.YtcjpfjmmnnfieaaBulk
import Derived.Test.YtcjpfjmmnnfieaaDrawsLaw
namespace Go.Proofs.Ytcjpfjmmnnfieaa.bulks
open Go Go.Sh

theorem il_le {H : Type} {ds : List (DataW H)} {d : DataW H} {zss : List (List Int)} (hk : Rows.uptoBulkAll ds ≤ 1048576) (hm : d ∈ ds) (h : HasIL d zss) : zss.length ≤ 1048576 ∧ ∀ i, i < zss.length → (ilat zss i).length ≤ 1048576 := by
  have h1 := mem_le hm
  rcases h with ⟨rfl, rfl⟩ | ⟨es, sp, rfl, hl, hi⟩
  · exact ⟨by simp, fun i hi => by simp at hi⟩
  · rw [Rows.uptoBulk] at h1
    have h2 := count_le es
    refine ⟨by omega, fun i hin => ?_⟩
    obtain ⟨di, hdi, hlen⟩ := hi i hin
    have h3 := mem_le (List.mem_of_getElem? hdi)
    have h4 := slice_le hlen
    omega
end Go.Proofs.Ytcjpfjmmnnfieaa.bulks
