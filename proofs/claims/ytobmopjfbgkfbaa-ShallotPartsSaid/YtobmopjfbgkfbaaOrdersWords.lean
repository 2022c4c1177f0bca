/-
  A row of parts of the call's own: its block; a part's cells. No statement of the seat is proved here.
-/
import Derived.Test.YtobmopjfbgkfbaaOrders
namespace Go.Proofs.Ytobmopjfbgkfbaa
open Go Go.RowKit Go.Sh

theorem op_some {w : World} {base m c : Nat} {A : Option Addr} {ps : List Pt} {ss : List Value} (h : OP w base (.slice A m c) m ps ss) (hm : 0 < m) : ∃ g, A = some ⟨g, 0, none⟩ := by
  rcases h.2.2.1.2 with ⟨_, h0⟩ | ⟨g, cap, cur, hv, _⟩
  · omega
  · injection hv with hv
    exact ⟨g, hv⟩
/-- part k: its cells, where they lie -/
theorem OP.cells {w : World} {base m c g : Nat} {ps : List Pt} {ss : List Value} (h : OP w base (.slice (some ⟨g, 0, none⟩) m c) m ps ss) {k : Nat} (hk : k < m) :
    ∃ Ai ni ci, ss[k]? = some (.slice Ai ni ci) ∧ w.ownsRow base 5 1 (.slice Ai ni ci) ni (bv (pat ps k).d) ∧ w.cell? ⟨g, k * 5, none⟩ = some (.int .u8 (pat ps k).k) ∧ w.cell? ⟨g, k * 5 + 1, none⟩ = some (.int .u64 (pat ps k).id) ∧ w.cell? ⟨g, k * 5 + 2, none⟩ = some (.int .i64 (pat ps k).ix) ∧ w.cell? ⟨g, k * 5 + 3, none⟩ = some (.int .i64 (pat ps k).ct) ∧ w.cell? ⟨g, k * 5 + 4, none⟩ = some (.slice Ai ni ci) := by
  obtain ⟨h1, h2, h3, h4⟩ := h
  obtain ⟨Ai, ni, ci, h5, h6⟩ := h4 k hk
  have hat : ∀ j v, (pcell (pat ps k) (.slice Ai ni ci))[j]? = some v → w.cell? ⟨g, k * 5 + j, none⟩ = some v := by
    intro j v hv
    have hc := h3.cells (g := g) rfl (k * 5 + j) v (pcells_at ps ss k j _ v (by omega) h5 hv)
    rw [add_mk, Nat.zero_add] at hc
    exact hc
  exact ⟨Ai, ni, ci, h5, h6, hat 0 _ rfl, hat 1 _ rfl, hat 2 _ rfl, hat 3 _ rfl, hat 4 _ rfl⟩

end Go.Proofs.Ytobmopjfbgkfbaa
