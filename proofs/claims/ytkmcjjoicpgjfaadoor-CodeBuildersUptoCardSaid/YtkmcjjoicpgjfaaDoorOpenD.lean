/-
  Slices of structs among the arguments, opened with their data; what the bound of an Upto statement gives of lists inside them. No statement of the seat is proved here.
-/
import Derived.Test.YtkmcjjoicpgjfaaDoorOpen
namespace Go.Sh
open Go Go.RowKit Go.ChangeShapes Go.WideShapes Go.ChangeAt

set_option maxRecDepth 100000 in
theorem openStructsD {H : Type} {enc : TypeId × Value → H} {P : Program} {W : World} {b0 : Nat} {r : Reach} {t e : TypeId} {fs : Array Field} {v : Value} {d : DataW H} {p : List MemPlace} (ht : P.underlying t = some (.slice e)) (he : P.underlying e = some (.struct fs))
    (hone : Go.Deep.oneCellFields P fs = true) (hC : P.cellsOf e = fs.size) (hpos : 0 < fs.size) (hok : Value.okWide P W r b0 t v) (h : DataW.Trod enc P W 0 (fun _ => true) true t v d p) :
    ∃ A n c, ∃ D : Nat → DataW H, v = .slice A n c ∧ n ≤ c ∧ ((d = .nil ∧ n = 0) ∨ ∃ sp, d = .slice ((List.range n).map D) sp) ∧ (0 < n → ∃ b off, A = some ⟨b, off, none⟩ ∧ b < W.heap.size ∧
      ∀ i, i < n → ∃ ys : List (DataW H × List MemPlace), ∃ fuel, D i = .agg (ys.map (·.1)) ∧ ys.length = fs.size ∧ ∀ j f, fs[j]? = some f → ∃ x y, ys[j]? = some y ∧ W.cell? ⟨b, off + (i * fs.size + j), none⟩ = some x ∧ DataW.trod enc P W 0 (fun _ => true) true fuel f.type [x] = some y) := by
  obtain ⟨A, n, c, rfl⟩ := okWide_slice ht hok
  obtain ⟨fuel, hf⟩ := h
  rcases Go.Deep.open_slice ht hf with ⟨hcs, hx⟩ | ⟨a, n', c', m, q, D, Pl, hcs, _, hl, _, hm, hx, hi⟩
  · simp [Value.cells] at hcs
    obtain ⟨rfl, rfl, rfl⟩ := hcs
    injection hx with hd _
    exact ⟨none, 0, 0, fun _ => .nil, rfl, Nat.le_refl _, .inl ⟨hd, rfl⟩, fun h => absurd h (by omega)⟩
  · simp [Value.cells] at hcs
    obtain ⟨rfl, rfl, rfl⟩ := hcs
    injection hx with hd _
    simp only [if_true] at hm
    subst hm
    refine ⟨some a, n, m, D, rfl, hl, .inr ⟨_, hd⟩, fun hn => ?_⟩
    have cellAt : ∀ i, i < n → ∀ j, j < fs.size → ∃ x, W.cell? (a.add (i * fs.size + j)) = some x := by
      intro i hin j hj
      obtain ⟨cs', hc, _⟩ := hi i (by omega)
      obtain ⟨_, hcl, hat⟩ := World.cells?_some hc
      rw [hC] at hat hcl
      have := hat j hj
      rw [Go.Deep.add_add, List.getElem?_eq_getElem (by omega)] at this
      exact ⟨_, this⟩
    obtain ⟨x0, hx0⟩ := cellAt 0 hn 0 hpos
    obtain ⟨b, off, spot⟩ := a
    have hspot : spot = none := by simpa [Addr.add] using World.cell?_spot hx0
    subst hspot
    have hlt : b < W.heap.size := by
      have := World.block_lt_of_cell? W _ hx0
      rw [block_of_add] at this
      exact this
    refine ⟨b, off, rfl, hlt, fun i hin => ?_⟩
    obtain ⟨cs', hc, ht'⟩ := hi i (by omega)
    obtain ⟨ys, q', _, hag, hlen, hyl, hfield⟩ := DataW.trod_struct he ht'
    obtain ⟨_, hcl, hat⟩ := World.cells?_some hc
    rw [hC] at hat hcl
    injection hag with hag _
    refine ⟨ys, q', hag, hyl, fun j f hj => ?_⟩
    have hjl : j < fs.size := (Array.getElem?_eq_some_iff.1 hj).1
    obtain ⟨ho, hk⟩ := Go.Deep.hone_of hone j f hj
    have h1 := hfield j f hj
    rw [ho, hk, List.drop_eq_getElem_cons (by omega), List.take_succ_cons, List.take_zero] at h1
    have hy : ys[j]? = some (ys[j]'(by omega)) := List.getElem?_eq_getElem (by omega)
    refine ⟨cs'[j]'(by omega), _, hy, ?_, by rw [← hy]; exact h1⟩
    have := hat j hjl
    rw [Go.Deep.add_add, add_mk, List.getElem?_eq_getElem (by omega)] at this
    exact this
end Go.Sh
