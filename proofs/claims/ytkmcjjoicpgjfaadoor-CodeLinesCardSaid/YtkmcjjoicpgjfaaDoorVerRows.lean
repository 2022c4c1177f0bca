/-
  A slice that came in, of whatever elements: its rows, and what the reader says of each. No statement of the seat is proved here.
-/
import Derived.Test.YtkmcjjoicpgjfaaDoorNodesOpen
import Derived.Test.YtkmcjjoicpgjfaaDoorPrg
namespace Go.Proofs.YtkmcjjoicpgjfaaDoor
open Go Go.RowKit Go.Sh Go.ChangeShapes Go.WideShapes Go.ChangeAt

section
variable {H : Type} {enc : TypeId × Value → H} {W : World}
/-- what the data of a slice of n elements of type e says: each element's cells were read -/
def Rowed (enc : TypeId × Value → H) (W : World) (e : TypeId) (d : DataW H) (n : Nat) (css : List (List Value)) : Prop :=
  (d = .nil ∧ n = 0) ∨ ∃ es sp : List (DataW H), d = .slice es sp ∧ es.length = n ∧ ∀ (i : Nat) (cs : List Value), css[i]? = some cs → ∃ (q : Nat) (y : DataW H × List MemPlace), DataW.trod enc Tryd.prog W 0 (fun _ => true) true q e cs = some y ∧ es[i]? = some y.1
theorem Rowed.has {e : TypeId} {d : DataW H} {n : Nat} {css : List (List Value)} (h : Rowed enc W e d n css) : HasLen d n := by
  rcases h with h | ⟨es, sp, h1, h2, _⟩
  · exact .inl h
  · exact .inr ⟨es, sp, h1, h2⟩
set_option maxRecDepth 100000 in
theorem open_rows {t e : TypeId} {size fuel : Nat} {v : Value} {y : DataW H × List MemPlace} (ht : Tryd.prog.underlying t = some (.slice e)) (hs : Tryd.prog.cellsOf e = size) (h0 : 0 < size)
    (hf : DataW.trod enc Tryd.prog W 0 (fun _ => true) true fuel t [v] = some y) :
    ∃ A n c css, v = .slice A n c ∧ RR W W.heap.size size A n css ∧ n ≤ c ∧ Rowed enc W e y.1 n css := by
  rcases Go.Deep.open_slice ht hf with ⟨hcs, hx⟩ | ⟨a, n, c, m, q, D, Pl, hcs, _, hl, _, hm, hx, hi⟩
  · obtain rfl : v = .slice none 0 0 := by simpa using hcs
    subst hx
    exact ⟨none, 0, 0, [], rfl, ⟨rfl, (fun _ h => by cases h), .inl rfl⟩, Nat.le_refl _, .inl ⟨rfl, rfl⟩⟩
  · obtain rfl : v = .slice (some a) n c := by simpa using hcs
    subst hx
    simp only [if_true] at hm
    subst hm
    have key : ∀ i, i < n → ∃ cs : List Value, cs.length = size ∧ (∀ j v, cs[j]? = some v → W.cell? (a.add (i * size + j)) = some v) ∧ DataW.trod enc Tryd.prog W 0 (fun _ => true) true q e cs = some (D i, Pl i) := by
      intro i hin
      obtain ⟨cs', hc, ht'⟩ := hi i (by omega)
      rw [hs] at hc
      obtain ⟨_, hcl, hat⟩ := World.cells?_some hc
      refine ⟨cs', hcl, fun j v hv => ?_, ht'⟩
      have hj : j < size := by have := (List.getElem?_eq_some_iff.1 hv).1; omega
      have := hat j hj
      rw [Go.Deep.add_add, hv] at this
      exact this
    obtain ⟨f, hfn⟩ := Go.Deep.choose_lt key
    refine ⟨some a, n, m, (List.range n).map f, rfl, ⟨by simp, fun cs hcs => ?_, ?_⟩, hl, .inr ⟨_, _, rfl, by simp, fun i cs hc => ?_⟩⟩
    · obtain ⟨i, hin, rfl⟩ := List.mem_map.1 hcs
      exact (hfn i (List.mem_range.1 hin)).1
    · rcases Nat.eq_zero_or_pos n with hn | hn
      · left
        rw [hn]
        rfl
      · right
        obtain ⟨hl0, hx0, _⟩ := hfn 0 hn
        have hx0 := hx0 0 _ (List.getElem?_eq_getElem (by omega))
        obtain ⟨b, off, spot⟩ := a
        have hspot : spot = none := by simpa [Addr.add] using World.cell?_spot hx0
        subst hspot
        have hlt : b < W.heap.size := by
          have := World.block_lt_of_cell? W _ hx0
          rw [block_of_add] at this
          exact this
        refine ⟨b, off, rfl, hlt, fun i cs hc j v hv => ?_⟩
        have hin : i < n := by have := (List.getElem?_eq_some_iff.1 hc).1; simpa using this
        have e : cs = f i := by simpa [hin] using hc.symm
        rw [e] at hv
        have := (hfn i hin).2.1 j v hv
        rw [add_mk] at this
        rw [Nat.add_assoc]
        exact this
    · have hin : i < n := by have := (List.getElem?_eq_some_iff.1 hc).1; simpa using this
      have e : cs = f i := by simpa [hin] using hc.symm
      exact ⟨q, (D i, Pl i), by rw [e]; exact (hfn i hin).2.2, by simp [hin]⟩
end
end Go.Proofs.YtkmcjjoicpgjfaaDoor
