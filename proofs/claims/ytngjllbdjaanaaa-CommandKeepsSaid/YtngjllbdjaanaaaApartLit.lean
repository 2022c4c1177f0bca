/-
  A literal list of lists whose rows lie apart, each above the one ahead of it: it is fit for Apart. Over any program; no statement of the seat is proved here.
-/
import Derived.Test.YtngjllbdjaanaaaRowsOf
namespace Go.Sh
open Go Go.RowKit

/-- rows that lie one above the other: each entry is a slice, its list, and bounds of its block -/
structure Rw where
  v : Value
  l : List UInt8
  lo : Nat
  hi : Nat
def Rw.at (r : Rw) (w : World) (base e : Nat) : Prop := (∃ A n c, r.v = .slice A n c ∧ w.ownsRow base e 1 r.v n (bv r.l)) ∧ ∀ k, r.v.ownBlock = some k → r.lo ≤ k ∧ k < r.hi
/-- each lies above those ahead of it -/
def Rising (rs : List Rw) : Prop := ∀ (i j : Nat) (x y : Rw), i < j → rs[i]? = some x → rs[j]? = some y → x.hi ≤ y.lo
theorem Rw.own {w : World} {base e n c lo hi : Nat} {A : Option Addr} {l : List UInt8} (h : w.ownsRow base e 1 (.slice A n c) n (bv l)) (hk : ∀ k, (Value.slice A n c).ownBlock = some k → lo ≤ k ∧ k < hi) : Rw.at ⟨.slice A n c, l, lo, hi⟩ w base e := ⟨⟨A, n, c, rfl, h⟩, hk⟩
theorem Rw.at.later {w w' : World} {base e : Nat} {r : Rw} (h : r.at w base e) (hb : Below w.heap.size w w') : r.at w' base e := by
  obtain ⟨⟨A, n, c, h1, h2⟩, h3⟩ := h
  exact ⟨⟨A, n, c, h1, own_later h2 hb⟩, h3⟩
theorem OBV.of_rows {w : World} {base e t m : Nat} {v : Value} {rs : List Rw} (hl : rs.length = m) (ho : w.ownsRow base t 1 v m (rs.map Rw.v)) (hr : ∀ r ∈ rs, r.at w base e) (hs : Rising rs) : OBV w base e t v m (rs.map Rw.l) (rs.map Rw.v) := by
  refine ⟨by simpa using hl, ho, fun i hi => ?_, fun i j u x hij hu hx => ?_⟩
  · have hi' : i < rs.length := by omega
    obtain ⟨⟨A, n, c, h1, h2⟩, _⟩ := hr _ (List.getElem_mem hi')
    refine ⟨A, n, c, by rw [List.getElem?_map, List.getElem?_eq_getElem hi', Option.map_some, h1], ?_⟩
    rw [h1] at h2
    have e1 : lat (rs.map Rw.l) i = rs[i].l := by simp [lat, hi']
    rw [e1]
    exact h2
  · rw [List.getElem?_map] at hu hx
    obtain ⟨a, ha, rfl⟩ := Option.map_eq_some_iff.1 hu
    obtain ⟨b, hb, rfl⟩ := Option.map_eq_some_iff.1 hx
    have h1 := (hr a (List.mem_of_getElem? ha)).2
    have h2 := (hr b (List.mem_of_getElem? hb)).2
    have h3 := hs i j a b hij ha hb
    cases hk : a.v.ownBlock with
    | none => exact .inl rfl
    | some k =>
      right
      intro he
      have h4 := h1 k hk
      have h5 := h2 k he.symm
      omega
theorem Rising.nil : Rising [] := fun i j x y _ h => by simp at h
theorem Rising.cons {r : Rw} {rs : List Rw} (h : ∀ x ∈ rs, r.hi ≤ x.lo) (hs : Rising rs) : Rising (r :: rs) := by
  intro i j x y hij hx hy
  cases j with
  | zero => omega
  | succ j =>
    cases i with
    | zero =>
      obtain rfl : r = x := by simpa using hx
      exact h y (List.mem_of_getElem? (by simpa using hy))
    | succ i => exact hs i j x y (by omega) (by simpa using hx) (by simpa using hy)
end Go.Sh
