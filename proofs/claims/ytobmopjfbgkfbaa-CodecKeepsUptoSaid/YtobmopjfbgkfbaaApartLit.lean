/-
  A literal list of lists whose rows lie apart, each above the one ahead of it: it is fit for Apart. Over any program; no statement of the seat is proved here.
-/
import Derived.Test.YtobmopjfbgkfbaaRowsOf
namespace Go.Sh
open Go Go.RowKit

/-- rows that lie one above the other: each entry is a slice, its list, and bounds of its block -/
structure Rw where
  v : Value
  l : List UInt8
  lo : Nat
  hi : Nat
def Rw.at (r : Rw) (w : World) (base e : Nat) : Prop := (∃ A n c, r.v = .slice A n c ∧ w.ownsRow base e 1 r.v n (bv r.l)) ∧ ∀ k, r.v.ownBlock = some k → r.lo ≤ k ∧ k < r.hi
/-- each lies above those ahead of it -/
def Rising (rs : List Rw) : Prop := ∀ (i j : Nat) (x y : Rw), i < j → rs[i]? = some x → rs[j]? = some y → x.hi ≤ y.lo
theorem Rw.own {w : World} {base e n c lo hi : Nat} {A : Option Addr} {l : List UInt8} (h : w.ownsRow base e 1 (.slice A n c) n (bv l)) (hk : ∀ k, (Value.slice A n c).ownBlock = some k → lo ≤ k ∧ k < hi) : Rw.at ⟨.slice A n c, l, lo, hi⟩ w base e := ⟨⟨A, n, c, rfl, h⟩, hk⟩
theorem Rw.at.later {w w' : World} {base e : Nat} {r : Rw} (h : r.at w base e) (hb : Below w.heap.size w w') : r.at w' base e := by
  obtain ⟨⟨A, n, c, h1, h2⟩, h3⟩ := h
  exact ⟨⟨A, n, c, h1, own_later h2 hb⟩, h3⟩
set_option maxRecDepth 100000 in
theorem OBV.of_rows {w : World} {base e t m : Nat} {v : Value} {rs : List Rw} (hl : rs.length = m) (ho : w.ownsRow base t 1 v m (rs.map Rw.v)) (hr : ∀ r ∈ rs, r.at w base e) (hs : Rising rs) : OBV w base e t v m (rs.map Rw.l) (rs.map Rw.v) := by
  refine ⟨by simpa using hl, ho, fun i hi => ?_, fun i j u x hij hu hx => ?_⟩
  · have hi' : i < rs.length := by omega
    obtain ⟨⟨A, n, c, h1, h2⟩, _⟩ := hr _ (List.getElem_mem hi')
    refine ⟨A, n, c, by rw [List.getElem?_map, List.getElem?_eq_getElem hi', Option.map_some, h1], ?_⟩
    rw [h1] at h2
    have e1 : lat (rs.map Rw.l) i = rs[i].l := by simp [lat, hi']
    rw [e1]
    exact h2
  · rw [List.getElem?_map] at hu hx
    obtain ⟨a, ha, rfl⟩ := Option.map_eq_some_iff.1 hu
    obtain ⟨b, hb, rfl⟩ := Option.map_eq_some_iff.1 hx
    have h1 := (hr a (List.mem_of_getElem? ha)).2
    have h2 := (hr b (List.mem_of_getElem? hb)).2
    have h3 := hs i j a b hij ha hb
    cases hk : a.v.ownBlock with
    | none => exact .inl rfl
    | some k =>
      right
      intro he
      have h4 := h1 k hk
      have h5 := h2 k he.symm
      omega
theorem Rising.nil : Rising [] := fun i j x y _ h => by simp at h
set_option maxRecDepth 100000 in
theorem Rising.cons {r : Rw} {rs : List Rw} (h : ∀ x ∈ rs, r.hi ≤ x.lo) (hs : Rising rs) : Rising (r :: rs) := by
  intro i j x y hij hx hy
  cases j with
  | zero => omega
  | succ j =>
    cases i with
    | zero =>
      obtain rfl : r = x := by simpa using hx
      exact h y (List.mem_of_getElem? (by simpa using hy))
    | succ i => exact hs i j x y (by omega) (by simpa using hx) (by simpa using hy)
theorem Sep.one (u : Value) : Sep [u] := by
  intro i j a b hij ha hb
  have h1 := (List.getElem?_eq_some_iff.1 hb).1
  simp only [List.length_singleton] at h1
  omega
/-- lists that are apart, one behind the other, the second above the first -/
theorem Sep.app {us vs : List Value} (T : Nat) (h1 : Sep us) (h2 : Sep vs) (hu : ∀ u ∈ us, ∀ k, u.ownBlock = some k → k < T) (hv : ∀ v ∈ vs, ∀ k, v.ownBlock = some k → T ≤ k) : Sep (us ++ vs) := by
  intro i j a b hij ha hb
  by_cases hj : j < us.length
  · rw [List.getElem?_append_left hj] at hb
    rw [List.getElem?_append_left (by omega)] at ha
    exact h1 i j a b hij ha hb
  · rw [List.getElem?_append_right (by omega)] at hb
    by_cases hi : i < us.length
    · rw [List.getElem?_append_left hi] at ha
      cases hk : a.ownBlock with
      | none => exact .inl rfl
      | some k =>
        right
        intro he
        have h3 := hu a (List.mem_of_getElem? ha) k hk
        have h4 := hv b (List.mem_of_getElem? hb) k he.symm
        omega
    · rw [List.getElem?_append_right (by omega)] at ha
      exact h2 (i - us.length) (j - us.length) a b (by omega) ha hb
/-- a row of rows out of what each of them is -/
theorem OBV.of_sep {w : World} {base e t m : Nat} {v : Value} {vs : List Value} {ls : List (List UInt8)} (hl : ls.length = m) (ho : w.ownsRow base t 1 v m vs) (hr : ∀ i u, vs[i]? = some u → ∃ A n c, u = .slice A n c ∧ w.ownsRow base e 1 u n (bv (lat ls i))) (hs : Sep vs) : OBV w base e t v m ls vs := by
  refine ⟨hl, ho, fun i hi => ?_, hs⟩
  have hvl : vs.length = m := by have := ho.1; omega
  obtain ⟨A, n, c, h1, h2⟩ := hr i _ (List.getElem?_eq_getElem (by omega))
  exact ⟨A, n, c, by rw [List.getElem?_eq_getElem (by omega), h1], by rw [← h1]; exact h2⟩
end Go.Sh
