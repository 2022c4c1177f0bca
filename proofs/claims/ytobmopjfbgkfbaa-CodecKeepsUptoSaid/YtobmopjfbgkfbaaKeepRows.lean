/-
  Words for rows of the call's own that are apart from one another, in any order. Over any program; no statement of the seat is proved here.
-/
import Derived.Test.YtobmopjfbgkfbaaApartLit
import Derived.Test.YtobmopjfbgkfbaaFar
namespace Go.Sh
open Go Go.RowKit

/-- these two slices share no block -/
def Dst (u v : Value) : Prop := ∀ q, u.ownBlock = some q → v.ownBlock ≠ some q
theorem Dst.symm {u v : Value} (h : Dst u v) : Dst v u := fun q hq he => h q he hq
theorem Sep.app2 {us vs : List Value} (h1 : Sep us) (h2 : Sep vs) (h : ∀ u ∈ us, ∀ v ∈ vs, Dst u v) : Sep (us ++ vs) := by
  intro i j a b hij ha hb
  by_cases hj : j < us.length
  · rw [List.getElem?_append_left hj] at hb
    rw [List.getElem?_append_left (by omega)] at ha
    exact h1 i j a b hij ha hb
  · rw [List.getElem?_append_right (by omega)] at hb
    by_cases hi : i < us.length
    · rw [List.getElem?_append_left hi] at ha
      cases hk : a.ownBlock with
      | none => exact .inl rfl
      | some k => exact .inr fun he => h a (List.mem_of_getElem? ha) b (List.mem_of_getElem? hb) k hk he.symm
    · rw [List.getElem?_append_right (by omega)] at ha
      exact h2 (i - us.length) (j - us.length) a b (by omega) ha hb
theorem Sep.nil : Sep [] := fun i j u v _ hu => by simp at hu
theorem Sep.cons {u : Value} {vs : List Value} (h : Sep vs) (hu : ∀ v ∈ vs, Dst u v) : Sep (u :: vs) :=
  Sep.app2 (us := [u]) (Sep.one u) h (fun x hx v hv => by rw [List.mem_singleton] at hx; subst hx; exact hu v hv)
/-- this slice's block lies from lo up to below hi, if it has one -/
def Lain (u : Value) (lo hi : Nat) : Prop := ∀ k, u.ownBlock = some k → lo ≤ k ∧ k < hi
theorem Lain.dst {u v : Value} {lo hi lo' hi' : Nat} (hu : Lain u lo hi) (hv : Lain v lo' hi') (h : hi ≤ lo' ∨ hi' ≤ lo) : Dst u v := by
  intro q hq he
  have a1 := hu q hq
  have a2 := hv q he
  omega
theorem own_at {w w' : World} {base e n c p lo hi : Nat} {A : Option Addr} {xs : List Value} (h : w.ownsRow base e 1 (.slice A n c) n xs) (hk : Lain (.slice A n c) lo hi) (hp : hi ≤ p) (hg : w.grownBy w' (some p)) : w'.ownsRow base e 1 (.slice A n c) n xs :=
  h.kept hg (by
    cases hq : (Value.slice A n c).ownBlock with
    | none => exact .inl rfl
    | some g =>
      right
      intro he
      injection he with he
      have := (hk g hq).2
      omega)
theorem OBV.at_p {w w' : World} {base e t m p lo hi m2 c2 : Nat} {A2 : Option Addr} {ls : List (List UInt8)} {vs : List Value} (h : OBV w base e t (.slice A2 m2 c2) m ls vs) (hv : Lain (.slice A2 m2 c2) lo hi) (hk : ∀ u ∈ vs, Lain u lo hi) (hp : hi ≤ p) (hg : w.grownBy w' (some p)) : OBV w' base e t (.slice A2 m2 c2) m ls vs := by
  obtain ⟨h1, h2, h3, h4⟩ := h
  have hf : ∀ v : Value, Lain v lo hi → v.ownBlock = none ∨ v.ownBlock ≠ some p := fun v hv => by
    cases hq : v.ownBlock with
    | none => exact .inl rfl
    | some g =>
      right
      intro he
      injection he with he
      have := (hv g hq).2
      omega
  refine ⟨h1, h2.kept hg (hf _ hv), fun i hi => ?_, h4⟩
  obtain ⟨Ai, ni, ci, h5, h6⟩ := h3 i hi
  exact ⟨Ai, ni, ci, h5, h6.kept hg (hf _ (hk _ (List.mem_of_getElem? h5)))⟩
/-- two lists of lists, apart from one another, appended -/
theorem OBV.joinD {w w' : World} {base e t m m2 : Nat} {v v2 v' : Value} {ls ls2 : List (List UInt8)} {vs vs2 : List Value} (h : OBV w base e t v m ls vs) (h2 : OBV w base e t v2 m2 ls2 vs2)
    (hD : ∀ u ∈ vs, ∀ v ∈ vs2, Dst u v) (hne : e ≠ t) (hg : w.grownBy w' v.ownBlock) (ho : w'.ownsRow base t 1 v' (m + m2) (vs ++ vs2)) :
    OBV w' base e t v' (m + m2) (ls ++ ls2) (vs ++ vs2) := by
  have hl1 := h.len
  have hl2 := h2.len
  refine OBV.of_sep (by rw [List.length_append, h.1, h2.1]) ho ?_ (Sep.app2 h.2.2.2 h2.2.2.2 hD)
  intro i u hu
  by_cases hi : i < m
  · rw [List.getElem?_append_left (by omega)] at hu
    obtain ⟨A, n, c, h3, h4⟩ := h.2.2.1 i hi
    rw [hu] at h3
    obtain rfl := Option.some.inj h3
    refine ⟨A, n, c, rfl, ?_⟩
    have e1 : lat (ls ++ ls2) i = lat ls i := by simp [lat, List.getElem?_append_left (show i < ls.length by rw [h.1]; exact hi)]
    rw [e1]
    exact h4.kept hg (own_ne h4 h.2.1 hne)
  · rw [List.getElem?_append_right (by omega)] at hu
    have hi2 : i - vs.length < m2 := by have := (List.getElem?_eq_some_iff.1 hu).1; omega
    obtain ⟨A, n, c, h3, h4⟩ := h2.2.2.1 (i - vs.length) hi2
    rw [hu] at h3
    obtain rfl := Option.some.inj h3
    refine ⟨A, n, c, rfl, ?_⟩
    have e1 : lat (ls ++ ls2) i = lat ls2 (i - vs.length) := by
      simp [lat, List.getElem?_append_right (show ls.length ≤ i by rw [h.1]; omega), h.1, hl1]
    rw [e1]
    exact h4.kept hg (own_ne h4 h.2.1 hne)
end Go.Sh
