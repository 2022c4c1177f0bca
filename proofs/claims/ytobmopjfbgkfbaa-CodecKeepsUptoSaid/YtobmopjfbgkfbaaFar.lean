/-
  Words: what is read in blocks other than the one that turned reads as before; a list of lists of the call's own, joined by append with another. Over any program; no statement of the seat is proved here.
-/
import Derived.Test.YtobmopjfbgkfbaaRowsOf
import Derived.Test.YtobmopjfbgkfbaaApartLit
namespace Go.Sh
open Go Go.RowKit

theorem Reads.far {w w' : World} {B size n p : Nat} {A : Option Addr} {xs : List Value} (h : Reads w B size A n xs) (hg : w.grownBy w' (some p)) (hB : B ≤ w.heap.size) (hne : ∀ ad, A = some ad → ad.block ≠ p) : Reads w' B size A n xs := by
  refine ⟨h.1, h.2.imp id ?_⟩
  rintro ⟨ad, e, hb, hc⟩
  refine ⟨ad, e, hb, fun j hj => ?_⟩
  rw [hg.cell_far (ad.add j) (by rw [block_of_add]; omega) (by rw [block_of_add]; intro h; injection h with h; exact hne ad e h)]
  exact hc j hj
theorem grown_of_below' {w w' : World} (h : Below w.heap.size w w') (row : Option Nat) : w.grownBy w' row := ⟨h.os, h.tape, h.output, h.size, fun k hk _ => h.block k hk⟩
theorem OBV.one {w : World} {base e t m : Nat} {v : Value} {ls : List (List UInt8)} {vs : List Value} (h : OBV w base e t v m ls vs) : ∀ u ∈ vs, u.oneCell' = true := by
  intro u hu
  obtain ⟨i, hi, rfl⟩ := List.getElem_of_mem hu
  obtain ⟨A, n, c, h1, _⟩ := h.2.2.1 i (by rw [← h.len]; exact hi)
  rw [List.getElem?_eq_getElem hi] at h1
  rw [Option.some.inj h1]
  rfl
/-- two lists of lists, the second's rows above the first's, appended -/
theorem OBV.join {w w' : World} {base e t m m2 T : Nat} {v v2 v' : Value} {ls ls2 : List (List UInt8)} {vs vs2 : List Value} (h : OBV w base e t v m ls vs) (h2 : OBV w base e t v2 m2 ls2 vs2)
    (hT : ∀ u ∈ vs, ∀ k, u.ownBlock = some k → k < T) (hX : ∀ u ∈ vs2, ∀ k, u.ownBlock = some k → T ≤ k) (hne : e ≠ t) (hg : w.grownBy w' v.ownBlock) (ho : w'.ownsRow base t 1 v' (m + m2) (vs ++ vs2)) :
    OBV w' base e t v' (m + m2) (ls ++ ls2) (vs ++ vs2) := by
  have hl1 := h.len
  have hl2 := h2.len
  refine OBV.of_sep (by rw [List.length_append, h.1, h2.1]) ho ?_ (Sep.app T h.2.2.2 h2.2.2.2 hT hX)
  intro i u hu
  by_cases hi : i < m
  · rw [List.getElem?_append_left (by omega)] at hu
    obtain ⟨A, n, c, h3, h4⟩ := h.2.2.1 i hi
    rw [hu] at h3
    obtain rfl := Option.some.inj h3
    refine ⟨A, n, c, rfl, ?_⟩
    have e1 : lat (ls ++ ls2) i = lat ls i := by simp [lat, List.getElem?_append_left (show i < ls.length by rw [h.1]; exact hi)]
    rw [e1]
    exact h4.kept hg (own_ne h4 h.2.1 hne)
  · rw [List.getElem?_append_right (by omega)] at hu
    have hi2 : i - vs.length < m2 := by have := (List.getElem?_eq_some_iff.1 hu).1; omega
    obtain ⟨A, n, c, h3, h4⟩ := h2.2.2.1 (i - vs.length) hi2
    rw [hu] at h3
    obtain rfl := Option.some.inj h3
    refine ⟨A, n, c, rfl, ?_⟩
    have e1 : lat (ls ++ ls2) i = lat ls2 (i - vs.length) := by
      simp [lat, List.getElem?_append_right (show ls.length ≤ i by rw [h.1]; omega), h.1, hl1]
    rw [e1]
    exact h4.kept hg (own_ne h4 h.2.1 hne)
theorem OBV.kept_t {w w' : World} {base e t m : Nat} {v x : Value} {ls : List (List UInt8)} {vs : List Value} {n size base' : Nat} {xs : List Value} (h : OBV w base e t v m ls vs) (hx : w.ownsRow base' t size x n xs) (hvx : v.ownBlock = none ∨ v.ownBlock ≠ x.ownBlock) (hne : e ≠ t) (hg : w.grownBy w' x.ownBlock) : OBV w' base e t v m ls vs := by
  obtain ⟨h1, ho, hi, hs⟩ := h
  refine ⟨h1, ho.kept hg hvx, fun i hin => ?_, hs⟩
  obtain ⟨A, m, c, h3, h4⟩ := hi i hin
  exact ⟨A, m, c, h3, h4.kept hg (own_ne h4 hx hne)⟩
end Go.Sh
