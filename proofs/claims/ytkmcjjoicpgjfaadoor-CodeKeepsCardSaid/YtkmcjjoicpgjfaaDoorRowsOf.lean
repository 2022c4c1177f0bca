/-
  Words for lists of lists of bytes of the call's own whose rows are apart from one another. Over any program; no statement of the seat is proved here.
-/
import Derived.Test.YtkmcjjoicpgjfaaDoorWords
namespace Go.Sh
open Go Go.RowKit

/-- no two of these slices share a block -/
def Sep (vs : List Value) : Prop := ∀ (i j : Nat) (u v : Value), i < j → vs[i]? = some u → vs[j]? = some v → u.ownBlock = none ∨ u.ownBlock ≠ v.ownBlock
/-- v is a row of the call's own that holds the slices vs, each a row of the call's own, apart from one another; they read as the lists ls (e: a byte's type, t: []byte's) -/
def OBV (w : World) (base e t : Nat) (v : Value) (m : Nat) (ls : List (List UInt8)) (vs : List Value) : Prop :=
  ls.length = m ∧ w.ownsRow base t 1 v m vs ∧ (∀ i, i < m → ∃ Ai ni ci, vs[i]? = some (.slice Ai ni ci) ∧ w.ownsRow base e 1 (.slice Ai ni ci) ni (bv (lat ls i))) ∧ Sep vs
theorem far_own {w : World} {base e size n p : Nat} {v : Value} {xs : List Value} (h : w.ownsRow base e size v n xs) (hp : p < base) : v.ownBlock = none ∨ v.ownBlock ≠ some p := by
  cases hv : v.ownBlock with
  | none => exact .inl rfl
  | some g =>
    right
    intro he
    have := (h.lt g hv).1
    injection he with he
    omega
section
variable {w w' : World} {base e t m : Nat} {v : Value} {ls : List (List UInt8)} {vs : List Value}
theorem OBV.obb (h : OBV w base e t v m ls vs) : OBB w base e t v m ls := ⟨h.1, vs, h.2.1, h.2.2.1⟩
theorem OBV.len (h : OBV w base e t v m ls vs) : vs.length = m := by have := h.2.1.1; omega
theorem OBV.nil (w : World) (base e t : Nat) : OBV w base e t (.slice none 0 0) 0 [] [] := ⟨rfl, World.ownsRow_nil _ _ _ _, fun i hi => absurd hi (by omega), fun i j u v _ hu => by simp at hu⟩
theorem OBV.made {A : Option Addr} {c : Nat} (h : w.ownsRow base t 1 (.slice A 0 c) 0 []) : OBV w base e t (.slice A 0 c) 0 [] [] := ⟨rfl, h, fun i hi => absurd hi (by omega), fun i j u v _ hu => by simp at hu⟩
theorem OBV.later (h : OBV w base e t v m ls vs) (hb : Below w.heap.size w w') : OBV w' base e t v m ls vs := by
  obtain ⟨h1, ho, hi, hs⟩ := h
  refine ⟨h1, own_later ho hb, fun i hin => ?_, hs⟩
  obtain ⟨Ai, ni, ci, hv, hrow⟩ := hi i hin
  exact ⟨Ai, ni, ci, hv, own_later hrow hb⟩
theorem OBV.drewN (h : OBV w base e t v m ls vs) (k : Nat) : OBV (w.drewN k) base e t v m ls vs := h
theorem OBV.base_le {base' : Nat} (h : OBV w base e t v m ls vs) (hb : base' ≤ base) : OBV w base' e t v m ls vs := by
  obtain ⟨h1, ho, hi, hs⟩ := h
  refine ⟨h1, own_base ho hb, fun i hin => ?_, hs⟩
  obtain ⟨Ai, ni, ci, hv, hrow⟩ := hi i hin
  exact ⟨Ai, ni, ci, hv, own_base hrow hb⟩
theorem OBV.kept {p : Nat} (h : OBV w base e t v m ls vs) (hg : w.grownBy w' (some p)) (hp : p < base) : OBV w' base e t v m ls vs := by
  obtain ⟨h1, ho, hi, hs⟩ := h
  refine ⟨h1, ho.kept hg (far_own ho hp), fun i hin => ?_, hs⟩
  obtain ⟨Ai, ni, ci, hv, hrow⟩ := hi i hin
  exact ⟨Ai, ni, ci, hv, hrow.kept hg (far_own hrow hp)⟩
theorem OBV.lt (h : OBV w base e t v m ls vs) : ∀ u ∈ vs, ∀ k, u.ownBlock = some k → base ≤ k ∧ k < w.heap.size := by
  intro u hu k hk
  obtain ⟨i, hi, rfl⟩ := List.getElem_of_mem hu
  obtain ⟨Ai, ni, ci, hv, hrow⟩ := h.2.2.1 i (by rw [← h.len]; exact hi)
  rw [List.getElem?_eq_getElem hi] at hv
  have e := Option.some.inj hv
  rw [e] at hk
  exact hrow.lt k hk
set_option maxRecDepth 100000 in
/-- one list more is put behind by append; its row lies at T or above, the others below -/
theorem OBV.snoc {A : Option Addr} {c T : Nat} (h : OBV w base e t v m ls vs) {Ai : Option Addr} {ni ci : Nat} {l : List UInt8} (hx : w.ownsRow base e 1 (.slice Ai ni ci) ni (bv l)) (hT : ∀ u ∈ vs, ∀ k, u.ownBlock = some k → k < T) (hX : ∀ k, (Value.slice Ai ni ci).ownBlock = some k → T ≤ k)
    (hne : e ≠ t) (hg : w.grownBy w' v.ownBlock) (ho : w'.ownsRow base t 1 (.slice A (m + 1) c) (m + 1) (vs ++ [.slice Ai ni ci])) : OBV w' base e t (.slice A (m + 1) c) (m + 1) (ls ++ [l]) (vs ++ [.slice Ai ni ci]) := by
  have hvl := h.len
  obtain ⟨h1, hus, hi, hs⟩ := h
  refine ⟨by simp [h1], ho, fun i hin => ?_, ?_⟩
  · by_cases hlt : i < m
    · obtain ⟨Aj, nj, cj, hv, hrow⟩ := hi i hlt
      refine ⟨Aj, nj, cj, by rw [List.getElem?_append_left (by omega)]; exact hv, ?_⟩
      have e1 : lat (ls ++ [l]) i = lat ls i := by simp [lat, List.getElem?_append_left (show i < ls.length by omega)]
      rw [e1]
      exact hrow.kept hg (own_ne hrow hus hne)
    · obtain rfl : i = m := by omega
      refine ⟨Ai, ni, ci, by rw [List.getElem?_append_right (by omega), hvl, Nat.sub_self]; rfl, ?_⟩
      have e1 : lat (ls ++ [l]) i = l := by simp [lat, ← h1]
      rw [e1]
      exact hx.kept hg (own_ne hx hus hne)
  · intro i j u x hij hu hx'
    have hjl : j < (vs ++ [Value.slice Ai ni ci]).length := (List.getElem?_eq_some_iff.1 hx').1
    simp only [List.length_append, List.length_singleton] at hjl
    rw [List.getElem?_append_left (by omega)] at hu
    by_cases hjm : j < vs.length
    · rw [List.getElem?_append_left hjm] at hx'
      exact hs i j u x hij hu hx'
    · obtain rfl : j = vs.length := by omega
      rw [List.getElem?_append_right (Nat.le_refl _), Nat.sub_self] at hx'
      have hx'' : Value.slice Ai ni ci = x := by simpa using hx'
      subst hx''
      cases hub : u.ownBlock with
      | none => exact .inl rfl
      | some k =>
        right
        intro he
        have a1 := hT u (List.mem_of_getElem? hu) k hub
        have a2 := hX k he.symm
        omega
/-- one of the lists is written anew in its place -/
theorem OBV.put (h : OBV w base e t v m ls vs) {i : Nat} (him : i < m) {Ai : Option Addr} {ni ci : Nat} (hv : vs[i]? = some (.slice Ai ni ci)) {l' : List UInt8} (hrow' : w'.ownsRow base e 1 (.slice Ai ni ci) ni (bv l')) (hg : w.grownBy w' (Value.slice Ai ni ci).ownBlock) (hne : e ≠ t) : OBV w' base e t v m (ls.set i l') vs := by
  obtain ⟨h1, ho, hi, hs⟩ := h
  obtain ⟨A0, n0, c0, hv0, hrow0⟩ := hi i him
  rw [hv] at hv0
  have e0 := Option.some.inj hv0
  simp only [Value.slice.injEq] at e0
  obtain ⟨rfl, rfl, rfl⟩ := e0
  refine ⟨by simp [h1], ho.kept hg (by
    rcases own_ne hrow0 ho hne with hh | hh
    · rw [hh]
      cases v.ownBlock <;> simp
    · exact .inr (fun e => hh e.symm)), fun j hjm => ?_, hs⟩
  by_cases hji : j = i
  · subst hji
    refine ⟨Ai, ni, ci, hv, ?_⟩
    have e1 : lat (ls.set j l') j = l' := by simp [lat, h1, hjm]
    rw [e1]
    exact hrow'
  · obtain ⟨Aj, nj, cj, hvj, hrowj⟩ := hi j hjm
    refine ⟨Aj, nj, cj, hvj, ?_⟩
    have e1 : lat (ls.set i l') j = lat ls j := by simp [lat, Ne.symm hji]
    rw [e1]
    refine hrowj.kept hg ?_
    rcases Nat.lt_or_ge i j with hlt | hge
    · rcases hs i j _ _ hlt hv hvj with hh | hh
      · rw [hh]
        cases (Value.slice Aj nj cj).ownBlock <;> simp
      · exact .inr (fun e => hh e.symm)
    · exact hs j i _ _ (by omega) hvj hv
end
end Go.Sh
