/-
  What holds between the loops of shallotref01.Apart, in plain words: lists marked so far, families of marked rows, the row of grown lists. No statement of the seat is proved here.
-/
import Derived.Test.YtobmopjfbgkfbaaApartWords
namespace Go.Sh
open Go Go.RowKit

/-- a slice value's length -/
def slen : Value → Nat
  | .slice _ n _ => n
  | _ => 0
theorem own_other {w w' : World} {base base' e e' size size' n n' : Nat} {u v : Value} {xs ys : List Value} (h : w.ownsRow base e size u n xs) (h' : w.ownsRow base' e' size' v n' ys) (hne : e ≠ e') (hg : w.grownBy w' v.ownBlock) : w'.ownsRow base e size u n xs :=
  h.kept hg (own_ne h h' hne)

/-- the lists ahead of i are marked, and list i up to q -/
def P1 (w : World) (base e : Nat) (vs : List Value) (i q : Nat) : Prop :=
  ∀ (j : Nat) (u : Value), vs[j]? = some u → ∃ l, w.ownsRow base e 1 u (slen u) (bv l) ∧ (j < i → l = marks j (slen u)) ∧ (j = i → l.take q = marks i q)
section
variable {w w' : World} {base e t i q : Nat} {vs : List Value}
theorem P1.start (h : ∀ (j : Nat) (u : Value), vs[j]? = some u → ∃ l, w.ownsRow base e 1 u (slen u) (bv l)) : P1 w base e vs 0 0 := by
  intro j u hu
  obtain ⟨l, hl⟩ := h j u hu
  exact ⟨l, hl, fun h => absurd h (by omega), fun _ => rfl⟩
theorem P1.drewN (h : P1 w base e vs i q) (k : Nat) : P1 (w.drewN k) base e vs i q := h
theorem P1.next {u : Value} (h : P1 w base e vs i (slen u)) (hu : vs[i]? = some u) : P1 w base e vs (i + 1) 0 := by
  intro j v hv
  obtain ⟨l, hl, h1, h2⟩ := h j v hv
  refine ⟨l, hl, fun hj => ?_, fun _ => rfl⟩
  by_cases hji : j < i
  · exact h1 hji
  · obtain rfl : j = i := by omega
    rw [hu] at hv
    obtain rfl := Option.some.inj hv
    have hlen : l.length = slen u := by have := hl.1; rw [length_bv] at this; omega
    rw [← h2 rfl, List.take_of_length_le (by omega)]
theorem P1.row (h : P1 w base e vs i q) {u : Value} (hu : vs[i]? = some u) : ∃ l, w.ownsRow base e 1 u (slen u) (bv l) ∧ l.take q = marks i q := by
  obtain ⟨l, hl, _, h2⟩ := h i u hu
  exact ⟨l, hl, h2 rfl⟩
theorem P1.put (h : P1 w base e vs i q) (hs : Sep vs) {u : Value} (hu : vs[i]? = some u) {l : List UInt8} (hl : w.ownsRow base e 1 u (slen u) (bv l)) (ht : l.take q = marks i q) (hq : q < slen u)
    (hrow : w'.ownsRow base e 1 u (slen u) (bv (l.set q (Go.Proofs.Ytobmopjfbgkfbaa.mk i q)))) (hg : w.grownBy w' u.ownBlock) : P1 w' base e vs i (q + 1) := by
  intro j v hv
  by_cases hji : j = i
  · subst hji
    rw [hu] at hv
    obtain rfl := Option.some.inj hv
    refine ⟨_, hrow, fun h => absurd h (by omega), fun _ => ?_⟩
    have hlen : l.length = slen u := by have := hl.1; rw [length_bv] at this; omega
    rw [List.take_set, List.take_succ_eq_append_getElem (by omega), ht, ← marks_app j q 1, List.set_append_right _ _ (by rw [length_marks]; exact Nat.le_refl _), length_marks, Nat.sub_self]
    simp [marksAt]
  · obtain ⟨l', hl', h1, h2⟩ := h j v hv
    refine ⟨l', hl'.kept hg ?_, h1, fun hj => absurd hj hji⟩
    rcases Nat.lt_or_ge i j with hlt | hge
    · rcases hs i j _ _ hlt hu hv with hh | hh
      · rw [hh]
        cases v.ownBlock <;> simp
      · exact .inr (fun e => hh e.symm)
    · exact hs j i _ _ (by omega) hv hu
theorem P1.fam (h : P1 w base e vs vs.length 0) (hs : Sep vs) : Fam w base e (vs.zipIdx.map fun x => (x.1, x.2, slen x.1)) := by
  have hm : ∀ u i n, (u, i, n) ∈ (vs.zipIdx.map fun x => (x.1, x.2, slen x.1)) → vs[i]? = some u ∧ n = slen u := by
    intro u i n hx
    obtain ⟨⟨a, b⟩, hab, he⟩ := List.mem_map.1 hx
    simp only [Prod.mk.injEq] at he
    obtain ⟨rfl, rfl, rfl⟩ := he
    exact ⟨List.mem_zipIdx_iff_getElem?.1 hab, rfl⟩
  refine ⟨fun u i n hx => ?_, fun u i n v j k g hx hy hug hvg => ?_⟩
  · obtain ⟨hu, rfl⟩ := hm u i n hx
    obtain ⟨l, hl, h1, _⟩ := h i u hu
    rw [h1 (List.getElem?_eq_some_iff.1 hu).1] at hl
    exact hl
  · obtain ⟨hu, _⟩ := hm u i n hx
    obtain ⟨hv, _⟩ := hm v j k hy
    rcases Nat.lt_trichotomy i j with hlt | heq | hgt
    · rcases hs i j _ _ hlt hu hv with hh | hh
      · rw [hh] at hug; cases hug
      · exact absurd (hug.trans hvg.symm) hh
    · exact heq
    · rcases hs j i _ _ hgt hv hu with hh | hh
      · rw [hh] at hvg; cases hvg
      · exact absurd (hvg.trans hug.symm) hh
end

/-- between the loops that append: the list l holds vs, its rows and those of the grown lists gs (in gv) are a family -/
structure P2 (w : World) (base top e t : Nat) (lv : Value) (m : Nat) (vs : List Value) (gv : Value) (k : Nat) (gs : List Value) (S : List (Value × Nat × Nat)) : Prop where
  fam : Fam w base e S
  mem : ∀ (i : Nat) (u : Value), vs[i]? = some u → (u, i, slen u) ∈ S
  lrow : w.ownsRow base t 1 lv m vs
  llt : ∀ g, lv.ownBlock = some g → g < top
  grow : w.ownsRow top t 1 gv k gs
  gmem : ∀ (q : Nat) (u : Value), gs[q]? = some u → ∃ A n c, u = .slice A n c ∧ (u, q % m, n) ∈ S ∧ n ≤ 140737488355328
section
variable {w w' : World} {base top e t m k : Nat} {lv gv : Value} {vs gs : List Value} {S : List (Value × Nat × Nat)}
theorem P2.later (h : P2 w base top e t lv m vs gv k gs S) (hb : Below w.heap.size w w') : P2 w' base top e t lv m vs gv k gs S :=
  ⟨h.fam.later hb, h.mem, own_later h.lrow hb, h.llt, own_later h.grow hb, h.gmem⟩
theorem P2.drewN (h : P2 w base top e t lv m vs gv k gs S) (n : Nat) : P2 (w.drewN n) base top e t lv m vs gv k gs S :=
  ⟨h.fam.drewN n, h.mem, h.lrow, h.llt, h.grow, h.gmem⟩
/-- a row of the family was appended to -/
theorem P2.app (h : P2 w base top e t lv m vs gv k gs S) (hne : e ≠ t) {u x : Value} {i n n' : Nat} (hu : (u, i, n) ∈ S) (hf : Fam w' base e ((x, i, n') :: S)) (hg : w.grownBy w' u.ownBlock) : P2 w' base top e t lv m vs gv k gs ((x, i, n') :: S) :=
  ⟨hf, fun j v hv => List.mem_cons_of_mem _ (h.mem j v hv), own_other h.lrow (h.fam.row u i n hu) (Ne.symm hne) hg, h.llt, own_other h.grow (h.fam.row u i n hu) (Ne.symm hne) hg, fun q v hv => by
    obtain ⟨A, n, c, e1, e2, e3⟩ := h.gmem q v hv
    exact ⟨A, n, c, e1, List.mem_cons_of_mem _ e2, e3⟩⟩
set_option maxRecDepth 100000 in
/-- one list more among the grown ones -/
theorem P2.snoc (h : P2 w base top e t lv m vs gv k gs S) (hne : e ≠ t) {A A' : Option Addr} {n c c' i : Nat} (hx : (.slice A n c, i, n) ∈ S) (hi : k % m = i) (hn : n ≤ 140737488355328) (ho : w'.ownsRow top t 1 (.slice A' (k + 1) c') (k + 1) (gs ++ [.slice A n c])) (hg : w.grownBy w' gv.ownBlock) :
    P2 w' base top e t lv m vs (.slice A' (k + 1) c') (k + 1) (gs ++ [.slice A n c]) S := by
  have hgl : gs.length = k := by have := h.grow.1; omega
  refine ⟨h.fam.kept hg fun u j n hu => own_ne (h.fam.row u j n hu) h.grow hne, h.mem, h.lrow.kept hg ?_, h.llt, ho, fun q u hu => ?_⟩
  · cases hv : lv.ownBlock with
    | none => exact .inl rfl
    | some g =>
      right
      intro he
      have h1 := h.llt g hv
      have h2 := (h.grow.lt g he.symm).1
      omega
  · by_cases hq : q < gs.length
    · rw [List.getElem?_append_left hq] at hu
      exact h.gmem q u hu
    · have hq2 : q < (gs ++ [Value.slice A n c]).length := (List.getElem?_eq_some_iff.1 hu).1
      simp only [List.length_append, List.length_singleton] at hq2
      obtain rfl : q = gs.length := by omega
      rw [List.getElem?_append_right (Nat.le_refl _), Nat.sub_self] at hu
      have he : Value.slice A n c = u := by simpa using hu
      subst he
      refine ⟨A, n, c, rfl, ?_, hn⟩
      rw [hgl, hi]
      exact hx
end
end Go.Sh
