/-
  Parts put together: which lists of parts are all the parts of one message, and what they are together. Plain; no statement of the seat is proved here.
-/
import Derived.Test.YtobmopjfbgkfbaaParts
namespace Go.Proofs.Ytobmopjfbgkfbaa
open Go Go.RowKit Go.Sh

/-- is there a part with index j among qs? -/
def hasIx (qs : List Pt) (j : Int) : Bool := qs.any fun p => p.ix == j
/-- the bytes of the parts with index j -/
def grp (qs : List Pt) (j : Int) : List UInt8 := ((qs.filter fun p => p.ix == j).map (·.d)).flatten
theorem hasIx_snoc (qs : List Pt) (p : Pt) (j : Int) : hasIx (qs ++ [p]) j = (hasIx qs j || p.ix == j) := by simp [hasIx]
theorem grp_snoc (qs : List Pt) (p : Pt) (j : Int) : grp (qs ++ [p]) j = grp qs j ++ (if p.ix = j then p.d else []) := by
  by_cases h : p.ix = j <;> simp [grp, h]
theorem grp_none {qs : List Pt} {j : Int} (h : hasIx qs j = false) : grp qs j = [] := by
  have : (qs.filter fun p => p.ix == j) = [] := by
    rw [List.filter_eq_nil_iff]
    intro p hp
    simp only [hasIx, List.any_eq_false] at h
    exact h p hp
  simp [grp, this]
theorem hasIx_false {qs : List Pt} {j : Int} : hasIx qs j = false ↔ ∀ i, i < qs.length → (pat qs i).ix ≠ j := by
  constructor
  · intro h i hi
    simp only [hasIx, List.any_eq_false] at h
    simpa using h _ (pat_mem hi)
  · intro h
    simp only [hasIx, List.any_eq_false]
    intro p hp
    obtain ⟨i, hi, rfl⟩ := List.getElem_of_mem hp
    have := h i hi
    simp only [pat, List.getD_eq_getElem?_getD, List.getElem?_eq_getElem hi, Option.getD_some] at this
    simpa using this
theorem pat_take {ps : List Pt} {k i : Nat} (h : i < k) : pat (ps.take k) i = pat ps i := by
  unfold pat
  simp only [List.getD_eq_getElem?_getD, List.getElem?_take, if_pos h]

/-- part k of ps goes with the parts before it -/
def goodAt (ps : List Pt) (k : Nat) : Bool :=
  (pat ps k).chk == 0 && (pat ps k).k == 1 && (pat ps k).id == (pat ps 0).id && (pat ps k).ct == (pat ps 0).ct && !hasIx (ps.take k) (pat ps k).ix
def allGood (ps : List Pt) : Bool := (List.range ps.length).all (goodAt ps)
theorem allGood_iff {ps : List Pt} : allGood ps = true ↔ ∀ i, i < ps.length → goodAt ps i = true := by simp [allGood]
theorem goodAt_iff {ps : List Pt} {k : Nat} : goodAt ps k = true ↔ (pat ps k).chk = 0 ∧ (pat ps k).k = 1 ∧ (pat ps k).id = (pat ps 0).id ∧ (pat ps k).ct = (pat ps 0).ct ∧ hasIx (ps.take k) (pat ps k).ix = false := by
  simp [goodAt, and_assoc]
def mrgE (ps : List Pt) : Int := if ps.length = 0 ∨ (ps.length : Int) ≠ (pat ps 0).ct then 2 else if allGood ps = true then 0 else 3
def mrgW (ps : List Pt) : List UInt8 := ((List.range 16).map fun (j : Nat) => grp ps (j : Int)).flatten
def mrgL (ps : List Pt) : List UInt8 := if mrgE ps = 0 then mrgW ps else []
theorem mrgE_zero {ps : List Pt} (h : mrgE ps = 0) : ps.length ≠ 0 ∧ (ps.length : Int) = (pat ps 0).ct ∧ allGood ps = true := by
  unfold mrgE at h
  split at h
  · omega
  · split at h
    · rename_i h1 h2
      refine ⟨fun e => h1 (.inl e), ?_, h2⟩
      by_cases h3 : (ps.length : Int) = (pat ps 0).ct
      · exact h3
      · exact absurd (.inr h3) h1
    · omega
theorem chk_ok' {p : Pt} (h : p.chk = 0) : (1 ≤ p.k ∧ p.k ≤ 3) ∧ p.d.length ≤ 450 ∧ (1 ≤ p.ct ∧ p.ct ≤ 16) ∧ 0 ≤ p.ix ∧ p.ix < p.ct := by
  unfold Pt.chk chk at h
  split at h
  · omega
  · split at h
    · omega
    · split at h
      · omega
      · omega
/-- all the parts are small, and so is what they are together -/
theorem sum_le_len (l : List (List UInt8)) (b : Nat) (h : ∀ x ∈ l, x.length ≤ b) : l.flatten.length ≤ l.length * b := by
  induction l with
  | nil => simp
  | cons x l ih =>
    rw [List.flatten_cons, List.length_append, List.length_cons, Nat.add_mul, Nat.one_mul]
    have := h x (by simp)
    have := ih (fun y hy => h y (List.mem_cons_of_mem _ hy))
    omega
theorem grp_le {qs : List Pt} {j : Int} (hd : ∀ p ∈ qs, p.d.length ≤ 450) (h1 : ∀ k, k < qs.length → hasIx (qs.take k) (pat qs k).ix = false) : (grp qs j).length ≤ 450 := by
  have h : ∀ n, (grp (qs.take n) j).length ≤ 450 := by
    intro n
    induction n with
    | zero => simp [grp]
    | succ n ih =>
      by_cases hn : n < qs.length
      · rw [take_psnoc qs n hn, grp_snoc]
        by_cases h : (pat qs n).ix = j
        · have := h1 n hn
          rw [h] at this
          rw [grp_none this, if_pos h, List.nil_append]
          exact hd _ (pat_mem hn)
        · rw [if_neg h, List.append_nil]
          exact ih
      · rw [List.take_of_length_le (by omega)]
        rw [List.take_of_length_le (by omega)] at ih
        exact ih
  have := h qs.length
  rwa [List.take_length] at this
/-- no part has an index beyond the count: so there is nothing there -/
theorem grp_beyond {ps : List Pt} {m : Nat} (h : ∀ i, i < ps.length → (pat ps i).ix < m) {j : Nat} (hj : m ≤ j) : grp ps (j : Int) = [] := by
  apply grp_none
  rw [hasIx_false]
  intro i hi e
  have := h i hi
  omega
theorem mrgW_short {ps : List Pt} {m : Nat} (h : ∀ i, i < ps.length → (pat ps i).ix < m) (hm : m ≤ 16) : mrgW ps = ((List.range m).map fun (j : Nat) => grp ps (j : Int)).flatten := by
  unfold mrgW
  have e : List.range 16 = List.range m ++ (List.range (16 - m)).map (m + ·) := by
    rw [← List.range_add]
    congr 1
    omega
  rw [e, List.map_append, List.flatten_append]
  have : (((List.range (16 - m)).map (m + ·)).map fun (j : Nat) => grp ps (j : Int)).flatten = [] := by
    rw [List.flatten_eq_nil_iff]
    intro x hx
    obtain ⟨j, hj, rfl⟩ := List.mem_map.1 hx
    obtain ⟨i, _, rfl⟩ := List.mem_map.1 hj
    exact grp_beyond h (by omega)
  rw [this, List.append_nil]
end Go.Proofs.Ytobmopjfbgkfbaa
