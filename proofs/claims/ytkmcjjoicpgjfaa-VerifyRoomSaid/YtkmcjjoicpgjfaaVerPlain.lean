/-
  The analysis of a program in plain Lean: it ends, and heights stay within the stack. No statement of the seat is proved here.
-/
import Derived.Test.YtkmcjjoicpgjfaaVerProc
namespace Go.Proofs.Ytkmcjjoicpgjfaa
open Go Go.RowKit Go.Sh

/-- what holds of an analysis on its way -/
structure Good (n : Nat) (s : St) : Prop where
  lh : s.hs.length = n
  lt : s.ts.length = n
  lw : s.wt.length = n
  fs : s.fs ≤ n
  hh : ∀ k, k < n → -1 ≤ it s.hs k ∧ it s.hs k ≤ 64
def negs (l : List Int) : Nat := (l.filter fun x => decide (x < 0)).length
def waits (l : List Bool) : Nat := (l.filter fun x => x).length
/-- the measure of an analysis -/
def mu (s : St) : Nat := 2 * negs s.hs + waits s.wt
set_option maxRecDepth 100000 in
theorem filter_set {α : Type} (f : α → Bool) : ∀ (l : List α) (k : Nat) (x y : α), l[k]? = some x → ((l.set k y).filter f).length + (if f x = true then 1 else 0) = (l.filter f).length + (if f y = true then 1 else 0)
  | [], k, x, y, h => by simp at h
  | a :: l, 0, x, y, h => by
    obtain rfl : a = x := by simpa using h
    simp only [List.set_cons_zero, List.filter_cons]
    split <;> split <;> simp
  | a :: l, k + 1, x, y, h => by
    have ih := filter_set f l k x y (by simpa using h)
    simp only [List.set_cons_succ, List.filter_cons]
    split
    · simp only [List.length_cons]; omega
    · exact ih
theorem it_some {l : List Int} {k : Nat} (h : k < l.length) : l[k]? = some (it l k) := by
  unfold it
  rw [List.getD_eq_getElem?_getD, List.getElem?_eq_getElem h]
  rfl
theorem bat_some {l : List Bool} {k : Nat} (h : k < l.length) : l[k]? = some (bat l k) := by
  unfold bat
  rw [List.getD_eq_getElem?_getD, List.getElem?_eq_getElem h]
  rfl
theorem it_set (l : List Int) (k j : Nat) (x : Int) (h : k < l.length) : it (l.set k x) j = if j = k then x else it l j := by
  unfold it
  rw [List.getD_eq_getElem?_getD, List.getD_eq_getElem?_getD, List.getElem?_set]
  by_cases hj : k = j
  · subst hj
    rw [if_pos rfl, if_pos h, if_pos rfl]
    rfl
  · rw [if_neg hj, if_neg (Ne.symm hj)]
theorem findS_good {n : Nat} {s : St} (hg : Good n s) (k : Nat) (h : Int) (t : Bool) (h0 : 0 ≤ h) (h1 : h ≤ 64) : Good n (findS n s (k : Int) h t).2 ∧ mu (findS n s (k : Int) h t).2 ≤ mu s := by
  unfold findS
  by_cases a1 : (n : Int) ≤ (k : Int)
  · rw [if_pos a1]; exact ⟨hg, Nat.le_refl _⟩
  · rw [if_neg a1, Int.toNat_natCast]
    have hk : k < n := by omega
    by_cases a2 : 0 ≤ it s.hs k
    · rw [if_pos a2]
      split
      · exact ⟨hg, Nat.le_refl _⟩
      · split <;> exact ⟨hg, Nat.le_refl _⟩
    · rw [if_neg a2]
      refine ⟨⟨by simp [hg.lh], by simp [hg.lt], by simp [hg.lw], by have := hg.fs; simp only; omega, fun j hj => ?_⟩, ?_⟩
      · simp only
        rw [it_set _ _ _ _ (by rw [hg.lh]; exact hk)]
        split
        · omega
        · exact hg.hh j hj
      · have e1 := filter_set (fun x => decide (x < 0)) s.hs k (it s.hs k) h (it_some (by rw [hg.lh]; exact hk))
        have e2 := filter_set (fun x : Bool => x) s.wt k (bat s.wt k) true (bat_some (by rw [hg.lw]; exact hk))
        rw [if_pos (by rw [decide_eq_true_eq]; omega), if_neg (by rw [decide_eq_true_eq]; omega)] at e1
        rw [if_pos rfl] at e2
        show 2 * ((s.hs.set k h).filter _).length + ((s.wt.set k true).filter _).length ≤ 2 * (s.hs.filter _).length + (s.wt.filter _).length
        have : (if bat s.wt k = true then 1 else 0) ≤ 1 := by split <;> omega
        omega
theorem findS_err (n : Nat) (s : St) (k : Int) (h : Int) (t : Bool) : (findS n s k h t).1 = 0 ∨ (findS n s k h t).1 = 10 ∨ (findS n s k h t).1 = 13 ∨ (findS n s k h t).1 = 14 := by
  unfold findS
  split
  · simp
  · split
    · split
      · simp
      · split <;> simp
    · simp
theorem fwT_true {wt : List Bool} : ∀ m i, fwT wt i m < i + m → bat wt (fwT wt i m) = true
  | 0, i, h => by unfold fwT at h; omega
  | m + 1, i, h => by
    unfold fwT at h ⊢
    by_cases hb : bat wt i = true
    · rw [if_pos hb]; exact hb
    · rw [if_neg hb] at h ⊢
      exact fwT_true m (i + 1) (by omega)
theorem nextS_good {n : Nat} {s : St} (hg : Good n s) : Good n (nextS n s).2 ∧ (if (nextS n s).1 < n then mu (nextS n s).2 < mu s else mu (nextS n s).2 = mu s) := by
  have hle := fwT_le s.wt (n - s.fs) s.fs
  have htr := fwT_true (wt := s.wt) (n - s.fs) s.fs
  unfold nextS
  generalize fwT s.wt s.fs (n - s.fs) = x at *
  by_cases hx : x < n
  · rw [if_pos hx]
    simp only
    rw [if_pos hx]
    refine ⟨⟨hg.lh, hg.lt, by simp [hg.lw], by simp only; omega, hg.hh⟩, ?_⟩
    have hb := htr (by have := hg.fs; omega)
    have e2 := filter_set (fun x : Bool => x) s.wt x (bat s.wt x) false (bat_some (by rw [hg.lw]; exact hx))
    rw [hb, if_pos rfl, if_neg (by decide)] at e2
    show 2 * (s.hs.filter _).length + ((s.wt.set x false).filter _).length < 2 * (s.hs.filter _).length + (s.wt.filter _).length
    omega
  · rw [if_neg hx]
    simp only
    rw [if_neg (Nat.lt_irrefl n)]
    exact ⟨⟨hg.lh, hg.lt, hg.lw, Nat.le_refl _, hg.hh⟩, rfl⟩
theorem good_pk {n : Nat} {s : St} (hg : Good n s) (x : Int) : Good n { s with pk := x } ∧ mu { s with pk := x } = mu s := ⟨⟨hg.lh, hg.lt, hg.lw, hg.fs, hg.hh⟩, rfl⟩
theorem thenS_good {n : Nat} {s : St} {r : Int × St} {f : St → Int × St} (hr : Good n r.2 ∧ mu r.2 ≤ mu s) (hf : ∀ s2, Good n s2 → mu s2 ≤ mu s → Good n (f s2).2 ∧ mu (f s2).2 ≤ mu s) : Good n (thenS r f).2 ∧ mu (thenS r f).2 ≤ mu s := by
  unfold thenS
  split
  · exact hf _ hr.1 hr.2
  · exact hr
theorem procS_good {p : Prg} {n : Nat} {s : St} (hf : Formed p) (hg : Good n s) (hl : p.code.length = n) (k : Nat) (hk : k < n) : Good n (procS p n s k).2 ∧ mu (procS p n s k).2 ≤ mu s := by
  have hx := hg.hh k hk
  have hsh := hf.ins _ (iat_mem (l := p.code) (k := k) (by omega))
  have hst := hf.stack
  unfold procS procT
  have ha : (iat p.code k).op.toNat = 7 ∨ (iat p.code k).op.toNat = 8 ∨ (iat p.code k).op.toNat = 13 → 0 ≤ (iat p.code k).a := fun ho => by
    have hu : usN (iat p.code k).op.toNat = 2 := by rcases ho with e | e | e <;> rw [e] <;> rfl
    unfold shB at hsh
    rw [if_neg (by omega), if_pos hu, Bool.and_eq_true, wi_iff] at hsh
    exact hsh.1.1
  generalize (iat p.code k).op.toNat = o at *
  generalize (iat p.code k).a = a at *
  generalize it s.hs k = x at *
  generalize bat s.ts k = t at *
  have he := efN_le o
  generalize (efN o).1 = pp at *
  generalize (efN o).2 = qq at *
  split
  · exact ⟨hg, Nat.le_refl _⟩
  · split
    · exact ⟨hg, Nat.le_refl _⟩
    · rename_i hne
      have b1 : 0 ≤ x - (pp : Int) + (qq : Int) := by omega
      have b2 : x - (pp : Int) + (qq : Int) ≤ 64 := by omega
      generalize x - (pp : Int) + (qq : Int) = y at *
      have hp := good_pk hg (max s.pk y)
      refine thenS_good ?_ fun s2 g2 m2 => thenS_good ?_ fun s3 g3 m3 => ?_
      · split
        · have := findS_good hp.1 (k + 1) y t b1 b2
          rw [hp.2] at this
          exact this
        · exact ⟨hp.1, Nat.le_of_eq hp.2⟩
      · split
        · rename_i ho
          obtain ⟨m, rfl⟩ : ∃ m : Nat, a = (m : Int) := ⟨a.toNat, by have := ha (by omega); omega⟩
          have := findS_good g2 m y t b1 b2
          exact ⟨this.1, by omega⟩
        · exact ⟨g2, m2⟩
      · split
        · rename_i ho
          obtain ⟨m, rfl⟩ : ∃ m : Nat, a = (m : Int) := ⟨a.toNat, by have := ha (by omega); omega⟩
          have := findS_good g3 m 0 true (by decide) (by decide)
          exact ⟨this.1, by omega⟩
        · exact ⟨g3, m3⟩
/-- the analysis goes on, at most f rounds -/
def goS (p : Prg) (n : Nat) : Nat → St → Int × St
  | 0, s => (0, s)
  | f + 1, s => if (nextS n s).1 < n then thenS (procS p n (nextS n s).2 (nextS n s).1) (goS p n f) else (0, (nextS n s).2)
/-- an analysis at its beginning -/
def st0 (n : Nat) : St := ⟨List.replicate n (-1), List.replicate n false, List.replicate n false, n, 0⟩
theorem st0_good (n : Nat) : Good n (st0 n) := by
  refine ⟨by simp [st0], by simp [st0], by simp [st0], Nat.le_refl _, fun k hk => ?_⟩
  have : it (st0 n).hs k = -1 := by
    unfold it st0
    rw [List.getD_eq_getElem?_getD]
    simp [hk]
  rw [this]
  omega
/-- what is known of a program: an error or the whole analysis -/
def anaS (p : Prg) : Int × St := thenS (findS p.code.length (st0 p.code.length) 0 0 false) (goS p p.code.length (3 * p.code.length + 1))
theorem mu_st0 (n : Nat) : mu (st0 n) ≤ 2 * n := by
  unfold mu negs waits st0
  simp only
  have h1 := List.length_filter_le (fun x => decide (x < 0)) (List.replicate n (-1 : Int))
  rw [List.length_replicate] at h1
  have h2 : ((List.replicate n false).filter fun x => x) = [] := by
    rw [List.filter_eq_nil_iff]
    intro x hx
    rw [List.eq_of_mem_replicate hx]
    decide
  rw [h2]
  simp only [List.length_nil]
  omega
end Go.Proofs.Ytkmcjjoicpgjfaa
