/-
  Reading a program's bytes in plain Lean: exact on short bytes too. A reader's state: the rest of the bytes, or none where bytes were missing. No statement of the seat is proved here.
-/
import Derived.Test.YtkmcjjoicpgjfaaDoorCodeEncP
namespace Go.Proofs.YtkmcjjoicpgjfaaDoor
open Go Go.RowKit Go.Sh

abbrev Sx := Option (List UInt8)
/-- the number that the bytes spell, the most significant first -/
def beV : List UInt8 → Nat
  | [] => 0
  | x :: l => x.toNat * 256 ^ l.length + beV l
/-- a number of d bytes: its value, and what is left -/
def nV (d : Nat) : Sx → Nat
  | none => 0
  | some r => if d ≤ r.length then beV (r.take d) else 0
def nS (d : Nat) : Sx → Sx
  | none => none
  | some r => if d ≤ r.length then some (r.drop d) else none
/-- n bytes -/
def pV (n : Nat) : Sx → List UInt8
  | none => []
  | some r => if n ≤ r.length then r.take n else []
def rep {α : Type} (f : Sx → α × Sx) : Nat → Sx → List α × Sx
  | 0, s => ([], s)
  | _ + 1, none => ([], none)
  | n + 1, some r => (((f (some r)).1 :: (rep f n (f (some r)).2).1), (rep f n (f (some r)).2).2)
def sgn (a : Nat) : Int := if 2147483647 < a then (a : Int) - 4294967296 else (a : Int)
def fI (s : Sx) : Ins × Sx := (⟨UInt8.ofNat (nV 1 s), sgn (nV 4 (nS 1 s)), (nV 2 (nS 4 (nS 1 s)) : Int)⟩, nS 2 (nS 4 (nS 1 s)))
def fM (s : Sx) : List UInt8 × Sx := (pV (nV 2 s) (nS 2 s), nS (nV 2 s) (nS 2 s))
def fT (s : Sx) : Sp × Sx :=
  (⟨⟨(pV (nV 1 s) (nS 1 s)).toArray⟩, (nV 4 (nS (nV 1 s) (nS 1 s)) : Int), (nV 1 (nS 4 (nS (nV 1 s) (nS 1 s))) : Int)⟩, nS 1 (nS 4 (nS (nV 1 s) (nS 1 s))))
def fR (s : Sx) : List Sp × Sx := rep fT (nV 1 s) (nS 1 s)
def fN (s : Sx) : Int × Sx := ((nV 1 s : Int), nS 1 s)
def fS (s : Sx) : Snd × Sx :=
  (⟨(nV 1 s : Int), (rep fN (nV 1 (nS 1 s)) (nS 1 (nS 1 s))).1, (nV 1 (rep fN (nV 1 (nS 1 s)) (nS 1 (nS 1 s))).2 : Int) - 1⟩, nS 1 (rep fN (nV 1 (nS 1 s)) (nS 1 (nS 1 s))).2)
theorem beV_lt : ∀ l : List UInt8, beV l < 256 ^ l.length
  | [] => by decide
  | x :: l => by
    have h1 := x.toNat_lt
    have h2 := beV_lt l
    simp only [beV, List.length_cons, Nat.pow_succ]
    have h3 : x.toNat * 256 ^ l.length ≤ 255 * 256 ^ l.length := Nat.mul_le_mul_right _ (by omega)
    omega
theorem nV_some (d : Nat) (r : List UInt8) : nV d (some r) = if d ≤ r.length then beV (r.take d) else 0 := rfl
theorem nS_some (d : Nat) (r : List UInt8) : nS d (some r) = if d ≤ r.length then some (r.drop d) else none := rfl
theorem pV_some (n : Nat) (r : List UInt8) : pV n (some r) = if n ≤ r.length then r.take n else [] := rfl
theorem nV_lt (d : Nat) (s : Sx) : nV d s < 256 ^ d := by
  have hp : 0 < 256 ^ d := Nat.pow_pos (by decide)
  cases s with
  | none => exact hp
  | some r =>
    rw [nV_some]
    by_cases h : d ≤ r.length
    · rw [if_pos h]
      have := beV_lt (r.take d)
      rw [List.length_take, Nat.min_eq_left h] at this
      exact this
    · rw [if_neg h]; exact hp
theorem pV_len (n : Nat) (s : Sx) : (pV n s).length ≤ n := by
  cases s with
  | none => exact Nat.zero_le _
  | some r =>
    rw [pV_some]
    by_cases h : n ≤ r.length
    · rw [if_pos h, List.length_take]; omega
    · rw [if_neg h]; exact Nat.zero_le _
theorem nS_none (d : Nat) : nS d none = none := rfl
theorem rep_none {α : Type} (f : Sx → α × Sx) (n : Nat) : rep f n none = ([], none) := by cases n <;> rfl
theorem rep_some {α : Type} (f : Sx → α × Sx) (n : Nat) (r : List UInt8) : rep f (n + 1) (some r) = (((f (some r)).1 :: (rep f n (f (some r)).2).1), (rep f n (f (some r)).2).2) := rfl
theorem rep_len {α : Type} (f : Sx → α × Sx) : ∀ n s, (rep f n s).1.length ≤ n
  | 0, _ => by simp [rep]
  | _ + 1, none => by simp [rep]
  | n + 1, some r => by
    have := rep_len f n (f (some r)).2
    rw [rep_some, List.length_cons]
    omega
/-! ### what was read whole is written as it was -/
theorem beB_app (d : Nat) (x : UInt8) (v : Nat) (h : v < 256 ^ d) : beB (d + 1) ((x.toNat * 256 ^ d + v : Nat) : Int) = x :: beB d (v : Int) := by
  have hp : 0 < 256 ^ d := Nat.pow_pos (by decide)
  have e2 : (2 : Int) ^ (8 * d) = ((256 ^ d : Nat) : Int) := by
    have : (2 : Nat) ^ (8 * d) = 256 ^ d := by rw [Nat.pow_mul]
    rw [← this]; simp
  have key : ∀ k, k ≤ d → ∀ y : Nat, beB k ((y * 256 ^ d + v : Nat) : Int) = beB k (v : Int) := by
    intro k
    induction k with
    | zero => intro _ _; rfl
    | succ k ih =>
      intro hk y
      show beK _ k :: beB k _ = beK _ k :: beB k _
      rw [ih (by omega) y]
      congr 1
      have e3 : (2 : Int) ^ (8 * k) = ((256 ^ k : Nat) : Int) := by
        have : (2 : Nat) ^ (8 * k) = 256 ^ k := by rw [Nat.pow_mul]
        rw [← this]; simp
      unfold beK
      rw [e3]
      obtain ⟨j, rfl⟩ : ∃ j, d = k + 1 + j := ⟨d - (k + 1), by omega⟩
      have e4 : y * 256 ^ (k + 1 + j) = (y * 256 ^ j * 256) * 256 ^ k := by
        rw [Nat.pow_add, Nat.pow_succ]
        simp only [Nat.mul_assoc, Nat.mul_left_comm, Nat.mul_comm]
      have hq : 0 < 256 ^ k := Nat.pow_pos (by decide)
      have e5 : (y * 256 ^ (k + 1 + j) + v) / 256 ^ k % 256 = v / 256 ^ k % 256 := by
        rw [e4, Nat.add_comm, Nat.add_mul_div_right _ _ hq]
        omega
      have e6 : (((y * 256 ^ (k + 1 + j) + v : Nat) : Int) / ((256 ^ k : Nat) : Int) % 256).toNat = ((y * 256 ^ (k + 1 + j) + v) / 256 ^ k % 256) := by
        have : (((y * 256 ^ (k + 1 + j) + v : Nat) : Int) / ((256 ^ k : Nat) : Int) % 256) = (((y * 256 ^ (k + 1 + j) + v) / 256 ^ k % 256 : Nat) : Int) := by simp
        rw [this]; rfl
      have e7 : (((v : Nat) : Int) / ((256 ^ k : Nat) : Int) % 256).toNat = (v / 256 ^ k % 256) := by
        have : (((v : Nat) : Int) / ((256 ^ k : Nat) : Int) % 256) = ((v / 256 ^ k % 256 : Nat) : Int) := by simp
        rw [this]; rfl
      rw [e6, e7, e5]
  show beK _ d :: beB d _ = x :: beB d _
  rw [key d (Nat.le_refl _) x.toNat]
  congr 1
  unfold beK
  rw [e2]
  have e6 : (((x.toNat * 256 ^ d + v : Nat) : Int) / ((256 ^ d : Nat) : Int) % 256).toNat = ((x.toNat * 256 ^ d + v) / 256 ^ d % 256) := by
    have : (((x.toNat * 256 ^ d + v : Nat) : Int) / ((256 ^ d : Nat) : Int) % 256) = (((x.toNat * 256 ^ d + v) / 256 ^ d % 256 : Nat) : Int) := by simp
    rw [this]; rfl
  rw [e6, Nat.add_comm, Nat.add_mul_div_right _ _ hp, Nat.div_eq_of_lt h, Nat.zero_add]
  have := x.toNat_lt
  rw [Nat.mod_eq_of_lt this]
  exact UInt8.ofNat_toNat
theorem beB_beV : ∀ l : List UInt8, beB l.length (beV l : Int) = l
  | [] => rfl
  | x :: l => by
    rw [List.length_cons]
    show beB (l.length + 1) ((x.toNat * 256 ^ l.length + beV l : Nat) : Int) = _
    rw [beB_app _ _ _ (beV_lt l), beB_beV l]
theorem nV_back {d : Nat} {s : Sx} {r : List UInt8} (h : nS d s = some r) : ∃ q, s = some q ∧ q = beB d (nV d s : Int) ++ r := by
  cases s with
  | none => cases h
  | some q =>
    rw [nS_some] at h
    by_cases hd : d ≤ q.length
    · rw [if_pos hd] at h
      injection h with h
      refine ⟨q, rfl, ?_⟩
      rw [nV_some, if_pos hd]
      have e := beB_beV (q.take d)
      rw [List.length_take, Nat.min_eq_left hd] at e
      rw [e, ← h, List.take_append_drop]
    · rw [if_neg hd] at h; cases h
theorem pV_back {n : Nat} {s : Sx} {r : List UInt8} (h : nS n s = some r) : ∃ q, s = some q ∧ q = pV n s ++ r ∧ (pV n s).length = n := by
  cases s with
  | none => cases h
  | some q =>
    rw [nS_some] at h
    by_cases hd : n ≤ q.length
    · rw [if_pos hd] at h
      injection h with h
      refine ⟨q, rfl, ?_, ?_⟩
      · rw [pV_some, if_pos hd, ← h, List.take_append_drop]
      · rw [pV_some, if_pos hd, List.length_take]; omega
    · rw [if_neg hd] at h; cases h
theorem rep_back {α : Type} (f : Sx → α × Sx) (e : α → List UInt8) (hf : ∀ s r, (f s).2 = some r → ∃ q, s = some q ∧ q = e (f s).1 ++ r) : ∀ n s r, (rep f n s).2 = some r → ∃ q, s = some q ∧ q = (rep f n s).1.flatMap e ++ r ∧ (rep f n s).1.length = n
  | 0, s, r, h => ⟨r, h, rfl, rfl⟩
  | n + 1, none, r, h => by cases h
  | n + 1, some q, r, h => by
    rw [rep_some] at h ⊢
    obtain ⟨q1, e1, e2, e3⟩ := rep_back f e hf n _ r h
    obtain ⟨q2, e4, e5⟩ := hf _ _ e1
    refine ⟨q, rfl, ?_, by rw [List.length_cons, e3]⟩
    injection e4 with e4
    refine (e4.trans e5).trans ?_
    show _ = ((f (some q)).1 :: (rep f n (f (some q)).2).1).flatMap e ++ r
    rw [List.flatMap_cons, List.append_assoc, ← e2]
end Go.Proofs.YtkmcjjoicpgjfaaDoor
