/-
  The first timer that is due, sought from the front or from the back, is the same one. Plain lemmas on lists; no program in sight.
-/
import Derived.Test.YtcjpfjmmnnfieaaClock
namespace Go.Proofs.Ytcjpfjmmnnfieaa
open Go Go.RowKit Go.Sh

/-- b is the place of the timer that is due first among those from m on below k, or -1 -/
def IsBest (ts : List (Int × Int)) (u : Int) (m k : Nat) (b : Int) : Prop :=
  (b = -1 ∧ ∀ i, m ≤ i → i < k → ¬ t1 ts i ≤ u) ∨
  ∃ n : Nat, b = (n : Int) ∧ m ≤ n ∧ n < k ∧ t1 ts n ≤ u ∧ (∀ i, m ≤ i → i < k → t1 ts i ≤ u → t1 ts n ≤ t1 ts i) ∧ (∀ i, m ≤ i → i < n → t1 ts i ≤ u → t1 ts n < t1 ts i)
theorem IsBest.unique {ts : List (Int × Int)} {u : Int} {m k : Nat} {b b' : Int} (h : IsBest ts u m k b) (h' : IsBest ts u m k b') : b = b' := by
  rcases h with ⟨rfl, h⟩ | ⟨n, rfl, h1, h2, h3, h4, h5⟩
  · rcases h' with ⟨rfl, _⟩ | ⟨n', rfl, g1, g2, g3, _⟩
    · rfl
    · exact absurd g3 (h n' g1 g2)
  · rcases h' with ⟨rfl, g⟩ | ⟨n', rfl, g1, g2, g3, g4, g5⟩
    · exact absurd h3 (g n h1 h2)
    · have e : n = n' := by
        rcases Nat.lt_trichotomy n n' with hlt | he | hlt
        · have a1 := g5 n h1 hlt h3
          have a2 := h4 n' g1 g2 g3
          omega
        · exact he
        · have a1 := h5 n' g1 hlt g3
          have a2 := g4 n h1 h2 h3
          omega
      rw [e]
theorem best_up (ts : List (Int × Int)) (u : Int) : ∀ k, IsBest ts u 0 k (bestTo ts u k) := by
  intro k
  induction k with
  | zero => exact .inl ⟨rfl, fun i _ hi => absurd hi (by omega)⟩
  | succ k ih =>
    simp only [bestTo]
    rcases ih with ⟨hb, h⟩ | ⟨n, hb, h1, h2, h3, h4, h5⟩
    · rw [hb]
      by_cases hu : t1 ts k ≤ u
      · rw [if_pos ⟨hu, .inl (by omega)⟩]
        refine .inr ⟨k, rfl, by omega, by omega, hu, fun i _ hi hiu => ?_, fun i _ hi hiu => absurd hiu (h i (by omega) hi)⟩
        rcases Nat.lt_or_ge i k with hik | hik
        · exact absurd hiu (h i (by omega) hik)
        · obtain rfl : i = k := by omega
          exact Int.le_refl _
      · rw [if_neg (fun hh => hu hh.1)]
        refine .inl ⟨rfl, fun i _ hi => ?_⟩
        rcases Nat.lt_or_ge i k with hik | hik
        · exact h i (by omega) hik
        · obtain rfl : i = k := by omega
          exact hu
    · rw [hb, Int.toNat_natCast]
      by_cases hu : t1 ts k ≤ u ∧ ((n : Int) < 0 ∨ t1 ts k < t1 ts n)
      · rw [if_pos hu]
        have hlt : t1 ts k < t1 ts n := by rcases hu.2 with h | h <;> omega
        refine .inr ⟨k, rfl, by omega, by omega, hu.1, fun i _ hi hiu => ?_, fun i _ hi hiu => ?_⟩
        · rcases Nat.lt_or_ge i k with hik | hik
          · have := h4 i (by omega) hik hiu
            omega
          · obtain rfl : i = k := by omega
            exact Int.le_refl _
        · have := h4 i (by omega) hi hiu
          omega
      · rw [if_neg hu]
        refine .inr ⟨n, rfl, by omega, by omega, h3, fun i _ hi hiu => ?_, fun i h0 hi hiu => h5 i h0 hi hiu⟩
        rcases Nat.lt_or_ge i k with hik | hik
        · exact h4 i (by omega) hik hiu
        · obtain rfl : i = k := by omega
          rcases Int.lt_or_le (t1 ts i) (t1 ts n) with hl | hl
          · exact absurd ⟨hiu, .inr hl⟩ hu
          · exact hl
/-- one step of the search from the back -/
theorem best_down {ts : List (Int × Int)} {u : Int} {m k : Nat} {b : Int} (h : IsBest ts u (m + 1) k b) (hm : m < k) :
    IsBest ts u m k (if t1 ts m ≤ u ∧ (b < 0 ∨ t1 ts m ≤ t1 ts b.toNat) then (m : Int) else b) := by
  rcases h with ⟨rfl, h⟩ | ⟨n, rfl, h1, h2, h3, h4, h5⟩
  · by_cases hu : t1 ts m ≤ u
    · rw [if_pos ⟨hu, .inl (by omega)⟩]
      refine .inr ⟨m, rfl, by omega, by omega, hu, fun i h0 hi hiu => ?_, fun i h0 hi hiu => absurd hi (by omega)⟩
      rcases Nat.lt_or_ge m i with hik | hik
      · exact absurd hiu (h i (by omega) hi)
      · obtain rfl : i = m := by omega
        exact Int.le_refl _
    · rw [if_neg (fun hh => hu hh.1)]
      refine .inl ⟨rfl, fun i h0 hi => ?_⟩
      rcases Nat.lt_or_ge m i with hik | hik
      · exact h i (by omega) hi
      · obtain rfl : i = m := by omega
        exact hu
  · rw [Int.toNat_natCast]
    by_cases hu : t1 ts m ≤ u ∧ ((n : Int) < 0 ∨ t1 ts m ≤ t1 ts n)
    · rw [if_pos hu]
      have hle : t1 ts m ≤ t1 ts n := by rcases hu.2 with h | h <;> omega
      refine .inr ⟨m, rfl, by omega, by omega, hu.1, fun i h0 hi hiu => ?_, fun i h0 hi hiu => absurd hi (by omega)⟩
      rcases Nat.lt_or_ge m i with hik | hik
      · have := h4 i (by omega) hi hiu
        omega
      · obtain rfl : i = m := by omega
        exact Int.le_refl _
    · rw [if_neg hu]
      have hgt : ∀ i, i = m → t1 ts i ≤ u → t1 ts n < t1 ts i := by
        rintro i rfl hiu
        rcases Int.lt_or_le (t1 ts n) (t1 ts i) with hl | hl
        · exact hl
        · exact absurd ⟨hiu, .inr hl⟩ hu
      refine .inr ⟨n, rfl, by omega, by omega, h3, fun i h0 hi hiu => ?_, fun i h0 hi hiu => ?_⟩
      · rcases Nat.lt_or_ge m i with hik | hik
        · exact h4 i (by omega) hi hiu
        · have := hgt i (by omega) hiu
          omega
      · rcases Nat.lt_or_ge m i with hik | hik
        · exact h5 i (by omega) hi hiu
        · exact hgt i (by omega) hiu
theorem best_eq {ts : List (Int × Int)} {u b : Int} (h : IsBest ts u 0 ts.length b) : b = dueI ts u := h.unique (best_up ts u ts.length)

/-- the list without place b, as far as k -/
theorem skip_other (l : List (Int × Int)) (b k : Nat) (hk : k < l.length) (hne : k ≠ b) : (l.take (k + 1)).eraseIdx b = (l.take k).eraseIdx b ++ [(t1 l k, t2 l k)] := by
  rw [tm_take l k hk]
  have hl : (l.take k).length = k := by rw [List.length_take]; omega
  rcases Nat.lt_or_ge b k with h | h
  · rw [List.eraseIdx_append_of_lt_length (by omega)]
  · rw [List.eraseIdx_of_length_le (by simp; omega), List.eraseIdx_of_length_le (by omega)]
theorem skip_self (l : List (Int × Int)) (b : Nat) (hb : b < l.length) : (l.take (b + 1)).eraseIdx b = (l.take b).eraseIdx b := by
  rw [tm_take l b hb]
  have hl : (l.take b).length = b := by rw [List.length_take]; omega
  rw [List.eraseIdx_append_of_length_le (by omega), hl, Nat.sub_self, List.eraseIdx_of_length_le (l := l.take b) (by omega)]
  simp
end Go.Proofs.Ytcjpfjmmnnfieaa
