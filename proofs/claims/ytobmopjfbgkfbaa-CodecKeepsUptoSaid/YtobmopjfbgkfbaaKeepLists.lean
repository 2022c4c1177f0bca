/-
  Plain facts of kcalls: how many lists, how long each.
-/
import Derived.Test.YtobmopjfbgkfbaaCalls
namespace Go.Proofs.Ytobmopjfbgkfbaa
open Go Go.RowKit Go.Sh
theorem klen (n m : Nat) (l r : List UInt8) : 6 ≤ (kcalls n m l r).length ∧ (kcalls n m l r).length ≤ 8 := by
  unfold kcalls cutL
  split
  · simp [cutP]
  · simp
theorem ksmall {n m : Nat} {l r : List UInt8} (hl : l.length = n) (hr : r.length = m) (hn : n ≤ 1048576) (hm : m ≤ 1048576) : ∀ x ∈ kcalls n m l r, x.length ≤ 4194304 := by
  intro x hx
  unfold kcalls at hx
  rw [List.mem_append] at hx
  rcases hx with hx | hx
  · simp only [List.mem_cons, List.not_mem_nil, or_false] at hx
    rcases hx with rfl | rfl | rfl | rfl | rfl | rfl
    · rw [List.length_append]; omega
    · omega
    · unfold xorL
      split
      · rename_i he
        have h : ∀ z ∈ [l, r], z.length = (lat [l, r] 0).length := by
          intro z hz
          unfold evenB at he
          exact eq_of_beq (List.all_eq_true.1 he z hz)
        rw [length_xorAll h]
        show l.length ≤ _
        omega
      · simp
    · unfold unhL
      split
      · rw [length_unh, length_hexL]; omega
      · simp
    · unfold padL
      split
      · simp
      · split
        · simp
        · rw [List.length_append, List.length_replicate]; omega
    · unfold takL
      split
      · rw [List.length_take, List.length_drop]; omega
      · simp
  · unfold cutL at hx
    split at hx
    · unfold cutP at hx
      rw [List.mem_map] at hx
      obtain ⟨k, _, rfl⟩ := hx
      unfold pce
      rw [List.length_take, List.length_drop]
      omega
    · simp at hx
end Go.Proofs.Ytobmopjfbgkfbaa
