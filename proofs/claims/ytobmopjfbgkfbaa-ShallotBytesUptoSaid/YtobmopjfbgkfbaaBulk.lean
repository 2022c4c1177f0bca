/-
  What the bound of an Upto statement gives: lengths of slices, strings and lists of lists among the arguments. No statement of the seat is proved here.
-/
import Derived.Test.YtobmopjfbgkfbaaOpen
import Derived.Test.YtobmopjfbgkfbaaRows
namespace Go.Proofs.Ytobmopjfbgkfbaa.bulks
open Go Go.Sh

theorem bound {H : Type} {l : List (DataW H)} (hk : Rows.uptoSmall H l = true) : Rows.uptoBulkAll l ≤ 1048576 := of_decide_eq_true hk
theorem pos {H : Type} (d : DataW H) : 0 < Rows.uptoBulk d := by
  cases d with
  | lit l => cases l <;> simp [Rows.uptoBulk]
  | _ => simp [Rows.uptoBulk]
theorem mem_le {H : Type} {d : DataW H} : ∀ {l : List (DataW H)}, d ∈ l → Rows.uptoBulk d ≤ Rows.uptoBulkAll l
  | x :: r, h => by
    rw [Rows.uptoBulkAll]
    rcases List.mem_cons.1 h with rfl | h
    · omega
    · have := mem_le h
      omega
theorem count_le {H : Type} : ∀ l : List (DataW H), l.length ≤ Rows.uptoBulkAll l
  | [] => Nat.le_refl _
  | x :: r => by
    have h1 := count_le r
    have h2 := pos x
    rw [Rows.uptoBulkAll, List.length_cons]
    omega
theorem slice_le {H : Type} {d : DataW H} {n : Nat} (h : HasLen d n) : n + 1 ≤ Rows.uptoBulk d := by
  rcases h with ⟨rfl, rfl⟩ | ⟨es, sp, rfl, hl⟩
  · simp [Rows.uptoBulk]
  · have := count_le es
    rw [Rows.uptoBulk]
    omega
theorem len_le {H : Type} {ds : List (DataW H)} {d : DataW H} {n : Nat} (hk : Rows.uptoBulkAll ds ≤ 1048576) (hm : d ∈ ds) (h : HasLen d n) : n ≤ 1048576 := by
  have h1 := mem_le hm
  have h2 := slice_le h
  omega
theorem str_le {H : Type} {ds : List (DataW H)} {s : ByteArray} (hk : Rows.uptoBulkAll ds ≤ 1048576) (hm : DataW.lit (.string s.data.toList) ∈ ds) : s.size ≤ 1048576 := by
  have h1 := mem_le hm
  rw [Rows.uptoBulk, Array.length_toList] at h1
  have : s.data.size = s.size := rfl
  omega
set_option maxRecDepth 100000 in
theorem lists_sum {H : Type} : ∀ (es : List (DataW H)) (ls : List (List UInt8)), es.length = ls.length → (∀ i, i < ls.length → ∃ di, es[i]? = some di ∧ HasLen di (lat ls i).length) → ls.flatten.length + ls.length ≤ Rows.uptoBulkAll es
  | [], [], _, _ => Nat.le_refl _
  | e :: es, l :: ls, hl, h => by
    have h1 := lists_sum es ls (by simpa using hl) (fun i hi => by
      obtain ⟨di, h2, h3⟩ := h (i + 1) (by simpa using hi)
      exact ⟨di, by simpa using h2, by simpa [lat] using h3⟩)
    obtain ⟨d0, h2, h3⟩ := h 0 (by simp)
    have h4 : e = d0 := by simpa using h2
    subst h4
    have h5 := slice_le h3
    have h6 : (lat (l :: ls) 0) = l := rfl
    rw [h6] at h5
    rw [Rows.uptoBulkAll, List.flatten_cons, List.length_append, List.length_cons]
    omega
theorem lists_le {H : Type} {ds : List (DataW H)} {d : DataW H} {ls : List (List UInt8)} (hk : Rows.uptoBulkAll ds ≤ 1048576) (hm : d ∈ ds) (h : HasLists d ls) : ls.flatten.length + ls.length ≤ 1048576 := by
  have h1 := mem_le hm
  rcases h with ⟨rfl, rfl⟩ | ⟨es, sp, rfl, hl, hi⟩
  · simp
  · have h2 := lists_sum es ls hl hi
    rw [Rows.uptoBulk] at h1
    omega
end Go.Proofs.Ytobmopjfbgkfbaa.bulks
