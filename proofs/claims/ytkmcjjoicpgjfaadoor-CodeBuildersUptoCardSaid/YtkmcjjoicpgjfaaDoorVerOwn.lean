/-
  Routes and sends that are a call's own: what append leaves of them. No statement of the seat is proved here.
-/
import Derived.Test.YtkmcjjoicpgjfaaDoorCodeCheck
import Derived.Test.YtkmcjjoicpgjfaaDoorLists
namespace Go.Proofs.YtkmcjjoicpgjfaaDoor
open Go Go.RowKit Go.Sh

theorem set_blk {P : World} {g k : Nat} {xs : List Value} {ty : TypeId} {v : Value} (h : P.heap[g]? = some (.cells xs.toArray ty (0, 0))) : (P.setCell ⟨g, k, none⟩ v).heap[g]? = some (.cells (xs.set k v).toArray ty (0, 0)) := by
  rw [blk_set h, List.setIfInBounds_toArray]
theorem far_blk {P : World} {g b k : Nat} {v : Value} (h : b ≠ g) : (P.setCell ⟨g, k, none⟩ v).heap[b]? = P.heap[b]? := Below.heap_setCell P ⟨g, k, none⟩ v b h
theorem two_new (w : World) (o1 o2 : Obj) : ((w.alloc o1).alloc o2).heap.size = w.heap.size + 2 ∧ ((w.alloc o1).alloc o2).heap[w.heap.size]? = some o1 ∧ ((w.alloc o1).alloc o2).heap[w.heap.size + 1]? = some o2 ∧ Below w.heap.size w ((w.alloc o1).alloc o2) := by
  have h1 := heap_alloc_new w o1
  have hz : (w.alloc o1).heap.size = w.heap.size + 1 := by simp
  have h2 := heap_alloc_new (w.alloc o1) o2
  have b1 := (Below.refl w.heap.size w).alloc (Nat.le_refl _) o1
  have b2 := (Below.refl (w.heap.size + 1) (w.alloc o1)).alloc (by rw [hz]; exact Nat.le_refl _) o2
  have hz2 : ((w.alloc o1).alloc o2).heap.size = (w.alloc o1).heap.size + 1 := by simp
  rw [hz] at h2 hz2
  exact ⟨hz2, (b2.block _ (Nat.lt_succ_self _)).trans h1, h2, b1.trans (b2.mono (Nat.le_succ _))⟩
/-- heights at the beginning: the first k are -1, the rest 0 -/
def hs0 (n k : Nat) : List Int := List.replicate k (-1) ++ List.replicate (n - k) 0
def spv (s : List Sp) : List Value := (s.map Sp.cells).flatten
theorem spv_len (s : List Sp) : ∀ cs ∈ s.map Sp.cells, cs.length = 3 := by
  intro cs h
  obtain ⟨x, _, rfl⟩ := List.mem_map.1 h
  rfl
/-- v is a row of the call's own of m slices vs, each a row of the call's own of stops; they read as rs -/
def ORt (w : World) (base : Nat) (v : Value) (m : Nat) (rs : List (List Sp)) (vs : List Value) : Prop :=
  rs.length = m ∧ w.ownsRow base 40 1 v m vs ∧ ∀ i, i < m → ∃ Ai ni ci, vs[i]? = some (.slice Ai ni ci) ∧ w.ownsRow base 66 3 (.slice Ai ni ci) ni (spv (rat rs i)) ∧ (rat rs i).length = ni
section
variable {w w' : World} {base m : Nat} {v : Value} {rs : List (List Sp)} {vs : List Value}
theorem ORt.nil (w : World) (base : Nat) : ORt w base (.slice none 0 0) 0 [] [] := ⟨rfl, World.ownsRow_nil _ _ _ _, fun i hi => absurd hi (by omega)⟩
theorem ORt.later (h : ORt w base v m rs vs) (hb : Below w.heap.size w w') : ORt w' base v m rs vs := by
  obtain ⟨h1, h2, h4⟩ := h
  refine ⟨h1, own_later h2 hb, fun i hi => ?_⟩
  obtain ⟨Ai, ni, ci, h5, h6, h7⟩ := h4 i hi
  exact ⟨Ai, ni, ci, h5, own_later h6 hb, h7⟩
theorem RRt.of_own {A : Option Addr} {c : Nat} (h : ORt w base (.slice A m c) m rs vs) : RRt w w.heap.size A m rs := by
  obtain ⟨h1, h2, h4⟩ := h
  refine ⟨h1, vs, Reads.of_own h2, fun i hi => ?_⟩
  obtain ⟨Ai, ni, ci, h5, h6, h7⟩ := h4 i hi
  exact ⟨Ai, ni, ci, h5, own_cap h6, RR.of_own h6 (by rw [List.length_map]; exact h7) (spv_len _)⟩
theorem ORt.snoc {A : Option Addr} {c : Nat} (h : ORt w base v m rs vs) {Ai : Option Addr} {ni ci : Nat} {s : List Sp} (hx : w.ownsRow base 66 3 (.slice Ai ni ci) ni (spv s)) (hs : s.length = ni)
    (hg : w.grownBy w' v.ownBlock) (ho : w'.ownsRow base 40 1 (.slice A (m + 1) c) (m + 1) (vs ++ [.slice Ai ni ci])) : ORt w' base (.slice A (m + 1) c) (m + 1) (rs ++ [s]) (vs ++ [.slice Ai ni ci]) := by
  obtain ⟨h1, hvs, hi⟩ := h
  have hvl : vs.length = m := by have := hvs.1; omega
  refine ⟨by simp [h1], ho, fun i hin => ?_⟩
  by_cases hlt : i < m
  · obtain ⟨Aj, nj, cj, hv, hrow, hl⟩ := hi i hlt
    have e1 : rat (rs ++ [s]) i = rat rs i := by simp [rat, List.getElem?_append_left (show i < rs.length by omega)]
    rw [e1]
    exact ⟨Aj, nj, cj, by rw [List.getElem?_append_left (by omega)]; exact hv, hrow.kept hg (own_ne hrow hvs (by decide)), hl⟩
  · obtain rfl : i = m := by omega
    have e1 : rat (rs ++ [s]) i = s := by simp [rat, ← h1]
    rw [e1]
    exact ⟨Ai, ni, ci, by rw [List.getElem?_append_right (by omega), hvl, Nat.sub_self]; rfl, hx.kept hg (own_ne hx hvs (by decide)), hs⟩
end
/-- v is a row of the call's own of m sends css, each one's routes a row of the call's own; they read as ss -/
def OSn (w : World) (base : Nat) (v : Value) (m : Nat) (ss : List Snd) (css : List (List Value)) : Prop :=
  ss.length = m ∧ css.length = m ∧ (∀ cs ∈ css, cs.length = 3) ∧ w.ownsRow base 43 3 v m css.flatten ∧ ∀ i, i < m → ∃ Ai ni ci, css[i]? = some [.int .i64 (dat ss i).msg, .slice Ai ni ci, .int .i64 (dat ss i).blk] ∧ w.ownsRow base 3 1 (.slice Ai ni ci) ni (iv (dat ss i).rts) ∧ ∀ z ∈ (dat ss i).rts, -9223372036854775808 ≤ z ∧ z ≤ 9223372036854775807
section
variable {w w' : World} {base m : Nat} {v : Value} {ss : List Snd} {css : List (List Value)}
theorem OSn.nil (w : World) (base : Nat) : OSn w base (.slice none 0 0) 0 [] [] := ⟨rfl, rfl, (fun _ h => by cases h), World.ownsRow_nil _ _ _ _, fun i hi => absurd hi (by omega)⟩
theorem OSn.later (h : OSn w base v m ss css) (hb : Below w.heap.size w w') : OSn w' base v m ss css := by
  obtain ⟨h1, h2, h3, h4, h5⟩ := h
  refine ⟨h1, h2, h3, own_later h4 hb, fun i hi => ?_⟩
  obtain ⟨Ai, ni, ci, h6, h7, h8⟩ := h5 i hi
  exact ⟨Ai, ni, ci, h6, own_later h7 hb, h8⟩
theorem RSn.of_own {A : Option Addr} {c : Nat} (h : OSn w base (.slice A m c) m ss css) : RSn w w.heap.size A m ss := by
  obtain ⟨h1, h2, h3, h4, h5⟩ := h
  refine ⟨h1, css, RR.of_own h4 h2 h3, fun i hi => ?_⟩
  obtain ⟨Ai, ni, ci, h6, h7, h8⟩ := h5 i hi
  exact ⟨Ai, ni, ci, h6, own_cap h7, RI.of_own h7 h8⟩
set_option maxRecDepth 100000 in
theorem OSn.snoc {A : Option Addr} {c : Nat} (h : OSn w base v m ss css) {Ai : Option Addr} {ni ci : Nat} {s : Snd} (hx : w.ownsRow base 3 1 (.slice Ai ni ci) ni (iv s.rts)) (hs : ∀ z ∈ s.rts, -9223372036854775808 ≤ z ∧ z ≤ 9223372036854775807)
    (hg : w.grownBy w' v.ownBlock) (ho : w'.ownsRow base 43 3 (.slice A (m + 1) c) (m + 1) (css.flatten ++ [.int .i64 s.msg, .slice Ai ni ci, .int .i64 s.blk])) : OSn w' base (.slice A (m + 1) c) (m + 1) (ss ++ [s]) (css ++ [[.int .i64 s.msg, .slice Ai ni ci, .int .i64 s.blk]]) := by
  obtain ⟨h1, h2, h3, h4, h5⟩ := h
  refine ⟨by simp [h1], by simp [h2], fun cs hcs => ?_, by rw [List.flatten_append]; simpa using ho, fun i hin => ?_⟩
  · rcases List.mem_append.1 hcs with h | h
    · exact h3 cs h
    · obtain rfl : cs = _ := by simpa using h
      rfl
  · by_cases hlt : i < m
    · obtain ⟨Aj, nj, cj, hv, hrow, hl⟩ := h5 i hlt
      have e1 : dat (ss ++ [s]) i = dat ss i := by simp [dat, List.getElem?_append_left (show i < ss.length by omega)]
      rw [e1]
      exact ⟨Aj, nj, cj, by rw [List.getElem?_append_left (by omega)]; exact hv, hrow.kept hg (own_ne hrow h4 (by decide)), hl⟩
    · obtain rfl : i = m := by omega
      have e1 : dat (ss ++ [s]) i = s := by simp [dat, ← h1]
      rw [e1]
      exact ⟨Ai, ni, ci, by rw [List.getElem?_append_right (by omega), h2, Nat.sub_self]; rfl, hx.kept hg (own_ne hx h4 (by decide)), hs⟩
end
end Go.Proofs.YtkmcjjoicpgjfaaDoor
