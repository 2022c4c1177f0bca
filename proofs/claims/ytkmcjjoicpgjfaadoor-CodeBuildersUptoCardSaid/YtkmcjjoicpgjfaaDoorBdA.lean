/-
  append onto a clipped slice: a row of the call's own whose capacity is cut to its length. Over any program; no statement of the seat is proved here.
-/
import Derived.Test.YtkmcjjoicpgjfaaDoorWords
namespace Go.Proofs.YtkmcjjoicpgjfaaDoor
open Go Go.RowKit Go.Sh
section
variable {P : Program} {t e : TypeId} {z : Value} {size bytes : Nat}
/-- nothing is put behind -/
theorem run_appF0 (T : STy P t e z size bytes) (w : World) (ty : TypeId) (base : Nat) (A : Option Addr) (n c : Nat) (xs : List Value) (_ : w.ownsRow base e size (.slice A n c) n xs)
    (A2 : Option Addr) (c2 : Nat) : (Builtin.append_ #[t, t] ty #[.slice A n n, .slice A2 0 c2]).run P w = .ok (.slice A n n) w := by
  obtain ⟨i, hi, hz, hsize, hby⟩ := info_parts T.info
  have hz0 : ∀ a : Addr, (storeCells a [] 0).run P w = .ok () w := fun _ => rfl
  have hl0 : ∀ a : Addr, (loadCells a 0).run P w = .ok #[] w := fun _ => rfl
  cases A <;> cases A2 <;> simp [Builtin.append_, run_underlying T.und, sizeOf, typeInfo, hi, Builtin.lenOf, Builtin.firstCells, hz0, hl0]
set_option maxRecDepth 100000 in
/-- so many are put behind: a new row -/
theorem run_appF1 (T : STy P t e z size bytes) (w : World) (ty : TypeId) (base : Nat) (A : Option Addr) (n c : Nat) (xs : List Value) (hown : w.ownsRow base e size (.slice A n c) n xs)
    (B : Nat) (A2 : Option Addr) (m c2 : Nat) (news : List Value) (hr : Reads w B size A2 m news) (hm : 0 < m) (hbytes : (n + m) * bytes ≤ 140737488355328) (h63 : n + m ≤ 9223372036854775807) (hbase : base ≤ w.heap.size) :
    ∃ c' w', (Builtin.append_ #[t, t] ty #[.slice A n n, .slice A2 m c2]).run P w = .ok (.slice (some ⟨w.heap.size, 0, none⟩) (n + m) c') w' ∧
      w'.ownsRow base e size (.slice (some ⟨w.heap.size, 0, none⟩) (n + m) c') (n + m) (xs ++ news) ∧ Below w.heap.size w w' := by
  obtain ⟨i, hi, hz, hsize, hby⟩ := info_parts T.info
  subst hsize
  subst hby
  have hsz := T.pos
  have hnl : 0 < news.length := by rw [hr.1]; exact Nat.mul_pos hm hsz
  obtain ⟨a, rfl, _, hlie⟩ := hr.some_ hnl
  have hl := hr.1
  have hnews : ∀ j u, news[j]? = some u → w.cell? (a.add j) = some u := fun j u hu => hlie.get hu
  have h63' : n + m ≤ maxLen := by simp only [maxLen]; omega
  have hlen : (xs ++ news).length = (n + m) * i.size := by rw [List.length_append, hown.1, hl, Nat.add_mul]
  have grown : ∀ (old : Nat), old < n + m →
      (w.drew.alloc (.cells (xs.toArray ++ news.toArray ++ Builtin.zeroCells z.cells (grownCap w (n + m) old e - (n + m))) e)).ownsRow base e i.size
        (.slice (some ⟨w.heap.size, 0, none⟩) (n + m) (grownCap w (n + m) old e)) (n + m) (xs ++ news) ∧
      Below w.heap.size w (w.drew.alloc (.cells (xs.toArray ++ news.toArray ++ Builtin.zeroCells z.cells (grownCap w (n + m) old e - (n + m))) e)) := by
    intro old ho
    have hge := grownCap_ge w (n + m) old e
    have hcm : grownCap w (n + m) old e ≤ maxLen := grownCap_le_maxLen w (n + m) old e h63'
    refine ⟨⟨hlen, .inr ⟨w.heap.size, _, _, rfl, hbase, heap_alloc_new w.drew _, hge, hcm, ?_, ?_⟩⟩, (Below.refl w.heap.size w).drew.alloc (Nat.le_refl _) _⟩
    · simp only [Array.size_append, List.size_toArray, size_zeroCells, T.zs, hown.1, hl, ← Nat.add_mul]
      congr 1
      omega
    · simp only [Array.toList_append, List.append_assoc]
      rw [← List.append_assoc, ← hlen]
      exact List.take_left
  rcases hown.2 with ⟨hv, h0⟩ | ⟨g, cap, cur, hv, hbg, hg, hnc, hcm, hcs, htake⟩
  · injection hv with h1 h2 h3
    subst h1 h2 h3
    have hx : xs = [] := List.eq_nil_of_length_eq_zero (by simpa using hown.1)
    subst hx
    have hr := run_append_nil (P := P) w t ty e i z T.und hi hz a m c2 news hl hnews hm (by omega) (by have hb := hbytes; simp only [Nat.zero_add] at hb; omega)
    have hgr := grown 0 (by omega)
    simp only [Nat.zero_add, List.nil_append, Array.empty_append] at hgr ⊢
    exact ⟨_, _, hr, hgr.1, hgr.2⟩
  · injection hv with h1 _ h3
    subst h1 h3
    have holds : ∀ j v, xs[j]? = some v → w.cell? ((⟨g, 0, none⟩ : Addr).add j) = some v := fun j v hv => hown.cells (g := g) rfl j v hv
    have hfit : Builtin.nextslicecap (n + m) n * i.bytes ≤ 281474976710656 := growslice_fits (by omega) hbytes
    have hr := run_append_grow (P := P) w t ty e i z T.und hi hz ⟨g, 0, none⟩ n n xs hown.1 holds a m c2 news hl hnews (by omega) (by omega) hfit
    exact ⟨_, _, hr, (grown n (by omega)).1, (grown n (by omega)).2⟩
set_option maxRecDepth 100000 in
/-- as one step of the walk -/
theorem wl_appF (T : STy P t e z size bytes) {w : World} {ops : Array Oper} {rest : List Oper} {o : Oper} {a : Act} {Q : Exit → Act → World → Prop} (hw : Region.wanted o (yielded ops a.tmps) = true) (s x : Operand)
    (ho : o.op = .call { callee := .builtin .append, args := #[s, x], argTypes := #[t, t] })
    (A : Option Addr) (n : Nat) (hs : a.eval s = .slice A n n) (A2 : Option Addr) (m c2 : Nat) (hx : a.eval x = .slice A2 m c2)
    (base c : Nat) (xs : List Value) (hown : w.ownsRow base e size (.slice A n c) n xs)
    (B : Nat) (news : List Value) (hr : Reads w B size A2 m news) (hbytes : (n + m) * bytes ≤ 140737488355328) (h63 : n + m ≤ 9223372036854775807) (hbase : base ≤ w.heap.size)
    (h : ∀ A' c' c'' w', w'.ownsRow base e size (.slice A' (n + m) c'') (n + m) (xs ++ news) → Below w.heap.size w w' → n + m ≤ c' → (A' = A ∨ A' = some ⟨w.heap.size, 0, none⟩) → wpList P ops Q rest (a.put o.dst (.slice A' (n + m) c')) w') : wpList P ops Q (o :: rest) a w := by
  by_cases hm : m = 0
  · subst hm
    have hn : news = [] := List.eq_nil_of_length_eq_zero (by have := hr.1; simpa using this)
    subst hn
    have hrun := run_appF0 (P := P) T w o.type base A n c xs hown A2 c2
    refine wl_step hw fun _ hK => Lib.wp_append_run w s x t t ho _ _ hs hx _ _ hrun (hK _ _ ?_)
    exact h A n c w (by rw [List.append_nil]; exact hown) (Below.refl _ _) (Nat.le_refl _) (.inl rfl)
  · obtain ⟨c', w', hrun, h2, h3⟩ := run_appF1 (P := P) T w o.type base A n c xs hown B A2 m c2 news hr (by omega) hbytes h63 hbase
    exact wl_step hw fun _ hK => Lib.wp_append_run w s x t t ho _ _ hs hx _ _ hrun (hK _ _ (h _ c' c' w' h2 h3 (own_cap h2) (.inr rfl)))
end
end Go.Proofs.YtkmcjjoicpgjfaaDoor
