/-
  A string's bytes are appended to a row of the call's own: with word on where the new row lies. No statement of the seat is proved here.
-/
import Derived.Test.YtkmcjjoicpgjfaaDoorCodeEncP
import Derived.Lib.AppendStr
namespace Go.Proofs.YtkmcjjoicpgjfaaDoor
open Go Go.RowKit Go.Sh

theorem strCells_bv (s : ByteArray) : Go.Lib.strCells s = bv (nmL s) := rfl
theorem run_appS (w : World) (ty base : Nat) (A : Option Addr) (n c : Nat) (l : List UInt8) (hown : w.ownsRow base 5 1 (.slice A n c) n (bv l)) (hn : 0 < n) (s : ByteArray) (hbytes : n + s.size ≤ 140737488355328) (hbase : base ≤ w.heap.size) :
    ∃ A' c' w', (Builtin.append_ #[39, 9] ty #[.slice A n c, .string s]).run Tryd.prog w = .ok (.slice A' (n + s.size) c') w' ∧ w'.ownsRow base 5 1 (.slice A' (n + s.size) c') (n + s.size) (bv (l ++ nmL s)) ∧ w.grownBy w' (Value.slice A n c).ownBlock ∧
      ((Value.slice A' (n + s.size) c').ownBlock = (Value.slice A n c).ownBlock ∨ (Value.slice A' (n + s.size) c').ownBlock = some w.heap.size) := by
  obtain ⟨i, hi, hz, hsize, hby⟩ := info_parts TB.info
  have h63 : n + s.size ≤ maxLen := by simp only [maxLen]; omega
  obtain ⟨v', w', hr, h2, h3, _⟩ := Go.Lib.run_append_own_string (P := Tryd.prog) w base 39 9 ty 5 i Tryd.underlying39 Tryd.underlying9 hi hz hsize hby (.slice A n c) n (bv l) hown s h63 hbytes hbase
  rw [strCells_bv, ← bv_append] at h2
  rcases hown.2 with ⟨_, h0⟩ | ⟨g, cap, cur, hv, hbg, hg, hnc, hcm, hcs, htake⟩
  · omega
  · injection hv with hv1 hv2 hv3
    subst hv1 hv3
    by_cases hroom : n + s.size ≤ c
    · have hr2 := Go.Lib.run_append_room_string (P := Tryd.prog) w 39 9 ty 5 i Tryd.underlying39 Tryd.underlying9 hi hsize g n c cur hg s hroom (by omega)
      rw [hr2] at hr
      injection hr with e1 e2
      subst e1
      exact ⟨_, _, w', by rw [hr2, e2], h2, h3, .inl rfl⟩
    · have holds : ∀ j u, (bv l)[j]? = some u → w.cell? ((⟨g, 0, none⟩ : Addr).add j) = some u := hown.cells (g := g) rfl
      have hr2 := Go.Lib.run_append_grow_string (P := Tryd.prog) w 39 9 ty 5 i (.int .u8 0) Tryd.underlying39 Tryd.underlying9 hi hz ⟨g, 0, none⟩ n c (bv l) (by rw [hsize]; exact hown.1) holds s (by omega) (by omega) (growslice_fits (by omega) (by rw [hby]; omega))
      rw [hr2] at hr
      injection hr with e1 e2
      subst e1
      exact ⟨_, _, w', by rw [hr2, e2], h2, h3, .inr rfl⟩
theorem step_appS {w : World} {ops : Array Oper} {o : Oper} {a : Act} {K : Act → World → Prop} {Q : Exit → Act → World → Prop} {Er : Prop} (hw : Region.wanted o (yielded ops a.tmps) = true) (sl x : Operand)
    (ho : o.op = .call { callee := .builtin .append, args := #[sl, x], argTypes := #[39, 9] })
    (A0 : Option Addr) (n c0 : Nat) (hs : a.eval sl = .slice A0 n c0) (s : ByteArray) (hx : a.eval x = .string s)
    (base : Nat) (rest E : List UInt8) (hown : OWr base w A0 n c0 (nmL s ++ rest) E) (hn : 0 < n) (hE : E.length ≤ 140737488355000) (hbase : base ≤ w.heap.size)
    (h : ∀ A' c' w', OWr base w' A' (n + s.size) c' rest E → Below base w w' → Far w w' (.slice A0 n c0) (.slice A' (n + s.size) c') → K (a.put o.dst (.slice A' (n + s.size) c')) w') :
    if Region.wanted o (yielded ops a.tmps) = true then Oper.wp Tryd.prog o a w K Q else Er := by
  rw [if_pos hw]
  obtain ⟨l, h1, h2⟩ := hown
  have hl : n + s.size ≤ 140737488355000 := by
    have h3 := congrArg List.length h2
    have h4 := h1.1
    rw [length_bv] at h4
    rw [List.length_append, List.length_append, nmL_len] at h3
    omega
  obtain ⟨A', c', w', hr, g1, g2, g3⟩ := run_appS w o.type base A0 n c0 l h1 hn s (by omega) hbase
  exact Lib.wp_append_run w sl x 39 9 ho _ _ hs hx _ _ hr (h A' c' w' ⟨l ++ nmL s, g1, by rw [← h2, List.append_assoc]⟩ ((Below.refl base w).grown g2 hbase (own_drop h1)) (Far.of_grown g2 g3))
end Go.Proofs.YtkmcjjoicpgjfaaDoor
