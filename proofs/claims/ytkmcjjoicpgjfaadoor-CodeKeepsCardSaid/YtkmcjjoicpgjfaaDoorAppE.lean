/-
  A row of bytes that a call builds, whose first part may be a constant string's bytes (a marked row, full): one law of append for both. No statement of the seat is proved here.
-/
import Derived.Test.YtkmcjjoicpgjfaaDoorCopy
namespace Go.Proofs.YtkmcjjoicpgjfaaDoor
open Go Go.RowKit Go.Sh

/-- what lay before, but for the slice's own row, lies as it did; and the new slice's row is none of it -/
def Far (w w' : World) (v v' : Value) : Prop := ∀ k, k < w.heap.size → v.ownBlock ≠ some k → w'.heap[k]? = w.heap[k]? ∧ v'.ownBlock ≠ some k
theorem Far.refl (w : World) (v : Value) : Far w w v v := fun _ _ h => ⟨rfl, h⟩
theorem Far.trans {w w' w'' : World} {v v' v'' : Value} (h : Far w w' v v') (h' : Far w' w'' v' v'') (hs : w.heap.size ≤ w'.heap.size) : Far w w'' v v'' := fun k hk hv => by
  obtain ⟨e1, e2⟩ := h k hk hv
  obtain ⟨e3, e4⟩ := h' k (by omega) e2
  exact ⟨e3.trans e1, e4⟩
theorem Far.of_below {w w' : World} (v : Value) (hb : Below w.heap.size w w') : Far w w' v v := fun k hk h => ⟨hb.block k hk, h⟩
theorem Far.of_grown {w w' : World} {v v' : Value} (h : w.grownBy w' v.ownBlock) (ho : v'.ownBlock = v.ownBlock ∨ v'.ownBlock = some w.heap.size) : Far w w' v v' := fun k hk hv => by
  refine ⟨h.block k hk (fun e => hv e.symm), ?_⟩
  rcases ho with e | e
  · rw [e]; exact hv
  · rw [e]; intro e2; injection e2 with e2; omega
section
variable {P : Program} {t e : TypeId} {z : Value} {bytes : Nat}
theorem run_appFull (T : STy P t e z 1 bytes) (w : World) (ty : TypeId) (base : Nat) (b : Addr) (n : Nat) (xs : List Value) (hx : xs.length = n) (hlo : Lies w b xs)
    (B : Nat) (A : Option Addr) (m c : Nat) (news : List Value) (hr : Reads w B 1 A m news) (hm : 0 < m)
    (hbytes : (n + m) * bytes ≤ 140737488355328) (h63 : n + m ≤ 9223372036854775807) (hbase : base ≤ w.heap.size) :
    ∃ A' c' w', (Builtin.append_ #[t, t] ty #[.slice (some b) n n, .slice A m c]).run P w = .ok (.slice A' (n + m) c') w' ∧ w'.ownsRow base e 1 (.slice A' (n + m) c') (n + m) (xs ++ news) ∧ Below w.heap.size w w' ∧ (Value.slice A' (n + m) c').ownBlock = some w.heap.size := by
  obtain ⟨i, hi, hz, hsize, hby⟩ := info_parts T.info
  subst hby
  have hnl : 0 < news.length := by rw [hr.1]; omega
  obtain ⟨a, rfl, _, hlie⟩ := hr.some_ hnl
  have hl := hr.1
  have hnews : ∀ j u, news[j]? = some u → w.cell? (a.add j) = some u := fun j u hu => hlie.get hu
  have holds : ∀ j u, xs[j]? = some u → w.cell? (b.add j) = some u := fun j u hu => hlo.get hu
  have h63' : n + m ≤ maxLen := by simp only [maxLen]; omega
  have hlen : (xs ++ news).length = (n + m) * 1 := by rw [List.length_append, hx, hl]; omega
  have hr := run_append_grow (P := P) w t ty e i z T.und hi hz b n n xs (by rw [hsize, hx]; omega) holds a m c news (by rw [hsize]; exact hl) hnews (by omega) (by omega) (growslice_fits (by omega) hbytes)
  have hge := grownCap_ge w (n + m) n e
  have hcm : grownCap w (n + m) n e ≤ maxLen := grownCap_le_maxLen w (n + m) n e h63'
  refine ⟨_, _, _, hr, ⟨hlen, .inr ⟨w.heap.size, _, _, rfl, hbase, heap_alloc_new w.drew _, hge, hcm, ?_, ?_⟩⟩, (Below.refl w.heap.size w).drew.alloc (Nat.le_refl _) _, rfl⟩
  · simp only [Array.size_append, List.size_toArray, size_zeroCells, T.zs, hx, hl]
    omega
  · simp only [Array.toList_append, List.append_assoc]
    rw [← List.append_assoc, ← hlen]
    exact List.take_left
end
/-- the slice is a row of the call's own that holds the bytes l; or it is full, and reads as l -/
def EO (base : Nat) (w : World) (A : Option Addr) (n c : Nat) (l : List UInt8) : Prop :=
  w.ownsRow base 5 1 (.slice A n c) n (bv l) ∨ (n = c ∧ l.length = n ∧ ∃ b, A = some b ∧ base ≤ b.block ∧ b.block < w.heap.size ∧ Lies w b (bv l))
theorem EO.len {base : Nat} {w : World} {A : Option Addr} {n c : Nat} {l : List UInt8} (h : EO base w A n c l) : l.length = n := by
  rcases h with h | ⟨_, h, _⟩
  · have := h.1; rw [length_bv] at this; omega
  · exact h
theorem EO.later {base : Nat} {w w' : World} {A : Option Addr} {n c : Nat} {l : List UInt8} (h : EO base w A n c l) (hb : Below w.heap.size w w') : EO base w' A n c l := by
  rcases h with h | ⟨h1, h2, b, h3, h4, h5, h6⟩
  · exact .inl (own_later h hb)
  · exact .inr ⟨h1, h2, b, h3, h4, Nat.lt_of_lt_of_le h5 hb.size, fun j hj => by rw [hb.cell (by rw [block_of_add]; exact h5)]; exact h6 j hj⟩
theorem wl_appE {w : World} {ops : Array Oper} {rest : List Oper} {o : Oper} {a : Act} {Q : Exit → Act → World → Prop} (hw : Region.wanted o (yielded ops a.tmps) = true) (s x : Operand)
    (ho : o.op = .call { callee := .builtin .append, args := #[s, x], argTypes := #[39, 39] })
    (A0 : Option Addr) (n c0 : Nat) (hs : a.eval s = .slice A0 n c0) (A : Option Addr) (m c : Nat) (hx : a.eval x = .slice A m c)
    (base : Nat) (l : List UInt8) (hown : EO base w A0 n c0 l)
    (B : Nat) (news : List UInt8) (hr : RB w B A m news) (hm : 0 < m)
    (hbytes : n + m ≤ 140737488355328) (hbase : base ≤ w.heap.size)
    (h : ∀ A' c' w', w'.ownsRow base 5 1 (.slice A' (n + m) c') (n + m) (bv (l ++ news)) → Below base w w' → Far w w' (.slice A0 n c0) (.slice A' (n + m) c') → wpList Tryd.prog ops Q rest (a.put o.dst (.slice A' (n + m) c')) w') : wpList Tryd.prog ops Q (o :: rest) a w := by
  rcases hown with hown | ⟨rfl, hl, b, rfl, hb1, hb2, hlie⟩
  · exact wl_app TB hw s x ho _ hs A m c hx base n (bv l) hown B (bv news) hr (bv_one _) (by omega) (by omega) hbase fun A' c' w' h1 h2 h3 => h A' c' w' (by rw [bv_append]; exact h1) ((Below.refl base w).grown h2 hbase (own_drop hown)) (Far.of_grown h2 h3)
  · obtain ⟨A', c', w', hrun, h1, h2, h3⟩ := run_appFull TB w o.type base b n (bv l) (by rw [length_bv]; exact hl) hlie B A m c (bv news) hr hm (by omega) (by omega) hbase
    exact wl_step hw fun _ hK => Lib.wp_append_run w s x 39 39 ho _ _ hs hx _ _ hrun (hK _ _ (h A' c' w' (by rw [bv_append]; exact h1) (h2.mono hbase) (fun k hk _ => ⟨h2.block k hk, by rw [h3]; intro e; injection e with e; omega⟩)))
end Go.Proofs.YtkmcjjoicpgjfaaDoor
