/-
  A program that is being made, in rows of the call's own, and the contracts of slices.Clip and slices.Clone (and bytes.Clone) at its types. Conditions: the sizes that slices can have.
-/
import Derived.Test.YtkmcjjoicpgjfaaDoorBdA
import Derived.Test.YtkmcjjoicpgjfaaDoorVerTwin
import Derived.Lib.SliceRun
namespace Go.Proofs.YtkmcjjoicpgjfaaDoor
open Go Go.RowKit Go.Sh

theorem own_agree {w W : World} {base e size n : Nat} {v : Value} {xs : List Value} (h : w.ownsRow base e size v n xs) (hk : ∀ k, v.ownBlock = some k → W.heap[k]? = w.heap[k]?) : W.ownsRow base e size v n xs := by
  refine ⟨h.1, ?_⟩
  rcases h.2 with hn | ⟨g, cap, cur, rfl, hb, hgg, rest⟩
  · exact .inl hn
  · exact .inr ⟨g, cap, cur, rfl, hb, (hk g rfl).trans hgg, rest⟩
/-- a row of the call's own whose block is one of S -/
def OwS (w : World) (base : Nat) (S : Nat → Prop) (e size : Nat) (v : Value) (n : Nat) (xs : List Value) : Prop := w.ownsRow base e size v n xs ∧ ∀ k, v.ownBlock = some k → S k
section
variable {w w' : World} {base e size n : Nat} {S S' : Nat → Prop} {v : Value} {xs : List Value}
theorem OwS.agree (h : OwS w base S e size v n xs) (ha : ∀ k, S k → w'.heap[k]? = w.heap[k]?) : OwS w' base S e size v n xs := ⟨own_agree h.1 fun k hk => ha k (h.2 k hk), h.2⟩
theorem OwS.mono (h : OwS w base S e size v n xs) (hs : ∀ k, S k → S' k) : OwS w base S' e size v n xs := ⟨h.1, fun k hk => hs k (h.2 k hk)⟩
end
/-- instructions as cells -/
def inv (l : List Ins) : List Value := (l.map Ins.cells).flatten
theorem inv_len (l : List Ins) : (inv l).length = l.length * 3 := by
  unfold inv
  induction l with
  | nil => rfl
  | cons i l ih => rw [List.map_cons, List.flatten_cons, List.length_append, ih]; simp [Ins.cells]; omega
theorem inv_app (a b : List Ins) : inv (a ++ b) = inv a ++ inv b := by simp [inv]
theorem inv_one (l : List Ins) : ∀ u ∈ inv l, u.oneCell' = true := by
  intro u hu
  simp only [inv, List.mem_flatten, List.mem_map] at hu
  obtain ⟨cs, ⟨i, _, rfl⟩, hu⟩ := hu
  simp only [Ins.cells, List.mem_cons, List.not_mem_nil, or_false] at hu
  rcases hu with rfl | rfl | rfl <;> rfl
/-- the program p in rows of the call's own, all their blocks among S; d: the slices as they stand, t: with their rows' own capacities -/
structure PO (w : World) (base : Nat) (S : Nat → Prop) (d t : Pad) (p : Prg) : Prop where
  lo : ∀ k, S k → base ≤ k ∧ k < w.heap.size
  code : OwS w base S 33 3 (.slice d.A1 d.n1 t.c1) d.n1 (inv p.code)
  lc : p.code.length = d.n1
  lm : p.msgs.length = d.n2
  msgs : ∃ vs, OwS w base S 39 1 (.slice d.A2 d.n2 t.c2) d.n2 vs ∧ ∀ i, i < d.n2 → ∃ Ai ni ci, vs[i]? = some (.slice Ai ni ci) ∧ OwS w base S 5 1 (.slice Ai ni ci) ni (bv (lat p.msgs i))
  lr : p.rts.length = d.n3
  rts : ∃ vs, OwS w base S 40 1 (.slice d.A3 d.n3 t.c3) d.n3 vs ∧ ∀ i, i < d.n3 → ∃ Ai ni ci, vs[i]? = some (.slice Ai ni ci) ∧ OwS w base S 66 3 (.slice Ai ni ci) ni (spv (rat p.rts i)) ∧ (rat p.rts i).length = ni
  ls : p.snds.length = d.n4
  snds : ∃ css : List (List Value), OwS w base S 43 3 (.slice d.A4 d.n4 t.c4) d.n4 css.flatten ∧ css.length = d.n4 ∧ (∀ cs ∈ css, cs.length = 3) ∧ ∀ i, i < d.n4 → ∃ Ai ni ci, css[i]? = some [.int .i64 (dat p.snds i).msg, .slice Ai ni ci, .int .i64 (dat p.snds i).blk] ∧ OwS w base S 3 1 (.slice Ai ni ci) ni (iv (dat p.snds i).rts) ∧ ∀ z ∈ (dat p.snds i).rts, -9223372036854775808 ≤ z ∧ z ≤ 9223372036854775807
  k1 : d.n1 ≤ d.c1
  k2 : d.n2 ≤ d.c2
  k3 : d.n3 ≤ d.c3
  k4 : d.n4 ≤ d.c4
section
variable {w w' : World} {base : Nat} {S S' : Nat → Prop} {d t : Pad} {p : Prg}
/-- nothing of S has turned, S may have grown -/
theorem PO.kept (h : PO w base S d t p) (ha : ∀ k, S k → w'.heap[k]? = w.heap[k]?) (hs : ∀ k, S k → S' k) (hlo : ∀ k, S' k → base ≤ k ∧ k < w'.heap.size) : PO w' base S' d t p := by
  obtain ⟨lo, code, lc, lm, ⟨vm, hm, im⟩, lr, ⟨vr, hr, ir⟩, ls, ⟨vs, hsn, hl, h3, is⟩, k1, k2, k3, k4⟩ := h
  refine ⟨hlo, (code.agree ha).mono hs, lc, lm, ⟨vm, (hm.agree ha).mono hs, fun i hi => ?_⟩, lr, ⟨vr, (hr.agree ha).mono hs, fun i hi => ?_⟩, ls, ⟨vs, (hsn.agree ha).mono hs, hl, h3, fun i hi => ?_⟩, k1, k2, k3, k4⟩
  · obtain ⟨Ai, ni, ci, h1, h2⟩ := im i hi
    exact ⟨Ai, ni, ci, h1, (h2.agree ha).mono hs⟩
  · obtain ⟨Ai, ni, ci, h1, h2, h3⟩ := ir i hi
    exact ⟨Ai, ni, ci, h1, (h2.agree ha).mono hs, h3⟩
  · obtain ⟨Ai, ni, ci, h1, h2, h3⟩ := is i hi
    exact ⟨Ai, ni, ci, h1, (h2.agree ha).mono hs, h3⟩
theorem PO.later (h : PO w base S d t p) (hb : Below w.heap.size w w') : PO w' base S d t p :=
  h.kept (fun k hk => hb.block k (h.lo k hk).2) (fun _ h => h) fun k hk => ⟨(h.lo k hk).1, Nat.lt_of_lt_of_le (h.lo k hk).2 hb.size⟩
theorem PO.grown (h : PO w base S d t p) {g : Nat} (hg : w.grownBy w' (some g)) (hne : ¬ S g) : PO w' base S d t p :=
  h.kept (fun k hk => hg.block k (h.lo k hk).2 (by intro e; injection e with e; subst e; exact hne hk)) (fun _ h => h) fun k hk => ⟨(h.lo k hk).1, Nat.lt_of_lt_of_le (h.lo k hk).2 hg.size⟩
/-- the program as it is read -/
theorem PO.pr (h : PO w base S d t p) (hn1 : d.n1 ≤ 140737488355328) (hn2 : d.n2 ≤ 140737488355328) (hn3 : d.n3 ≤ 140737488355328) (hn4 : d.n4 ≤ 140737488355328) : PR w w.heap.size d p := by
  obtain ⟨lo, code, lc, lm, ⟨vm, hm, im⟩, lr, ⟨vr, hr, ir⟩, ls, ⟨vs, hsn, hl, h3, is⟩, k1, k2, k3, k4⟩ := h
  refine ⟨?_, ⟨lm, vm, Reads.of_own hm.1, fun i hi => ?_⟩, ⟨lr, vr, Reads.of_own hr.1, fun i hi => ?_⟩, ⟨ls, vs, RR.of_own hsn.1 hl h3, fun i hi => ?_⟩, k1, k2, k3, k4, hn1, hn2, hn3, hn4⟩
  · exact RR.of_own code.1 (by rw [List.length_map]; exact lc) (fun cs hcs => by obtain ⟨x, _, rfl⟩ := List.mem_map.1 hcs; rfl)
  · obtain ⟨Ai, ni, ci, h1, h2⟩ := im i hi
    exact ⟨Ai, ni, ci, h1, own_cap h2.1, RB.of_own h2.1⟩
  · obtain ⟨Ai, ni, ci, h1, h2, h4⟩ := ir i hi
    exact ⟨Ai, ni, ci, h1, own_cap h2.1, RR.of_own h2.1 (by rw [List.length_map]; exact h4) (spv_len _)⟩
  · obtain ⟨Ai, ni, ci, h1, h2, h4⟩ := is i hi
    exact ⟨Ai, ni, ci, h1, own_cap h2.1, RI.of_own h2.1 h4⟩
end
/-- the builder in block b -/
def BlkB (w : World) (b : Nat) (d : Pad) (p : Prg) : Prop := w.heap[b]? = some (.cells (pcs d p) 37 (0, 0))
/-- nothing yet -/
def pad0 : Pad := ⟨none, 0, 0, none, 0, 0, none, 0, 0, none, 0, 0⟩
def prg0 : Prg := ⟨[], [], [], [], 0, 0, 0, 0⟩
theorem PO.nil (w : World) (base : Nat) : PO w base (fun _ => False) pad0 pad0 prg0 :=
  ⟨fun _ h => h.elim, ⟨World.ownsRow_nil _ _ _ _, fun k h => by cases h⟩, rfl, rfl, ⟨[], ⟨World.ownsRow_nil _ _ _ _, fun k h => by cases h⟩, fun i hi => absurd hi (Nat.not_lt_zero i)⟩, rfl,
    ⟨[], ⟨World.ownsRow_nil _ _ _ _, fun k h => by cases h⟩, fun i hi => absurd hi (Nat.not_lt_zero i)⟩, rfl, ⟨[], ⟨World.ownsRow_nil _ _ _ _, fun k h => by cases h⟩, rfl, (fun _ h => by cases h), fun i hi => absurd hi (Nat.not_lt_zero i)⟩,
    Nat.le_refl _, Nat.le_refl _, Nat.le_refl _, Nat.le_refl _⟩
theorem run_sl3 {P : Program} {t e : TypeId} {z : Value} {size bytes : Nat} (T : STy P t e z size bytes) (w : World) (A : Option Addr) (n c : Nat) (k k' : IntKind) (h2 : n ≤ c) :
    (Instr.slice t (.slice A n c) none (some (.int k (n : Int))) (some (.int k' (n : Int)))).run P w = .ok (.slice A n n) w := by
  obtain ⟨i, hi, hz, hsize, hby⟩ := info_parts T.info
  have e3 : A.map (fun x => x.add 0) = A := by
    cases A with
    | none => rfl
    | some a => simp [Addr.add]
  simp [Instr.slice, run_underlying T.und, Instr.sliceBounds, Instr.sliceBound, asIntOf, sizeOf, typeInfo, hi, h2, e3]
/-- a slice is handed back cut to its length -/
def ClipPost (w : World) (A : Option Addr) (n : Nat) (e : Ending) (w' : World) : Prop := e = .returned (.slice A n n) ∧ w = w'
set_option maxRecDepth 100000 in
theorem ClipIn_any (A : Option Addr) (n c : Nat) (w : World) (h : n ≤ c) : Calls Tryd.prog 32 #[.slice A n c] w (ClipPost w A n) := by
  have hsl : ∀ W, (Instr.slice 22 (.slice A n c) none (some (.int .i64 (n : Int))) (some (.int .i64 (n : Int)))).run Tryd.prog W = .ok (.slice A n n) W := fun W => run_sl3 TIn W A n c .i64 .i64 h
  go_enter Tryd.func32, Tryd.ntmps32
  go_wp2_with fail
  go_ret
  exact ⟨rfl, rfl⟩
set_option maxRecDepth 100000 in
theorem ClipBB_any (A : Option Addr) (n c : Nat) (w : World) (h : n ≤ c) : Calls Tryd.prog 56 #[.slice A n c] w (ClipPost w A n) := by
  have hsl : ∀ W, (Instr.slice 26 (.slice A n c) none (some (.int .i64 (n : Int))) (some (.int .i64 (n : Int)))).run Tryd.prog W = .ok (.slice A n n) W := fun W => run_sl3 TBB W A n c .i64 .i64 h
  go_enter Tryd.func56, Tryd.ntmps56
  go_wp2_with fail
  go_ret
  exact ⟨rfl, rfl⟩
set_option maxRecDepth 100000 in
theorem ClipSS_any (A : Option Addr) (n c : Nat) (w : World) (h : n ≤ c) : Calls Tryd.prog 59 #[.slice A n c] w (ClipPost w A n) := by
  have hsl : ∀ W, (Instr.slice 27 (.slice A n c) none (some (.int .i64 (n : Int))) (some (.int .i64 (n : Int)))).run Tryd.prog W = .ok (.slice A n n) W := fun W => run_sl3 TSS W A n c .i64 .i64 h
  go_enter Tryd.func59, Tryd.ntmps59
  go_wp2_with fail
  go_ret
  exact ⟨rfl, rfl⟩
set_option maxRecDepth 100000 in
theorem ClipSp_any (A : Option Addr) (n c : Nat) (w : World) (h : n ≤ c) : Calls Tryd.prog 64 #[.slice A n c] w (ClipPost w A n) := by
  have hsl : ∀ W, (Instr.slice 28 (.slice A n c) none (some (.int .i64 (n : Int))) (some (.int .i64 (n : Int)))).run Tryd.prog W = .ok (.slice A n n) W := fun W => run_sl3 TSp W A n c .i64 .i64 h
  go_enter Tryd.func64, Tryd.ntmps64
  go_wp2_with fail
  go_ret
  exact ⟨rfl, rfl⟩
/-- a copy in a row of the call's own, nil for nil -/
def ClonePost (w : World) (e size n : Nat) (xs : List Value) (x : Ending) (w' : World) : Prop :=
  ∃ A' c', x = .returned (.slice A' n c') ∧ w'.ownsRow w.heap.size e size (.slice A' n c') n xs ∧ Below w.heap.size w w'
set_option maxRecDepth 100000 in
theorem CloneIn_any (A : Option Addr) (n c : Nat) (xs : List Value) (w : World) (B : Nat) (hr : Reads w B 3 A n xs) (h1 : ∀ u ∈ xs, u.oneCell' = true) (hB : B ≤ w.heap.size) (hn : n * 24 ≤ 140737488355328) : Calls Tryd.prog 54 #[.slice A n c] w (ClonePost w 33 3 n xs) := by
  have HR := Lib.hid hr
  have HO := Lib.hid h1
  have hmb : (0 + n) * 24 ≤ 140737488355328 := by omega
  clear hr h1
  have hnil : ∀ (W : World), (binOp .eql 22 (.slice A n c) (.slice none 0 0)).run Tryd.prog W = .ok (.bool A.isNone) W := fun W => by rw [Lib.run_eql_slice_nil (P := Tryd.prog) W _ _ A n c 0 0 Tryd.underlying22]
  cases A with
  | none =>
    have hx : xs = [] := HR.out.2.resolve_right fun h => by
      obtain ⟨ad, h, _⟩ := h
      cases h
    subst hx
    obtain rfl : n = 0 := by have := HR.out.1; simp at this; omega
    go_enter Tryd.func54, Tryd.ntmps54
    go_wp2_with fail
    go_ret
    exact ⟨_, _, rfl, World.ownsRow_nil _ _ _ _, Below.refl _ _⟩
  | some a =>
    go_enter Tryd.func54, Tryd.ntmps54
    go_wp2_with (at_builtin; refine wl_app TIn rfl (.tmp 5) (.tmp 6) rfl (.slice (some ⟨w.heap.size, 0, none⟩) 0 0) rfl (some a) n c rfl w.heap.size 0 [] ?h1 B xs ?h2 HO.out hmb (by omega) (by simp) ?h6)
    case h1 => exact World.ownsRow_lit w #[] 0 (Nat.le_refl _) (by simp) rfl
    case h2 => exact HR.out.alloc hB _
    case h6 =>
      intro A1 c1 w1 hown hg _
      try simp only [Nat.zero_add, List.nil_append] at hown ⊢
      go_wp2_with fail
      go_ret
      exact ⟨_, _, rfl, hown, ((Below.refl _ _).alloc (Nat.le_refl _) _).grown hg (by simp) (by simp [Value.ownBlock])⟩
set_option maxRecDepth 100000 in
theorem CloneSt_any (A : Option Addr) (n c : Nat) (xs : List Value) (w : World) (B : Nat) (hr : Reads w B 3 A n xs) (h1 : ∀ u ∈ xs, u.oneCell' = true) (hB : B ≤ w.heap.size) (hn : n * 32 ≤ 140737488355328) : Calls Tryd.prog 60 #[.slice A n c] w (ClonePost w 66 3 n xs) := by
  have HR := Lib.hid hr
  have HO := Lib.hid h1
  have hmb : (0 + n) * 32 ≤ 140737488355328 := by omega
  clear hr h1
  have hnil : ∀ (W : World), (binOp .eql 40 (.slice A n c) (.slice none 0 0)).run Tryd.prog W = .ok (.bool A.isNone) W := fun W => by rw [Lib.run_eql_slice_nil (P := Tryd.prog) W _ _ A n c 0 0 Tryd.underlying40]
  cases A with
  | none =>
    have hx : xs = [] := HR.out.2.resolve_right fun h => by
      obtain ⟨ad, h, _⟩ := h
      cases h
    subst hx
    obtain rfl : n = 0 := by have := HR.out.1; simp at this; omega
    go_enter Tryd.func60, Tryd.ntmps60
    go_wp2_with fail
    go_ret
    exact ⟨_, _, rfl, World.ownsRow_nil _ _ _ _, Below.refl _ _⟩
  | some a =>
    go_enter Tryd.func60, Tryd.ntmps60
    go_wp2_with (at_builtin; refine wl_app TSt rfl (.tmp 5) (.tmp 6) rfl (.slice (some ⟨w.heap.size, 0, none⟩) 0 0) rfl (some a) n c rfl w.heap.size 0 [] ?h1 B xs ?h2 HO.out hmb (by omega) (by simp) ?h6)
    case h1 => exact World.ownsRow_lit w #[] 0 (Nat.le_refl _) (by simp) rfl
    case h2 => exact HR.out.alloc hB _
    case h6 =>
      intro A1 c1 w1 hown hg _
      try simp only [Nat.zero_add, List.nil_append] at hown ⊢
      go_wp2_with fail
      go_ret
      exact ⟨_, _, rfl, hown, ((Below.refl _ _).alloc (Nat.le_refl _) _).grown hg (by simp) (by simp [Value.ownBlock])⟩
set_option maxRecDepth 100000 in
theorem CloneI_any (A : Option Addr) (n c : Nat) (xs : List Value) (w : World) (B : Nat) (hr : Reads w B 1 A n xs) (h1 : ∀ u ∈ xs, u.oneCell' = true) (hB : B ≤ w.heap.size) (hn : n * 8 ≤ 140737488355328) : Calls Tryd.prog 63 #[.slice A n c] w (ClonePost w 3 1 n xs) := by
  have HR := Lib.hid hr
  have HO := Lib.hid h1
  have hmb : (0 + n) * 8 ≤ 140737488355328 := by omega
  clear hr h1
  have hnil : ∀ (W : World), (binOp .eql 41 (.slice A n c) (.slice none 0 0)).run Tryd.prog W = .ok (.bool A.isNone) W := fun W => by rw [Lib.run_eql_slice_nil (P := Tryd.prog) W _ _ A n c 0 0 Tryd.underlying41]
  cases A with
  | none =>
    have hx : xs = [] := HR.out.2.resolve_right fun h => by
      obtain ⟨ad, h, _⟩ := h
      cases h
    subst hx
    obtain rfl : n = 0 := by have := HR.out.1; simp at this; omega
    go_enter Tryd.func63, Tryd.ntmps63
    go_wp2_with fail
    go_ret
    exact ⟨_, _, rfl, World.ownsRow_nil _ _ _ _, Below.refl _ _⟩
  | some a =>
    go_enter Tryd.func63, Tryd.ntmps63
    go_wp2_with (at_builtin; refine wl_app TIt rfl (.tmp 5) (.tmp 6) rfl (.slice (some ⟨w.heap.size, 0, none⟩) 0 0) rfl (some a) n c rfl w.heap.size 0 [] ?h1 B xs ?h2 HO.out hmb (by omega) (by simp) ?h6)
    case h1 => exact World.ownsRow_lit w #[] 0 (Nat.le_refl _) (by simp) rfl
    case h2 => exact HR.out.alloc hB _
    case h6 =>
      intro A1 c1 w1 hown hg _
      try simp only [Nat.zero_add, List.nil_append] at hown ⊢
      go_wp2_with fail
      go_ret
      exact ⟨_, _, rfl, hown, ((Below.refl _ _).alloc (Nat.le_refl _) _).grown hg (by simp) (by simp [Value.ownBlock])⟩
set_option maxRecDepth 100000 in
theorem CloneB_any (A : Option Addr) (n c : Nat) (xs : List Value) (w : World) (B : Nat) (hr : Reads w B 1 A n xs) (h1 : ∀ u ∈ xs, u.oneCell' = true) (hB : B ≤ w.heap.size) (hn : n * 1 ≤ 140737488355328) : Calls Tryd.prog 57 #[.slice A n c] w (ClonePost w 5 1 n xs) := by
  have HR := Lib.hid hr
  have HO := Lib.hid h1
  have hmb : (0 + n) * 1 ≤ 140737488355328 := by omega
  clear hr h1
  have hnil : ∀ (W : World), (binOp .eql 39 (.slice A n c) (.slice none 0 0)).run Tryd.prog W = .ok (.bool A.isNone) W := fun W => by rw [Lib.run_eql_slice_nil (P := Tryd.prog) W _ _ A n c 0 0 Tryd.underlying39]
  cases A with
  | none =>
    have hx : xs = [] := HR.out.2.resolve_right fun h => by
      obtain ⟨ad, h, _⟩ := h
      cases h
    subst hx
    obtain rfl : n = 0 := by have := HR.out.1; simp at this; omega
    go_enter Tryd.func57, Tryd.ntmps57
    go_wp2_with fail
    go_ret
    exact ⟨_, _, rfl, World.ownsRow_nil _ _ _ _, Below.refl _ _⟩
  | some a =>
    go_enter Tryd.func57, Tryd.ntmps57
    go_wp2_with (at_builtin; refine wl_app TB rfl (.tmp 5) (.tmp 6) rfl (.slice (some ⟨w.heap.size, 0, none⟩) 0 0) rfl (some a) n c rfl w.heap.size 0 [] ?h1 B xs ?h2 HO.out hmb (by omega) (by simp) ?h6)
    case h1 => exact World.ownsRow_lit w #[] 0 (Nat.le_refl _) (by simp) rfl
    case h2 => exact HR.out.alloc hB _
    case h6 =>
      intro A1 c1 w1 hown hg _
      try simp only [Nat.zero_add, List.nil_append] at hown ⊢
      go_wp2_with fail
      go_ret
      exact ⟨_, _, rfl, hown, ((Below.refl _ _).alloc (Nat.le_refl _) _).grown hg (by simp) (by simp [Value.ownBlock])⟩
end Go.Proofs.YtkmcjjoicpgjfaaDoor
