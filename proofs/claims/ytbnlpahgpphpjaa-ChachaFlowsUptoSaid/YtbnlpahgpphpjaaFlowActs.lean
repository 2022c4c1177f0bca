/-
  The acts among the arguments of ChachaFlows, opened; what the bound of its Upto statement gives of their parts; two flows carried from world to world. No statement of the seat is proved here.
-/
import Derived.Test.YtbnlpahgpphpjaaChaCount
import Derived.Test.YtbnlpahgpphpjaaOpenD
import Derived.Test.YtbnlpahgpphpjaaBulk
namespace Go.Proofs.Ytbnlpahgpphpjaa
open Go Go.RowKit Go.Sh Go.ChangeShapes Go.WideShapes Go.ChangeAt

/-- an act: a number; parts -/
structure FAct where
  n : Int
  A : Option Addr
  m : Nat
  c : Nat
  ls : List (List UInt8)
def RFActs (w : World) (B : Nat) (A : Option Addr) (m : Nat) (f : Nat → FAct) : Prop :=
  0 < m → ∃ b off, A = some ⟨b, off, none⟩ ∧ b < B ∧ ∀ i, i < m → (-9223372036854775808 ≤ (f i).n ∧ (f i).n ≤ 9223372036854775807) ∧ w.cell? ⟨b, off + i * 2, none⟩ = some (.int .i64 (f i).n) ∧
    w.cell? ⟨b, off + i * 2 + 1, none⟩ = some (.slice (f i).A (f i).m (f i).c) ∧ (f i).m ≤ (f i).c ∧ RBB w B (f i).A (f i).m (f i).ls
def HasFActs {H : Type} (d : DataW H) (m : Nat) (f : Nat → FAct) : Prop :=
  (d = .nil ∧ m = 0) ∨ ∃ es sp, d = .slice es sp ∧ es.length = m ∧ ∀ i, i < m → ∃ x y, es[i]? = some (.agg [x, y]) ∧ HasLists y (f i).ls
theorem HasFActs.len {H : Type} {d : DataW H} {m : Nat} {f : Nat → FAct} (h : HasFActs d m f) : HasLen d m := by
  rcases h with h | ⟨es, sp, h1, h2, _⟩
  · exact .inl h
  · exact .inr ⟨es, sp, h1, h2⟩

/-- a list of lists in a cell -/
theorem openBBc {H : Type} {enc : TypeId × Value → H} {P : Program} {W : World} {fuel : Nat} {t e u : TypeId} {v : Value} {y : DataW H × List MemPlace} (ht : P.underlying t = some (.slice e)) (hc : P.cellsOf e = 1) (he : P.underlying e = some (.slice u)) (hu : P.underlying u = some (.int .u8)) (hcu : P.cellsOf u = 1)
    (hf : DataW.trod enc P W 0 (fun _ => true) true fuel t [v] = some y) :
    ∃ A m c ls, v = .slice A m c ∧ RBB W W.heap.size A m ls ∧ m ≤ c ∧ HasLists y.1 ls := by
  rcases Go.Deep.open_slice1 ht hc hf with ⟨hcs, hx⟩ | ⟨a, n', c', m, q, V, D, Pl, hcs, _, hl, _, hm, hx, hi⟩
  · obtain rfl : v = .slice none 0 0 := by simpa using hcs
    subst hx
    exact ⟨none, 0, 0, [], rfl, ⟨rfl, [], Reads.none_, fun i hi => absurd hi (by omega)⟩, Nat.le_refl _, .inl ⟨rfl, rfl⟩⟩
  · obtain rfl : v = .slice (some a) n' c' := by simpa using hcs
    subst hx
    simp only [if_true] at hm
    subst hm
    have key : ∀ i, i < n' → ∃ x : List UInt8, ∃ Ai ni ci, V i = .slice Ai ni ci ∧ ni ≤ ci ∧ RB W W.heap.size Ai ni x ∧ HasLen (D i) ni := by
      intro i hin
      obtain ⟨_, hti⟩ := hi i (by omega)
      rcases open_ints he hu hcu hti with ⟨hcs, hx⟩ | ⟨x, l, cc, zs, hcs, _, hll, hmm, hz, hx, hcell, hwz⟩
      · have hv : V i = .slice none 0 0 := by simpa using hcs
        injection hx with hd' _
        exact ⟨[], none, 0, 0, hv, Nat.le_refl _, RB.none_, .inl ⟨hd', rfl⟩⟩
      · have hv : V i = .slice (some x) l cc := by simpa using hcs
        injection hx with hd' _
        simp only [if_true] at hz
        have hlen : (toB (zs.take l)).length = l := by simp [toB]; omega
        refine ⟨toB (zs.take l), some x, l, cc, hv, hll, ⟨by rw [length_bv, hlen]; omega, ?_⟩, .inr ⟨_, _, hd', by simp [lits]; omega⟩⟩
        rcases Nat.eq_zero_or_pos l with h0 | h0
        · left
          apply List.eq_nil_of_length_eq_zero
          rw [length_bv, hlen, h0]
        refine .inr ⟨x, rfl, ?_, fun j hj => ?_⟩
        · have := hcell 0 (by omega)
          have hb := World.block_lt_of_cell? W _ this
          rw [block_of_add] at hb
          exact hb
        · rw [length_bv, hlen] at hj
          rw [bv_at _ _ (by rw [hlen]; exact hj), hcell j (by omega), bt_toB _ _ (by rw [List.length_take]; omega) (fun q hq => hwz q (List.mem_of_mem_take hq))]
          congr 2
          simp [hj]
    obtain ⟨f, hfn⟩ := Go.Deep.choose_lt key
    have hlat : ∀ i, i < n' → lat ((List.range n').map f) i = f i := fun i hin => by simp [lat, hin]
    refine ⟨some a, n', m, (List.range n').map f, rfl, ⟨by simp, (List.range n').map V, ⟨by simp, ?_⟩, fun i hin => ?_⟩, hl, .inr ⟨_, _, rfl, by simp, fun i hin => ?_⟩⟩
    · rcases Nat.eq_zero_or_pos n' with h0 | h0
      · left
        rw [h0]
        rfl
      refine .inr ⟨a, rfl, ?_, fun j hj => ?_⟩
      · have hb := World.block_lt_of_cell? W _ (hi 0 (by omega)).1
        rw [block_of_add] at hb
        exact hb
      · have hjn : j < n' := by simpa using hj
        rw [(hi j (by omega)).1]
        simp [hjn]
    · obtain ⟨Ai, ni, ci, hv, hle, hrb, _⟩ := hfn i hin
      refine ⟨Ai, ni, ci, by simp [hin, hv], hle, ?_⟩
      rw [hlat i hin]
      exact hrb
    · have hin' : i < n' := by simpa using hin
      obtain ⟨Ai, ni, ci, hv, hle, hrb, hh⟩ := hfn i hin'
      refine ⟨D i, by simp [hin'], ?_⟩
      rw [hlat i hin', hrb.len]
      exact hh

set_option maxRecDepth 100000 in
theorem openFActs {H : Type} {enc : TypeId × Value → H} {W : World} {b0 : Nat} {r : Reach} {v : Value} {d : DataW H} {p : List MemPlace} (hok : Value.okWide Try.prog W r b0 53 v) (h : DataW.Trod enc Try.prog W 0 (fun _ => true) true 53 v d p) :
    ∃ A n c f, v = .slice A n c ∧ RFActs W W.heap.size A n f ∧ HasFActs d n f := by
  obtain ⟨A, n, c, D, rfl, _, hd, hx⟩ := openStructsD Try.underlying53 Try.underlying66 (by kernel_rfl) (by kernel_rfl) (by simp) hok h
  rcases Nat.eq_zero_or_pos n with h0 | h0
  · subst h0
    refine ⟨A, 0, c, fun _ => ⟨0, none, 0, 0, []⟩, rfl, fun h => absurd h (by omega), ?_⟩
    rcases hd with ⟨h1, _⟩ | ⟨sp, h1⟩
    · exact .inl ⟨h1, rfl⟩
    · exact .inr ⟨_, sp, h1, by simp, fun i hi => absurd hi (by omega)⟩
  · obtain ⟨b, off, rfl, hb, hi⟩ := hx h0
    have key : ∀ i, i < n → ∃ x : FAct, (-9223372036854775808 ≤ x.n ∧ x.n ≤ 9223372036854775807) ∧ W.cell? ⟨b, off + i * 2, none⟩ = some (.int .i64 x.n) ∧ W.cell? ⟨b, off + i * 2 + 1, none⟩ = some (.slice x.A x.m x.c) ∧ x.m ≤ x.c ∧ RBB W W.heap.size x.A x.m x.ls ∧ ∃ d1 d2, D i = .agg [d1, d2] ∧ HasLists d2 x.ls := by
      intro i hin
      obtain ⟨ys, fuel, hag, hyl, hf⟩ := hi i hin
      obtain ⟨x0, y0, e0, c0, t0⟩ := hf 0 _ rfl
      obtain ⟨x1, y1, e1, c1, t1⟩ := hf 1 _ rfl
      obtain ⟨z0, q0, _, w0⟩ := DataW.trod_int Try.underlying3 t0
      simp only [List.cons.injEq, and_true] at q0
      subst q0
      obtain ⟨A1, m1, cc1, ls, rfl, hr, hle, hl⟩ := openBBc Try.underlying41 (by kernel_rfl) Try.underlying28 Try.underlying5 (by kernel_rfl) t1
      have hy : ys = [y0, y1] := by
        match ys, hyl, e0, e1 with
        | [a, b], _, e0, e1 =>
          have h1 : a = y0 := by simpa using e0
          have h2 : b = y1 := by simpa using e1
          rw [h1, h2]
      rw [hy] at hag
      exact ⟨⟨z0, A1, m1, cc1, ls⟩, bounds_i64 w0, c0, c1, hle, hr, y0.1, y1.1, hag, hl⟩
    have : Inhabited FAct := ⟨⟨0, none, 0, 0, []⟩⟩
    obtain ⟨f, hf⟩ := Go.Deep.choose_lt key
    refine ⟨_, n, c, f, rfl, fun _ => ⟨b, off, rfl, hb, fun i hin => ?_⟩, ?_⟩
    · obtain ⟨h1, h2, h3, h4, h5, _⟩ := hf i hin
      exact ⟨h1, h2, h3, h4, h5⟩
    · rcases hd with ⟨_, h1⟩ | ⟨sp, h1⟩
      · omega
      · refine .inr ⟨_, sp, h1, by simp, fun i hin => ?_⟩
        obtain ⟨_, _, _, _, _, d1, d2, h6, h7⟩ := hf i hin
        exact ⟨d1, d2, by simp [hin, h6], h7⟩

theorem facts_le {H : Type} {ds : List (DataW H)} {d : DataW H} {n : Nat} {f : Nat → FAct} (hk : Rows.uptoBulkAll ds ≤ 1048576) (hm : d ∈ ds) (h : HasFActs d n f) : ∀ i, i < n → (f i).ls.flatten.length + (f i).ls.length ≤ 1048576 := by
  intro i hi
  have h1 := bulks.mem_le hm
  rcases h with ⟨_, h0⟩ | ⟨es, sp, rfl, hl, hi'⟩
  · omega
  · obtain ⟨x, y, h2, h3⟩ := hi' i hi
    have h4 := bulks.mem_le (List.mem_of_getElem? h2)
    simp only [Rows.uptoBulk] at h1 h4
    exact bulks.lists_le (ds := [x, y]) (by omega) (by simp) h3

theorem OBB.kept_far {w w' : World} {base e t m p : Nat} {v : Value} {ls : List (List UInt8)} (h : OBB w base e t v m ls) (hg : w.grownBy w' (some p)) (hp : p < base) : OBB w' base e t v m ls := by
  obtain ⟨h1, vs, ho, hi⟩ := h
  refine ⟨h1, vs, ho.kept hg (far_own ho hp), fun i hin => ?_⟩
  obtain ⟨Ai, ni, ci, hv, hrow⟩ := hi i hin
  exact ⟨Ai, ni, ci, hv, hrow.kept hg (far_own hrow hp)⟩

/-- two flows at one place, the second counted; nothing of w0 has turned -/
structure FInv (w0 w : World) (p1 p2 : Nat) (key : List UInt8) (u1 u2 cn : Nat) : Prop where
  f1 : FlowAt w 62 p1 [] key u1
  f2 : FlowAt w 64 p2 [.int .i64 (cn : Int)] key u2
  b : Below w0.heap.size w0 w
section
variable {w0 w w' : World} {p1 p2 u1 u2 cn : Nat} {key : List UInt8}
theorem FInv.later (h : FInv w0 w p1 p2 key u1 u2 cn) (hb : Below w.heap.size w w') : FInv w0 w' p1 p2 key u1 u2 cn := ⟨h.f1.below hb h.f1.lt, h.f2.below hb h.f2.lt, h.b.trans (hb.mono h.b.size)⟩
theorem FlowAt.grown {ty : TypeId} {p u : Nat} {rest : List Value} {row : Option Nat} (h : FlowAt w ty p rest key u) (hg : w.grownBy w' row) (hne : some p ≠ row) : FlowAt w' ty p rest key u := h.keep (hg.block p h.lt hne)
theorem FInv.grown {row : Option Nat} (h : FInv w0 w p1 p2 key u1 u2 cn) (hg : w.grownBy w' row) (h1 : some p1 ≠ row) (h2 : some p2 ≠ row) (h3 : ∀ g, row = some g → w0.heap.size ≤ g) : FInv w0 w' p1 p2 key u1 u2 cn :=
  ⟨h.f1.grown hg h1, h.f2.grown hg h2, h.b.grown hg h.b.size h3⟩
end
end Go.Proofs.Ytbnlpahgpphpjaa
