/-
  Words for memory and laws of the walk in these words, over any program: a slice that reads as a list of cells (nil let in), rows that the call owns, append, append of noughts, make, copy. No statement of the seat is proved here.
-/
import Derived.WalkKit
import Derived.WalkSpells
import Derived.Below
import Derived.Laws.OwnMore
import Derived.Laws.CopyOwn
import Derived.Maps.AppendAt
import Derived.Deep.AppendLies
import Derived.Deep.Draws
import Derived.Deep.Slices
import Derived.Deep.QuietTactic
import Derived.BigQuiet
import Derived.Lib.Hide
import Derived.LoopTactic
import Derived.RegionTactic
import Derived.OwnWalk
import Derived.Lib.AppendZerosOnto
namespace Go.Sh
open Go Go.RowKit

theorem block_of_add (a : Addr) (n : Nat) : (a.add n).block = a.block := by
  rcases Nat.eq_zero_or_pos n with h | h
  · rw [h]; rfl
  · rw [Addr.add, if_neg (by omega)]
theorem add_of_add (a : Addr) (i j : Nat) : (a.add i).add j = a.add (i + j) := Go.Deep.add_add a i j
theorem add_zero (a : Addr) : a.add 0 = a := by simp [Addr.add]
theorem add_mk (g o i : Nat) : (⟨g, o, none⟩ : Addr).add i = ⟨g, o + i, none⟩ := Addr.add_lit g o i

/-- from ad on lie the cells xs -/
def Lies (w : World) (ad : Addr) (xs : List Value) : Prop := ∀ j, j < xs.length → w.cell? (ad.add j) = xs[j]?
theorem Lies.get {w : World} {ad : Addr} {xs : List Value} (h : Lies w ad xs) {j : Nat} {u : Value} (hu : xs[j]? = some u) : w.cell? (ad.add j) = some u :=
  (h j (List.getElem?_eq_some_iff.1 hu).1).trans hu

/-- the slice value '.slice A n c' has n elements of size cells each, the cells xs; where there are any they lie at A, below block B -/
def Reads (w : World) (B size : Nat) (A : Option Addr) (n : Nat) (xs : List Value) : Prop :=
  xs.length = n * size ∧ (xs = [] ∨ ∃ ad, A = some ad ∧ ad.block < B ∧ Lies w ad xs)

section
variable {w w' : World} {B B' size n : Nat} {A : Option Addr} {xs : List Value}
theorem Reads.none_ : Reads w B size A 0 [] := ⟨(Nat.zero_mul _).symm, .inl rfl⟩
theorem Reads.some_ (h : Reads w B size A n xs) (hn : 0 < xs.length) : ∃ ad, A = some ad ∧ ad.block < B ∧ Lies w ad xs :=
  h.2.resolve_left fun e => by rw [e] at hn; cases hn
theorem Reads.at_ {k : Nat} (h : Reads w B 1 A n xs) (hk : k < n) : ∃ ad u, A = some ad ∧ ad.block < B ∧ xs[k]? = some u ∧ w.cell? (ad.add k) = some u := by
  have hl : k < xs.length := by rw [h.1]; omega
  obtain ⟨ad, e, hb, hc⟩ := h.some_ (by omega)
  exact ⟨ad, _, e, hb, List.getElem?_eq_getElem hl, hc.get (List.getElem?_eq_getElem hl)⟩
/-- what lies below B is as it was: so is what is read there -/
theorem Reads.keep (h : Reads w B size A n xs) (hk : ∀ p : Addr, p.block < B → w'.cell? p = w.cell? p) : Reads w' B size A n xs := by
  refine ⟨h.1, h.2.imp id ?_⟩
  rintro ⟨ad, e, hb, hc⟩
  refine ⟨ad, e, hb, fun j hj => ?_⟩
  rw [hk (ad.add j) (by rw [block_of_add]; exact hb)]
  exact hc j hj
theorem Reads.more (h : Reads w B size A n xs) (hB : B ≤ B') : Reads w B' size A n xs := by
  refine ⟨h.1, h.2.imp id ?_⟩
  rintro ⟨ad, e, hb, hc⟩
  exact ⟨ad, e, Nat.lt_of_lt_of_le hb hB, hc⟩
theorem Reads.below (h : Reads w B size A n xs) (hb : Below B w w') : Reads w' B size A n xs := h.keep fun _ hp => hb.cell hp
theorem Reads.drew (h : Reads w B size A n xs) : Reads w.drew B size A n xs := h
theorem Reads.drewN (h : Reads w B size A n xs) (k : Nat) : Reads (w.drewN k) B size A n xs := h
theorem Reads.alloc (h : Reads w B size A n xs) (hB : B ≤ w.heap.size) (o : Obj) : Reads (w.alloc o) B size A n xs := h.below ((Below.refl B w).alloc hB o)
theorem Reads.setCell (h : Reads w B size A n xs) {p : Addr} (hB : B ≤ p.block) (u : Value) : Reads (w.setCell p u) B size A n xs := h.below ((Below.refl B w).setCell hB u)
theorem Reads.grown (h : Reads w B size A n xs) {row : Option Nat} (hg : w.grownBy w' row) (hB : B ≤ w.heap.size) (hr : ∀ g, row = some g → B ≤ g) : Reads w' B size A n xs :=
  h.below ((Below.refl B w).grown hg hB hr)
theorem Reads.of_own {base : Nat} {e : TypeId} {c : Nat} (h : w.ownsRow base e size (.slice A n c) n xs) : Reads w w.heap.size size A n xs := by
  refine ⟨h.1, ?_⟩
  rcases h.2 with ⟨_, h0⟩ | ⟨g, cap, cur, hv, _, hh, _⟩
  · left
    apply List.eq_nil_of_length_eq_zero
    rw [h.1, h0, Nat.zero_mul]
  · injection hv with hv
    subst hv
    exact .inr ⟨_, rfl, (Array.getElem?_eq_some_iff.1 hh).1, fun j hj => (h.cells (g := g) rfl j _ (List.getElem?_eq_getElem hj)).trans (List.getElem?_eq_getElem hj).symm⟩
theorem Reads.take {k : Nat} (h : Reads w B size A n xs) (hk : k ≤ n) : Reads w B size A k (xs.take (k * size)) := by
  have hl : k * size ≤ n * size := Nat.mul_le_mul_right _ hk
  refine ⟨by rw [List.length_take, h.1]; omega, ?_⟩
  rcases h.2 with e | ⟨ad, e, hb, hc⟩
  · left
    rw [e, List.take_nil]
  · refine .inr ⟨ad, e, hb, fun j hj => ?_⟩
    rw [List.length_take] at hj
    rw [List.getElem?_take, if_pos (by omega)]
    exact hc j (by omega)
/-- 's[k:]': the address as the walk writes it -/
theorem Reads.cut (h : Reads w B size A n xs) {k cap : Nat} (hk : k ≤ n) (hc : n ≤ cap) :
    Reads w B size (if cap = k then A else A.map (·.add (k * size))) (n - k) (xs.drop (k * size)) := by
  have hl : (xs.drop (k * size)).length = (n - k) * size := by rw [List.length_drop, h.1, Nat.sub_mul]
  refine ⟨hl, ?_⟩
  by_cases hkn : k = n
  · left
    apply List.eq_nil_of_length_eq_zero
    rw [hl, hkn, Nat.sub_self, Nat.zero_mul]
  · rw [if_neg (by omega)]
    rcases h.2 with e | ⟨ad, e, hb, hcell⟩
    · left
      rw [e, List.drop_nil]
    · refine .inr ⟨ad.add (k * size), by rw [e]; rfl, by rw [block_of_add]; exact hb, fun j hj => ?_⟩
      rw [List.length_drop] at hj
      rw [add_of_add, List.getElem?_drop]
      exact hcell _ (by omega)
end

section
variable {w w' : World} {base e size n : Nat} {v : Value} {xs : List Value}
theorem own_below {B : Nat} (h : w.ownsRow base e size v n xs) (hb : Below B w w') (hv : ∀ k, v.ownBlock = some k → k < B) : w'.ownsRow base e size v n xs := by
  refine ⟨h.1, ?_⟩
  rcases h.2 with hn | ⟨g, cap, cur, rfl, hbg, hgg, rest⟩
  · exact .inl hn
  · exact .inr ⟨g, cap, cur, rfl, hbg, by rw [hb.block g (hv g rfl)]; exact hgg, rest⟩
theorem own_later (h : w.ownsRow base e size v n xs) (hb : Below w.heap.size w w') : w'.ownsRow base e size v n xs := own_below h hb fun k hk => (h.lt k hk).2
theorem own_base {base' : Nat} (h : w.ownsRow base e size v n xs) (hb : base' ≤ base) : w.ownsRow base' e size v n xs := by
  refine ⟨h.1, ?_⟩
  rcases h.2 with hn | ⟨g, cap, cur, rfl, hbg, rest⟩
  · exact .inl hn
  · exact .inr ⟨g, cap, cur, rfl, by omega, rest⟩
theorem own_drewN (h : w.ownsRow base e size v n xs) (k : Nat) : (w.drewN k).ownsRow base e size v n xs := h
/-- an owned row raised to a higher base: its block is known -/
theorem own_up {base' : Nat} (h : w.ownsRow base e size v n xs) (hb : ∀ k, v.ownBlock = some k → base' ≤ k) : w.ownsRow base' e size v n xs := by
  refine ⟨h.1, ?_⟩
  rcases h.2 with hn | ⟨g, cap, cur, rfl, hbg, rest⟩
  · exact .inl hn
  · exact .inr ⟨g, cap, cur, rfl, hb g rfl, rest⟩
end

theorem below_drewN {B : Nat} {a w : World} (h : Below B a w) (k : Nat) : Below B a (w.drewN k) := ⟨h.os, h.tape, h.output, h.size, h.block⟩
theorem below_up {B : Nat} {a b c : World} (h : Below B a b) (k : Below b.heap.size b c) (hB : B ≤ a.heap.size) : Below B a c := h.trans (k.mono (Nat.le_trans hB h.size))

/-- an operation that is carried out (it has no guard, or its guard holds): the walk's own step -/
theorem wl_step {P : Program} {ops : Array Oper} {Q : Exit → Act → World → Prop} {a : Act} {w : World} {rest : List Oper} {o : Oper} (hw : Region.wanted o (yielded ops a.tmps) = true)
    (h : ∀ K : Act → World → Prop, (∀ a w, wpList P ops Q rest a w → K a w) → o.wp P a w K Q) : wpList P ops Q (o :: rest) a w :=
  wpList_step fun K hK => by rw [if_pos hw]; exact h K hK

/-- a slice's type, its element's type and what the table says of it -/
structure STy (P : Program) (t e : TypeId) (z : Value) (size bytes : Nat) : Prop where
  und : P.underlying t = some (.slice e)
  info : (P.info? e).map (fun i => (i.zero, i.size, i.bytes)) = some (some z, size, bytes)
  zs : z.cells.size = size
  pos : 0 < size

section
variable {P : Program} {t e : TypeId} {z : Value} {size bytes : Nat}

theorem own_form {w : World} {base e size n : Nat} {v : Value} {xs : List Value} (h : w.ownsRow base e size v n xs) : ∃ A c, v = .slice A n c := by
  rcases h.2 with ⟨rfl, rfl⟩ | ⟨g, cap, _, rfl, _⟩
  · exact ⟨none, 0, rfl⟩
  · exact ⟨_, cap, rfl⟩

set_option maxRecDepth 100000 in
/-- append onto a row of the call's own, the source nil, empty or not -/
theorem run_app (T : STy P t e z size bytes) (w : World) (ty : TypeId) (base : Nat)
    (v : Value) (n : Nat) (xs : List Value) (hown : w.ownsRow base e size v n xs)
    (B : Nat) (A : Option Addr) (m c : Nat) (news : List Value) (hr : Reads w B size A m news) (h1 : ∀ u ∈ news, u.oneCell' = true)
    (hbytes : (n + m) * bytes ≤ 140737488355328) (h63 : n + m ≤ 9223372036854775807) (hbase : base ≤ w.heap.size) :
    ∃ A' c' w', (Builtin.append_ #[t, t] ty #[v, .slice A m c]).run P w = .ok (.slice A' (n + m) c') w' ∧ w'.ownsRow base e size (.slice A' (n + m) c') (n + m) (xs ++ news) ∧ w.grownBy w' v.ownBlock ∧
      ((Value.slice A' (n + m) c').ownBlock = v.ownBlock ∨ (Value.slice A' (n + m) c').ownBlock = some w.heap.size) := by
  obtain ⟨i, hi, hz, hsize, hby⟩ := info_parts T.info
  have hsz := T.pos
  rcases A with _ | ad
  · have hn : news = [] := hr.2.resolve_right fun h => by
      obtain ⟨ad, h, _⟩ := h
      cases h
    subst hn
    obtain rfl : m = 0 := by
      rcases Nat.eq_zero_or_pos m with h0 | h0
      · exact h0
      · exact absurd hr.1 (Nat.ne_of_lt (Nat.mul_pos h0 hsz))
    obtain ⟨A, c0, rfl⟩ := own_form hown
    refine ⟨A, c0, w, ?_, by simpa using hown, World.grownBy.refl w _, .inl rfl⟩
    have hfit : n ≤ c0 := by
      rcases hown.2 with ⟨h, h0⟩ | ⟨g, cap, cur, h, _, _, hnc, _⟩
      · omega
      · injection h with _ _ h
        omega
    have hz0 : ∀ a : Addr, (storeCells a [] 0).run P w = .ok () w := fun _ => rfl
    cases A <;> simp [Builtin.append_, run_underlying T.und, sizeOf, typeInfo, hi, Builtin.lenOf, Builtin.firstCells, hfit, hz0]
  · have hcells : ∀ j u, news[j]? = some u → w.cell? (ad.add j) = some u := by
      intro j u hu
      have hj := (List.getElem?_eq_some_iff.1 hu).1
      obtain ⟨ad', h, _, hc⟩ := hr.some_ (by omega)
      injection h with h
      subst h
      exact hc.get hu
    obtain ⟨v', w', hrun, h2, h3, _, h5⟩ := run_append_own_at (P := P) w base t ty e i z size bytes T.und hi hz hsize hby T.zs T.pos v n xs hown ad m c news hr.1 hcells h1 (by simp only [maxLen]; omega) hbytes hbase
    obtain ⟨A', c', rfl⟩ := own_form h2
    exact ⟨A', c', w', hrun, h2, h3, h5⟩

theorem wp_app (T : STy P t e z size bytes) (w : World) {o : Oper} {a : Act} {K : Act → World → Prop} {Q : Exit → Act → World → Prop} (s x : Operand)
    (ho : o.op = .call { callee := .builtin .append, args := #[s, x], argTypes := #[t, t] })
    (v : Value) (hs : a.eval s = v) (A : Option Addr) (m c : Nat) (hx : a.eval x = .slice A m c)
    (base : Nat) (n : Nat) (xs : List Value) (hown : w.ownsRow base e size v n xs)
    (B : Nat) (news : List Value) (hr : Reads w B size A m news) (h1 : ∀ u ∈ news, u.oneCell' = true)
    (hbytes : (n + m) * bytes ≤ 140737488355328) (h63 : n + m ≤ 9223372036854775807) (hbase : base ≤ w.heap.size)
    (h : ∀ A' c' w', w'.ownsRow base e size (.slice A' (n + m) c') (n + m) (xs ++ news) → w.grownBy w' v.ownBlock → ((Value.slice A' (n + m) c').ownBlock = v.ownBlock ∨ (Value.slice A' (n + m) c').ownBlock = some w.heap.size) → K (a.put o.dst (.slice A' (n + m) c')) w') : o.wp P a w K Q := by
  obtain ⟨A', c', w', hrun, h2, h3, h4⟩ := run_app T w o.type base v n xs hown B A m c news hr h1 hbytes h63 hbase
  unfold Oper.wp execOp
  simp only [ho, resolve, invoke, builtin, Sem.run_bind, Sem.run_pure, Result.andThen_ok, List.map_toArray, List.map_cons, List.map_nil, hs, hx, hrun]
  exact h A' c' w' h2 h3 h4

theorem wl_app (T : STy P t e z size bytes) {w : World} {ops : Array Oper} {rest : List Oper} {o : Oper} {a : Act} {Q : Exit → Act → World → Prop} (hw : Region.wanted o (yielded ops a.tmps) = true) (s x : Operand)
    (ho : o.op = .call { callee := .builtin .append, args := #[s, x], argTypes := #[t, t] })
    (v : Value) (hs : a.eval s = v) (A : Option Addr) (m c : Nat) (hx : a.eval x = .slice A m c)
    (base : Nat) (n : Nat) (xs : List Value) (hown : w.ownsRow base e size v n xs)
    (B : Nat) (news : List Value) (hr : Reads w B size A m news) (h1 : ∀ u ∈ news, u.oneCell' = true)
    (hbytes : (n + m) * bytes ≤ 140737488355328) (h63 : n + m ≤ 9223372036854775807) (hbase : base ≤ w.heap.size)
    (h : ∀ A' c' w', w'.ownsRow base e size (.slice A' (n + m) c') (n + m) (xs ++ news) → w.grownBy w' v.ownBlock → ((Value.slice A' (n + m) c').ownBlock = v.ownBlock ∨ (Value.slice A' (n + m) c').ownBlock = some w.heap.size) → wpList P ops Q rest (a.put o.dst (.slice A' (n + m) c')) w') : wpList P ops Q (o :: rest) a w :=
  wl_step hw fun _ hK => wp_app T w s x ho v hs A m c hx base n xs hown B news hr h1 hbytes h63 hbase fun A' c' w' h2 h3 h4 => hK _ _ (h A' c' w' h2 h3 h4)

set_option maxRecDepth 100000 in
/-- the same as one step of a region that draws its order (for go_region_held3, go_region_law) -/
theorem step_app (T : STy P t e z size bytes) {w : World} {ops : Array Oper} {o : Oper} {a : Act} {K : Act → World → Prop} {Q : Exit → Act → World → Prop} {E : Prop} (hw : Region.wanted o (yielded ops a.tmps) = true) (s x : Operand)
    (ho : o.op = .call { callee := .builtin .append, args := #[s, x], argTypes := #[t, t] })
    (v : Value) (hs : a.eval s = v) (A : Option Addr) (m c : Nat) (hx : a.eval x = .slice A m c)
    (base : Nat) (n : Nat) (xs : List Value) (hown : w.ownsRow base e size v n xs)
    (B : Nat) (news : List Value) (hr : Reads w B size A m news) (h1 : ∀ u ∈ news, u.oneCell' = true)
    (hbytes : (n + m) * bytes ≤ 140737488355328) (h63 : n + m ≤ 9223372036854775807) (hbase : base ≤ w.heap.size)
    (h : ∀ A' c' w', w'.ownsRow base e size (.slice A' (n + m) c') (n + m) (xs ++ news) → w.grownBy w' v.ownBlock → ((Value.slice A' (n + m) c').ownBlock = v.ownBlock ∨ (Value.slice A' (n + m) c').ownBlock = some w.heap.size) → K (a.put o.dst (.slice A' (n + m) c')) w') :
    if Region.wanted o (yielded ops a.tmps) = true then Oper.wp P o a w K Q else E := by
  rw [if_pos hw]
  exact wp_app T w s x ho v hs A m c hx base n xs hown B news hr h1 hbytes h63 hbase h

/-- make([]T, n) -/
theorem wl_make (T : STy P t e z size bytes) {w : World} {ops : Array Oper} {rest : List Oper} {o : Oper} {a : Act} {Q : Exit → Act → World → Prop}
    (hw : Region.wanted o (yielded ops a.tmps) = true) (l c : Operand) (hop : o.op = Op.makeSlice t l c) (kl kc : IntKind) (L C : Int) (hl : a.eval l = .int kl L) (hc : a.eval c = .int kc C)
    (n : Nat) (hL : L = (n : Int)) (hC : C = (n : Int)) (b2 : bytes * n ≤ 281474976710656) (b3 : n ≤ 9223372036854775807) (base : Nat) (b4 : base ≤ w.heap.size)
    (hK : ∀ w', w'.ownsRow base e size (.slice (some ⟨w.heap.size, 0, none⟩) n n) n (madeCells z.cells (n * size)).toList → w.grownBy w' none → w.heap.size < w'.heap.size → wpList P ops Q rest (a.put o.dst (.slice (some ⟨w.heap.size, 0, none⟩) n n)) w') :
    wpList P ops Q (o :: rest) a w := by
  obtain ⟨i, hi, hz, hsize, hby⟩ := info_parts T.info
  obtain ⟨w', hrun, r1, r2⟩ := run_make_full (P := P) w base t e i z size T.und hi hz hsize kl kc n (by rw [hby]; exact b2) (by simp only [maxLen]; omega) b4
  subst hL
  subst hC
  have hlt : w.heap.size < w'.heap.size := by
    rcases r1.2 with ⟨h, _⟩ | ⟨g, cap, cur, h, _, hh, _⟩
    · cases h
    · injection h with h
      injection h with h
      injection h with h
      subst h
      exact (Array.getElem?_eq_some_iff.1 hh).1
  refine wl_step hw fun K hK' => ?_
  unfold Oper.wp
  simp [execOp, hop, hl, hc, hrun, Result.andThen]
  exact hK' _ _ (hK w' r1 r2 hlt)

/-- make([]T, 0, n) -/
theorem wl_make0 (T : STy P t e z size bytes) {w : World} {ops : Array Oper} {rest : List Oper} {o : Oper} {a : Act} {Q : Exit → Act → World → Prop}
    (hw : Region.wanted o (yielded ops a.tmps) = true) (l c : Operand) (hop : o.op = Op.makeSlice t l c) (kl kc : IntKind) (C : Int) (hl : a.eval l = .int kl 0) (hc : a.eval c = .int kc C)
    (n : Nat) (hC : C = (n : Int)) (b2 : bytes * n ≤ 281474976710656) (b3 : n ≤ 9223372036854775807) (base : Nat) (b4 : base ≤ w.heap.size)
    (hK : ∀ w', w'.ownsRow base e size (.slice (some ⟨w.heap.size, 0, none⟩) 0 n) 0 [] → w.grownBy w' none → w.heap.size < w'.heap.size → wpList P ops Q rest (a.put o.dst (.slice (some ⟨w.heap.size, 0, none⟩) 0 n)) w') :
    wpList P ops Q (o :: rest) a w := by
  obtain ⟨i, hi, hz, hsize, hby⟩ := info_parts T.info
  obtain ⟨w', hrun, r1, r2⟩ := run_make_own (P := P) w base t e i z size T.und hi hz hsize kl kc n (by rw [hby]; exact b2) (by simp only [maxLen]; omega) b4
  subst hC
  have hlt : w.heap.size < w'.heap.size := by
    rcases r1.2 with ⟨h, _⟩ | ⟨g, cap, cur, h, _, hh, _⟩
    · cases h
    · injection h with h
      injection h with h
      injection h with h
      subst h
      exact (Array.getElem?_eq_some_iff.1 hh).1
  refine wl_step hw fun K hK' => ?_
  unfold Oper.wp
  simp [execOp, hop, hl, hc, hrun, Result.andThen]
  exact hK' _ _ (hK w' r1 r2 hlt)
end

/-- copy(dst, src) where dst is an owned row of one-cell elements: as many cells as the shorter has -/
theorem wl_copy {P : Program} {t t' e : TypeId} {z : Value} {bytes : Nat} (T : STy P t e z 1 bytes) {w : World} {ops : Array Oper} {rest : List Oper} {o : Oper} {a : Act} {Q : Exit → Act → World → Prop} (hgd : o.guard = none) (d s : Operand)
    (ho : o.op = .call { callee := .builtin .copy, args := #[d, s], argTypes := #[t, t'] })
    (D : Option Addr) (n cn : Nat) (hd : a.eval d = .slice D n cn) (A : Option Addr) (m c : Nat) (hs : a.eval s = .slice A m c)
    (base : Nat) (xs : List Value) (hown : w.ownsRow base e 1 (.slice D n cn) n xs) (B : Nat) (ys : List Value) (hr : Reads w B 1 A m ys) (h1 : ∀ u ∈ ys, u.oneCell' = true)
    (h : ∀ w', w'.ownsRow base e 1 (.slice D n cn) n (ys.take n ++ xs.drop m) → w.grownBy w' (Value.slice D n cn).ownBlock → wpList P ops Q rest (a.put o.dst (.int .i64 (min m n : Nat))) w') :
    wpList P ops Q (o :: rest) a w := by
  obtain ⟨i, hi, hz, hsize, hby⟩ := info_parts T.info
  have hsz : (P.info? e).map (·.size) = some 1 := by rw [hi]; simp [hsize]
  have hxs : xs.length = n := by have := hown.1; omega
  have hys : ys.length = m := by have := hr.1; omega
  by_cases h0 : Nat.min m n = 0
  · refine wpList_copy_nothing hgd d s t t' ho e T.und hsz D A n cn m c hd hs h0 ?_
    have e0 : ys.take n ++ xs.drop m = xs := by
      rcases Nat.eq_zero_or_pos m with hm | hm
      · subst hm
        rw [List.eq_nil_of_length_eq_zero hys]
        simp
      · have hn0 : n = 0 := by
          rcases Nat.eq_zero_or_pos n with hn | hn
          · exact hn
          · exact absurd h0 (by show ¬ min m n = 0; omega)
        subst hn0
        rw [List.eq_nil_of_length_eq_zero hxs]
        simp
    have h' := h w (by rw [e0]; exact hown) (World.grownBy.refl w _)
    have em : (min m n : Nat) = 0 := h0
    rw [em] at h'
    exact h'
  · have hmn : 0 < m ∧ 0 < n := by have : ¬ min m n = 0 := h0; omega
    rcases hown.2 with ⟨_, hn⟩ | ⟨g, cap, cur, hv, hbg, hg, hnc, hcm, hcs, htake⟩
    · omega
    · injection hv with hD hnn hcc
      subst hD
      subst hcc
      obtain ⟨ad, rfl, _, hc⟩ := hr.some_ (by omega)
      have hlen : (ys.take n).length = Nat.min m n := by rw [List.length_take, hys]; exact Nat.min_comm _ _
      have hcur : cur.size = cn := by omega
      refine wpList_copy_own hgd d s t t' ho e T.und hsz g 0 n cn ad m c hd hs cur e hg (ys.take n) hlen (fun j v hv => hc.get ?_) (by rw [hlen, hcur]; show 0 + min m n ≤ cn; omega) (fun v hv => h1 v (List.mem_of_mem_take hv)) ?_
      · rw [List.getElem?_take] at hv
        split at hv
        · exact hv
        · cases hv
      · have hgi : goInt (ys.take n).length = .int .i64 (min m n : Nat) := by rw [hlen]; rfl
        rw [hgi]
        refine h _ ?_ ?_
        · refine ⟨?_, .inr ⟨g, cn, _, rfl, hbg, setRow_heap w g cur _ e _ hg, hnc, hcm, ?_, ?_⟩⟩
          · simp only [List.length_append, List.length_take, List.length_drop, hys, hxs]; omega
          · simp only [List.take_zero, List.nil_append, List.size_toArray, List.length_append, List.length_take, List.length_drop, Array.length_toList, hys, hcur]; omega
          · simp only [List.take_zero, List.nil_append, Nat.zero_add, hlen]
            rw [← htake, Nat.mul_one]
            rcases Nat.le_total m n with hle | hle
            · have e1 : Nat.min m n = m := Nat.min_eq_left hle
              rw [e1, List.take_of_length_le (l := ys) (by omega), List.take_append, hys, List.take_of_length_le (l := ys) (by omega), List.drop_take]
            · have e1 : Nat.min m n = n := Nat.min_eq_right hle
              rw [e1, List.take_left' (by rw [List.length_take]; omega), List.drop_eq_nil_of_le (as := cur.toList.take n) (by rw [List.length_take]; omega), List.append_nil]
        · exact ⟨rfl, rfl, rfl, by simp [World.setRow], fun k _ hk => setRow_other w g k _ (fun e => hk (by simp [Value.ownBlock, e]))⟩

set_option maxRecDepth 100000 in
/-- append(s, make([]T, m)...) onto an owned row, elements of one cell -/
theorem run_app0 {P : Program} {t tn e : TypeId} {z : Value} {bytes : Nat} (T : STy P t e z 1 bytes) (hz1 : z.oneCell' = true) (hzc : z.cells = #[z]) {kn : IntKind} (htn : P.underlying tn = some (.int kn)) (w : World) (ty : TypeId) (base : Nat) (kq : IntKind)
    (v : Value) (n : Nat) (xs : List Value) (hown : w.ownsRow base e 1 v n xs) (m : Nat)
    (hbytes : (n + m) * bytes ≤ 140737488355328) (h63 : n + m ≤ 9223372036854775807) (hbase : base ≤ w.heap.size) (hnil : v ≠ .slice none 0 0) :
    ∃ A' c' w', (Builtin.append_ #[t, tn] ty #[v, .int kq (m : Int)]).run P w = .ok (.slice A' (n + m) c') w' ∧ w'.ownsRow base e 1 (.slice A' (n + m) c') (n + m) (xs ++ List.replicate m z) ∧ w.grownBy w' v.ownBlock ∧
      ((Value.slice A' (n + m) c').ownBlock = v.ownBlock ∨ (Value.slice A' (n + m) c').ownBlock = some w.heap.size) := by
  obtain ⟨i, hi, hz, hsize, hby⟩ := info_parts T.info
  have hxs : xs.length = n := by have := hown.1; omega
  have hzl : ∀ k, (Builtin.zeroCells z.cells k).toList = List.replicate k z := by
    intro k
    rw [hzc]
    apply List.ext_getElem <;> simp [Builtin.zeroCells, Nat.mod_one]
  have hza : ∀ k, Builtin.zeroCells z.cells k = (List.replicate k z).toArray := by
    intro k
    rw [← hzl k]
  have hw : IntKind.i64.wrap (m : Int) = m := by rw [IntKind.wrap_i64]; omega
  have hmb : m * bytes ≤ 140737488355328 := Nat.le_trans (Nat.mul_le_mul_right _ (by omega)) hbytes
  have h48i : ¬ (281474976710656 < (m : Int) * (i.bytes : Int)) := by
    rw [hby, ← Int.natCast_mul]
    omega
  have hneg : ¬ ((m : Int) < 0) := by omega
  rcases hown.2 with ⟨rfl, _⟩ | ⟨g, cap, cur, rfl, hbg, hg, hnc, hcm, hcs, htake⟩
  · exact absurd rfl hnil
  · rw [Nat.mul_one] at hcs htake
    by_cases hroom : n + m ≤ cap
    · by_cases hm0 : m = 0
      · subst hm0
        refine ⟨some ⟨g, 0, none⟩, cap, w, ?_, by simpa using hown, World.grownBy.refl w _, .inl rfl⟩
        simp [Builtin.append_, run_underlying T.und, run_underlying htn, sizeOf, typeInfo, hi, asInt, asIntOf, storeCells, hnc, IntKind.wrap_i64]
      · have hst := run_storeCells_at P g n e (List.replicate m z) 0 cur w hg (by rw [List.length_replicate]; omega) (fun u hu => by rw [List.eq_of_mem_replicate hu]; exact hz1)
        simp only [Nat.add_zero, List.length_replicate] at hst
        refine ⟨some ⟨g, 0, none⟩, cap, w.setRow g (cur.toList.take n ++ List.replicate m z ++ cur.toList.drop (n + m)).toArray, ?_, ?_, ?_, .inl rfl⟩
        · simp only [Builtin.append_]
          simp [run_underlying T.und, run_underlying htn, sizeOf, typeInfo, zeroValue, hi, hz, asInt, asIntOf, hw, h48i, hneg, hm0, hroom, hsize, hza, Addr.add_lit, hst]
        · refine ⟨by rw [List.length_append, List.length_replicate]; omega, .inr ⟨g, cap, _, rfl, hbg, setRow_heap w g cur _ e _ hg, hroom, hcm, ?_, ?_⟩⟩
          · simp only [List.size_toArray, List.length_append, List.length_take, List.length_drop, Array.length_toList, List.length_replicate]; omega
          · rw [Nat.mul_one, htake, List.take_left' (by rw [List.length_append, List.length_replicate]; omega)]
        · exact ⟨rfl, rfl, rfl, by simp [World.setRow], fun k _ hk => setRow_other w g k _ (fun e => hk (by simp [Value.ownBlock, e]))⟩
    · have hcells : ∀ j u, xs[j]? = some u → w.drew.cell? ((⟨g, 0, none⟩ : Addr).add j) = some u := hown.cells (g := g) rfl
      have hold := run_firstCells_some (P := P) w.drew i.size n ⟨g, 0, none⟩ n cap xs (by rw [hsize]; omega) hcells
      have hr := Lib.run_append_grow_zeros (P := P) w t tn ty e i z kq kn T.und htn hi hz (some ⟨g, 0, none⟩) n cap xs hold m (by omega) (by omega) (by omega) (by omega) (by rw [hby]; omega)
        (by
          have h1 := nextslicecap_le (need := n + m) (old := cap) (by omega)
          have h2 : Builtin.nextslicecap (n + m) cap * i.bytes ≤ 2 * (n + m) * i.bytes := Nat.mul_le_mul_right _ h1
          rw [hby] at h2 ⊢
          have h3 : 2 * (n + m) * bytes = 2 * ((n + m) * bytes) := Nat.mul_assoc _ _ _
          omega)
      have hge := grownCap_ge w (n + m) cap e
      have hcm' : grownCap w (n + m) cap e ≤ maxLen := grownCap_le_maxLen w (n + m) cap e (by simp only [maxLen]; omega)
      refine ⟨_, _, _, hr, ⟨by rw [List.length_append, List.length_replicate]; omega, .inr ⟨w.heap.size, _, _, rfl, hbase, heap_alloc_new w.drew _, hge, hcm', ?_, ?_⟩⟩, ⟨rfl, rfl, rfl, by simp, fun k hk _ => Below.heap_alloc w.drew _ k hk⟩, .inr rfl⟩
      · simp only [hza, Array.size_append, List.size_toArray, List.length_replicate]; omega
      · simp only [hza, Array.toList_append, Nat.mul_one]
        rw [List.take_left' (by rw [List.length_append, List.length_replicate]; omega)]

theorem wl_app0 {P : Program} {t tn e : TypeId} {z : Value} {bytes : Nat} (T : STy P t e z 1 bytes) (hz1 : z.oneCell' = true) (hzc : z.cells = #[z]) {kn : IntKind} (htn : P.underlying tn = some (.int kn)) {w : World} {ops : Array Oper} {rest : List Oper} {o : Oper} {a : Act} {Q : Exit → Act → World → Prop} (hw : Region.wanted o (yielded ops a.tmps) = true) (s x : Operand)
    (ho : o.op = .call { callee := .builtin .append, args := #[s, x], argTypes := #[t, tn] })
    (v : Value) (hs : a.eval s = v) (kq : IntKind) (M : Int) (hx : a.eval x = .int kq M)
    (base : Nat) (n : Nat) (xs : List Value) (hown : w.ownsRow base e 1 v n xs) (m : Nat) (hM : M = (m : Int))
    (hbytes : (n + m) * bytes ≤ 140737488355328) (h63 : n + m ≤ 9223372036854775807) (hbase : base ≤ w.heap.size) (hnil : v ≠ .slice none 0 0)
    (h : ∀ A' c' w', w'.ownsRow base e 1 (.slice A' (n + m) c') (n + m) (xs ++ List.replicate m z) → w.grownBy w' v.ownBlock → ((Value.slice A' (n + m) c').ownBlock = v.ownBlock ∨ (Value.slice A' (n + m) c').ownBlock = some w.heap.size) → wpList P ops Q rest (a.put o.dst (.slice A' (n + m) c')) w') : wpList P ops Q (o :: rest) a w := by
  subst hM
  obtain ⟨A', c', w', hrun, h2, h3, h4⟩ := run_app0 T hz1 hzc htn w o.type base kq v n xs hown m hbytes h63 hbase hnil
  exact wl_step hw fun _ hK => Lib.wp_append_run w s x t tn ho v _ hs hx _ _ hrun (hK _ _ (h A' c' w' h2 h3 h4))

/-! ### bit operations as operations of the standard words -/
theorem bits_u8_xor (x y : UInt8) : bits .xor .u8 (x.toNat : Int) (y.toNat : Int) = ((x ^^^ y).toNat : Int) := by
  have h := (x ^^^ y).toNat_lt
  have e : bits .xor .u8 (x.toNat : Int) (y.toNat : Int) = IntKind.u8.wrap ((BitVec.ofNat 8 x.toNat ^^^ BitVec.ofNat 8 y.toNat).toNat : Int) := by
    simp only [bits, BitVec.ofInt_natCast]
    rfl
  rw [e, BitVec.toNat_xor, BitVec.toNat_ofNat, BitVec.toNat_ofNat, Nat.mod_eq_of_lt x.toNat_lt, Nat.mod_eq_of_lt y.toNat_lt, ← UInt8.toNat_xor, IntKind.wrap_u8]
  omega
theorem bits_u8_or (x y : UInt8) : bits .or .u8 (x.toNat : Int) (y.toNat : Int) = ((x ||| y).toNat : Int) := by
  have h := (x ||| y).toNat_lt
  have e : bits .or .u8 (x.toNat : Int) (y.toNat : Int) = IntKind.u8.wrap ((BitVec.ofNat 8 x.toNat ||| BitVec.ofNat 8 y.toNat).toNat : Int) := by
    simp only [bits, BitVec.ofInt_natCast]
    rfl
  rw [e, BitVec.toNat_or, BitVec.toNat_ofNat, BitVec.toNat_ofNat, Nat.mod_eq_of_lt x.toNat_lt, Nat.mod_eq_of_lt y.toNat_lt, ← UInt8.toNat_or, IntKind.wrap_u8]
  omega
theorem bits_u8_and (x y : UInt8) : bits .and .u8 (x.toNat : Int) (y.toNat : Int) = ((x &&& y).toNat : Int) := by
  have h := (x &&& y).toNat_lt
  have e : bits .and .u8 (x.toNat : Int) (y.toNat : Int) = IntKind.u8.wrap ((BitVec.ofNat 8 x.toNat &&& BitVec.ofNat 8 y.toNat).toNat : Int) := by
    simp only [bits, BitVec.ofInt_natCast]
    rfl
  rw [e, BitVec.toNat_and, BitVec.toNat_ofNat, BitVec.toNat_ofNat, Nat.mod_eq_of_lt x.toNat_lt, Nat.mod_eq_of_lt y.toNat_lt, ← UInt8.toNat_and, IntKind.wrap_u8]
  omega
theorem bits_u32_xor (x y : UInt32) : bits .xor .u32 (x.toNat : Int) (y.toNat : Int) = ((x ^^^ y).toNat : Int) := by
  have h := (x ^^^ y).toNat_lt
  have e : bits .xor .u32 (x.toNat : Int) (y.toNat : Int) = IntKind.u32.wrap ((BitVec.ofNat 32 x.toNat ^^^ BitVec.ofNat 32 y.toNat).toNat : Int) := by
    simp only [bits, BitVec.ofInt_natCast]
    rfl
  rw [e, BitVec.toNat_xor, BitVec.toNat_ofNat, BitVec.toNat_ofNat, Nat.mod_eq_of_lt x.toNat_lt, Nat.mod_eq_of_lt y.toNat_lt, ← UInt32.toNat_xor, IntKind.wrap_u32]
  omega
theorem bits_u32_or (x y : UInt32) : bits .or .u32 (x.toNat : Int) (y.toNat : Int) = ((x ||| y).toNat : Int) := by
  have h := (x ||| y).toNat_lt
  have e : bits .or .u32 (x.toNat : Int) (y.toNat : Int) = IntKind.u32.wrap ((BitVec.ofNat 32 x.toNat ||| BitVec.ofNat 32 y.toNat).toNat : Int) := by
    simp only [bits, BitVec.ofInt_natCast]
    rfl
  rw [e, BitVec.toNat_or, BitVec.toNat_ofNat, BitVec.toNat_ofNat, Nat.mod_eq_of_lt x.toNat_lt, Nat.mod_eq_of_lt y.toNat_lt, ← UInt32.toNat_or, IntKind.wrap_u32]
  omega
theorem bits_u32_and (x y : UInt32) : bits .and .u32 (x.toNat : Int) (y.toNat : Int) = ((x &&& y).toNat : Int) := by
  have h := (x &&& y).toNat_lt
  have e : bits .and .u32 (x.toNat : Int) (y.toNat : Int) = IntKind.u32.wrap ((BitVec.ofNat 32 x.toNat &&& BitVec.ofNat 32 y.toNat).toNat : Int) := by
    simp only [bits, BitVec.ofInt_natCast]
    rfl
  rw [e, BitVec.toNat_and, BitVec.toNat_ofNat, BitVec.toNat_ofNat, Nat.mod_eq_of_lt x.toNat_lt, Nat.mod_eq_of_lt y.toNat_lt, ← UInt32.toNat_and, IntKind.wrap_u32]
  omega
theorem bits_u64_xor (x y : UInt64) : bits .xor .u64 (x.toNat : Int) (y.toNat : Int) = ((x ^^^ y).toNat : Int) := by
  have h := (x ^^^ y).toNat_lt
  have e : bits .xor .u64 (x.toNat : Int) (y.toNat : Int) = IntKind.u64.wrap ((BitVec.ofNat 64 x.toNat ^^^ BitVec.ofNat 64 y.toNat).toNat : Int) := by
    simp only [bits, BitVec.ofInt_natCast]
    rfl
  rw [e, BitVec.toNat_xor, BitVec.toNat_ofNat, BitVec.toNat_ofNat, Nat.mod_eq_of_lt x.toNat_lt, Nat.mod_eq_of_lt y.toNat_lt, ← UInt64.toNat_xor, IntKind.wrap_u64]
  omega
theorem bits_u64_or (x y : UInt64) : bits .or .u64 (x.toNat : Int) (y.toNat : Int) = ((x ||| y).toNat : Int) := by
  have h := (x ||| y).toNat_lt
  have e : bits .or .u64 (x.toNat : Int) (y.toNat : Int) = IntKind.u64.wrap ((BitVec.ofNat 64 x.toNat ||| BitVec.ofNat 64 y.toNat).toNat : Int) := by
    simp only [bits, BitVec.ofInt_natCast]
    rfl
  rw [e, BitVec.toNat_or, BitVec.toNat_ofNat, BitVec.toNat_ofNat, Nat.mod_eq_of_lt x.toNat_lt, Nat.mod_eq_of_lt y.toNat_lt, ← UInt64.toNat_or, IntKind.wrap_u64]
  omega
theorem bits_u64_and (x y : UInt64) : bits .and .u64 (x.toNat : Int) (y.toNat : Int) = ((x &&& y).toNat : Int) := by
  have h := (x &&& y).toNat_lt
  have e : bits .and .u64 (x.toNat : Int) (y.toNat : Int) = IntKind.u64.wrap ((BitVec.ofNat 64 x.toNat &&& BitVec.ofNat 64 y.toNat).toNat : Int) := by
    simp only [bits, BitVec.ofInt_natCast]
    rfl
  rw [e, BitVec.toNat_and, BitVec.toNat_ofNat, BitVec.toNat_ofNat, Nat.mod_eq_of_lt x.toNat_lt, Nat.mod_eq_of_lt y.toNat_lt, ← UInt64.toNat_and, IntKind.wrap_u64]
  omega

/-! ### bytes -/
/-- byte k of l as a number (a plain definition: the walk leaves it standing) -/
def bt (l : List UInt8) (k : Nat) : Int := ((l.getD k 0).toNat : Int)
theorem bt_lo (l : List UInt8) (k : Nat) : 0 ≤ bt l k := by unfold bt; omega
theorem bt_hi (l : List UInt8) (k : Nat) : bt l k ≤ 255 := by unfold bt; have := (l.getD k 0).toNat_lt; omega
/-- bytes as cells -/
def bv (l : List UInt8) : List Value := l.map fun x => .int .u8 (x.toNat : Int)
theorem length_bv (l : List UInt8) : (bv l).length = l.length := by simp [bv]
theorem bv_one (l : List UInt8) : ∀ u ∈ bv l, u.oneCell' = true := by
  intro u hu
  obtain ⟨_, _, rfl⟩ := List.mem_map.1 hu
  rfl
theorem bv_append (l r : List UInt8) : bv (l ++ r) = bv l ++ bv r := by simp [bv]
theorem bv_at (l : List UInt8) (k : Nat) (h : k < l.length) : (bv l)[k]? = some (.int .u8 (bt l k)) := by
  simp [bv, bt, List.getElem?_eq_getElem h]
theorem bv_inj {l r : List UInt8} (h : bv l = bv r) : l = r := by
  have hinj : ∀ x y : UInt8, Value.int .u8 (x.toNat : Int) = Value.int .u8 (y.toNat : Int) → x = y := by
    intro x y hxy
    injection hxy with _ hxy
    exact UInt8.toNat_inj.1 (by omega)
  exact List.map_inj_right hinj |>.1 h
theorem bt_inj {l r : List UInt8} {k : Nat} (h : bt l k = bt r k) : l.getD k 0 = r.getD k 0 := by
  unfold bt at h
  exact UInt8.toNat_inj.1 (by omega)

/-- '.slice A n c' reads as the bytes l and lies below block B -/
def RB (w : World) (B : Nat) (A : Option Addr) (n : Nat) (l : List UInt8) : Prop := Reads w B 1 A n (bv l)
section
variable {w w' : World} {B B' n : Nat} {A : Option Addr} {l : List UInt8}
theorem RB.len (h : RB w B A n l) : l.length = n := by have := h.1; rw [length_bv] at this; omega
theorem RB.none_ : RB w B A 0 [] := Reads.none_
theorem RB.at_ {k : Nat} (h : RB w B A n l) (hk : k < n) : ∃ ad, A = some ad ∧ ad.block < B ∧ w.cell? (ad.add k) = some (.int .u8 (bt l k)) := by
  obtain ⟨ad, u, e, hb, hx, hc⟩ := Reads.at_ h hk
  rw [bv_at l k (by rw [h.len]; exact hk)] at hx
  obtain rfl := Option.some.inj hx
  exact ⟨ad, e, hb, hc⟩
theorem RB.keep (h : RB w B A n l) (hk : ∀ p : Addr, p.block < B → w'.cell? p = w.cell? p) : RB w' B A n l := Reads.keep h hk
theorem RB.more (h : RB w B A n l) (hB : B ≤ B') : RB w B' A n l := Reads.more h hB
theorem RB.below (h : RB w B A n l) (hb : Below B w w') : RB w' B A n l := Reads.below h hb
theorem RB.drew (h : RB w B A n l) : RB w.drew B A n l := h
theorem RB.drewN (h : RB w B A n l) (k : Nat) : RB (w.drewN k) B A n l := h
theorem RB.alloc (h : RB w B A n l) (hB : B ≤ w.heap.size) (o : Obj) : RB (w.alloc o) B A n l := Reads.alloc h hB o
theorem RB.of_own {base e c : Nat} (h : w.ownsRow base e 1 (.slice A n c) n (bv l)) : RB w w.heap.size A n l := Reads.of_own h
theorem RB.cut (h : RB w B A n l) {k cap : Nat} (hk : k ≤ n) (hc : n ≤ cap) : RB w B (if cap = k then A else A.map (·.add k)) (n - k) (l.drop k) := by
  have := Reads.cut h hk hc
  simp only [Nat.mul_one] at this
  unfold RB bv
  rw [List.map_drop]
  exact this
theorem RB.take (h : RB w B A n l) {k : Nat} (hk : k ≤ n) : RB w B A k (l.take k) := by
  have := Reads.take h hk
  simp only [Nat.mul_one] at this
  unfold RB bv
  rw [List.map_take]
  exact this
/-- a literal's row, just laid -/
theorem RB.lit (w : World) (e : TypeId) (l : List UInt8) (cs : List Value) (h : cs = bv l) (n : Nat) (hn : l.length = n) : RB (w.alloc (.cells cs.toArray e)) (w.heap.size + 1) (some ⟨w.heap.size, 0, none⟩) n l := by
  subst h
  refine ⟨by rw [length_bv]; omega, .inr ⟨_, rfl, by simp, fun j hj => ?_⟩⟩
  rw [add_mk, cell_of_row (w.alloc (.cells (bv l).toArray e)) w.heap.size (0 + j) (bv l).toArray e (0, 0) (heap_alloc_new w _)]
  simp
/-- .. its block a letter -/
theorem RB.litAt (w : World) (e : TypeId) (l : List UInt8) (cs : List Value) (h : cs = bv l) (n : Nat) (hn : l.length = n) (g : Nat) (hg : w.heap.size = g) : RB (w.alloc (.cells cs.toArray e)) (g + 1) (some ⟨g, 0, none⟩) n l := by
  subst hg
  exact RB.lit w e l cs h n hn
end

/-- what an owned row that is not nil looks like -/
theorem own_some {w : World} {base e size n c : Nat} {A : Option Addr} {xs : List Value} (h : w.ownsRow base e size (.slice A n c) n xs) {k : Nat} (hk : (Value.slice A n c).ownBlock = some k) : A = some ⟨k, 0, none⟩ := by
  rcases h.2 with ⟨h, _⟩ | ⟨g, cap, cur, h, _⟩
  · injection h with h
    subst h
    simp [Value.ownBlock] at hk
  · injection h with h
    subst h
    simp [Value.ownBlock] at hk
    subst hk
    rfl
/-- n noughts (a plain definition: the walk leaves it standing) -/
def zs (n : Nat) : List UInt8 := List.replicate n 0
theorem length_zs (n : Nat) : (zs n).length = n := by simp [zs]

/-! ### pieces of slices -/
theorem run_sl {P : Program} {t e : TypeId} {z : Value} {size bytes : Nat} (T : STy P t e z size bytes) (w : World) (A : Option Addr) (n c : Nat) (k k' : IntKind) (p q : Nat) (h1 : p ≤ q) (h2 : q ≤ c) :
    (Instr.slice t (.slice A n c) (some (.int k (p : Int))) (some (.int k' (q : Int))) none).run P w = .ok (.slice (if c = p then A else A.map (·.add (p * size))) (q - p) (c - p)) w := by
  obtain ⟨i, hi, hz, hsize, hby⟩ := info_parts T.info
  simp [Instr.slice, run_underlying T.und, Instr.sliceBounds, Instr.sliceBound, asIntOf, sizeOf, typeInfo, hi, hsize, h1, h2]
theorem run_sl_lo {P : Program} {t e : TypeId} {z : Value} {size bytes : Nat} (T : STy P t e z size bytes) (w : World) (A : Option Addr) (n c : Nat) (k : IntKind) (p : Nat) (h1 : p ≤ n) :
    (Instr.slice t (.slice A n c) (some (.int k (p : Int))) none none).run P w = .ok (.slice (if c = p then A else A.map (·.add (p * size))) (n - p) (c - p)) w := by
  obtain ⟨i, hi, hz, hsize, hby⟩ := info_parts T.info
  simp [Instr.slice, run_underlying T.und, Instr.sliceBounds, Instr.sliceBound, asIntOf, sizeOf, typeInfo, hi, hsize, h1]
theorem run_sl_hi {P : Program} {t e : TypeId} {z : Value} {size bytes : Nat} (T : STy P t e z size bytes) (w : World) (A : Option Addr) (n c : Nat) (k : IntKind) (q : Nat) (h1 : q ≤ c) :
    (Instr.slice t (.slice A n c) none (some (.int k (q : Int))) none).run P w = .ok (.slice A q c) w := by
  obtain ⟨i, hi, hz, hsize, hby⟩ := info_parts T.info
  have e3 : A.map (fun x => x.add 0) = A := by
    cases A with
    | none => rfl
    | some a => simp [Addr.add]
  simp [Instr.slice, run_underlying T.und, Instr.sliceBounds, Instr.sliceBound, asIntOf, sizeOf, typeInfo, hi, h1, e3]

/-- 's[p:q]' of a slice of bytes: the piece reads as it should; its address is a letter -/
theorem wl_sliceB {P : Program} {t e : TypeId} {z : Value} {bytes : Nat} (T : STy P t e z 1 bytes) {w : World} {ops : Array Oper} {rest : List Oper} {o : Oper} {a : Act} {Q : Exit → Act → World → Prop} (hw : Region.wanted o (yielded ops a.tmps) = true) (x lo hi : Operand)
    (ho : o.op = .slice t x (some lo) (some hi) none) (A : Option Addr) (n c : Nat) (hx : a.eval x = .slice A n c) (k k' : IntKind) (L H : Int) (hl : a.eval lo = .int k L) (hh : a.eval hi = .int k' H)
    (p sz : Nat) (hL : L = (p : Int)) (hH : H = ((p + sz : Nat) : Int)) (B : Nat) (l : List UInt8) (hr : RB w B A n l) (hn : p + sz ≤ n) (hc : n ≤ c)
    (h : ∀ A', RB w B A' sz ((l.drop p).take sz) → wpList P ops Q rest (a.put o.dst (.slice A' sz (c - p))) w) : wpList P ops Q (o :: rest) a w := by
  subst hL
  subst hH
  have hrun := run_sl T w A n c k k' p (p + sz) (by omega) (by omega)
  have hrb := ((hr.cut (k := p) (cap := c) (by omega) hc).take (k := sz) (by omega))
  rw [Nat.mul_one, Nat.add_sub_cancel_left] at hrun
  refine wl_step hw fun K hK => ?_
  unfold Oper.wp
  simp only [execOp, ho, hx, hl, hh, Option.map_some, Option.map_none, Instr.sliceAt, Sem.run_bind, run_underlying T.und, hrun, Result.andThen_ok, Sem.run_pure]
  exact hK _ _ (h _ hrb)

/-! ### bytes to a string -/
theorem push_all (l : List UInt8) : ∀ s : ByteArray, (l.map fun x => (x.toNat : Int)).foldl (fun r n => r.push (UInt8.ofNat n.toNat)) s = ⟨s.data ++ l.toArray⟩ := by
  induction l with
  | nil => intro s; simp
  | cons x l ih =>
    intro s
    rw [List.map_cons, List.foldl_cons, ih]
    simp [ByteArray.push]
set_option maxRecDepth 100000 in
theorem run_str {P : Program} {t e u : TypeId} (ht : P.underlying t = some (.slice e)) (he : P.underlying e = some (.int .u8)) (hu : P.underlying u = some .string) (w : World) (B : Nat) (A : Option Addr) (n c : Nat) (l : List UInt8) (hr : RB w B A n l) :
    (convert t u (.slice A n c)).run P w = .ok (.string ⟨l.toArray⟩) w := by
  rw [run_convert_bytes_string w t u e A n c ht he hu]
  cases A with
  | none =>
    have h0 : bv l = [] := hr.2.resolve_right fun h => by
      obtain ⟨ad, h, _⟩ := h
      cases h
    have hl : l = [] := by simpa [bv] using h0
    subst hl
    rfl
  | some ad =>
    have hcells : ∀ j u, (bv l)[j]? = some u → w.cell? (ad.add j) = some u := by
      intro j u hu
      have hj := (List.getElem?_eq_some_iff.1 hu).1
      obtain ⟨ad', h, _, hc⟩ := Reads.some_ hr (by omega)
      injection h with h
      subst h
      exact hc.get hu
    have hload := run_loadCells_list (P := P) w ad (bv l) hcells
    have hb : bv l = (l.map fun x => (x.toNat : Int)).map (Value.int .u8) := by simp [bv]
    rw [length_bv, hr.len, hb] at hload
    rw [run_bytesToString w ad n c _ hload, push_all]
    simp
/-- string(b) -/
theorem wl_str {P : Program} {t e v : TypeId} (ht : P.underlying t = some (.slice e)) (he : P.underlying e = some (.int .u8)) (hv : P.underlying v = some .string) {w : World} {ops : Array Oper} {rest : List Oper} {o : Oper} {a : Act} {Q : Exit → Act → World → Prop} (hw : Region.wanted o (yielded ops a.tmps) = true) (x : Operand)
    (ho : o.op = .convert t v x) (A : Option Addr) (n c : Nat) (hx : a.eval x = .slice A n c) (B : Nat) (l : List UInt8) (hr : RB w B A n l)
    (h : wpList P ops Q rest (a.put o.dst (.string ⟨l.toArray⟩)) w) : wpList P ops Q (o :: rest) a w := by
  have hrun := run_str (P := P) ht he hv w B A n c l hr
  refine wl_step hw fun K hK => ?_
  unfold Oper.wp
  simp only [execOp, ho, hx, Sem.run_bind, hrun, Result.andThen_ok, Sem.run_pure]
  exact hK _ _ h

/-- noughts -/
theorem made_bv (n : Nat) : (madeCells (Value.cells (.int .u8 0)) (n * 1)).toList = bv (List.replicate n 0) := by
  show (madeCells #[.int .u8 0] (n * 1)).toList = _
  rw [toList_madeCells_one]
  simp [bv]

/-- make([]byte, n) -/
theorem wl_makeB {P : Program} {t e : TypeId} (T : STy P t e (.int .u8 0) 1 1) {w : World} {ops : Array Oper} {rest : List Oper} {o : Oper} {a : Act} {Q : Exit → Act → World → Prop}
    (hw : Region.wanted o (yielded ops a.tmps) = true) (l c : Operand) (hop : o.op = Op.makeSlice t l c) (kl kc : IntKind) (L C : Int) (hl : a.eval l = .int kl L) (hc : a.eval c = .int kc C)
    (n : Nat) (hL : L = (n : Int)) (hC : C = (n : Int)) (b2 : n ≤ 281474976710656) (base : Nat) (b4 : base ≤ w.heap.size)
    (hK : ∀ w', w'.ownsRow base e 1 (.slice (some ⟨w.heap.size, 0, none⟩) n n) n (bv (zs n)) → w.grownBy w' none → w.heap.size < w'.heap.size → wpList P ops Q rest (a.put o.dst (.slice (some ⟨w.heap.size, 0, none⟩) n n)) w') :
    wpList P ops Q (o :: rest) a w :=
  wl_make T hw l c hop kl kc L C hl hc n hL hC (by omega) (by omega) base b4 fun w' h1 h2 h3 => hK w' (by rw [made_bv] at h1; exact h1) h2 h3

/-- the cells of a row that was just laid (a literal, the one element of an append) -/
theorem Reads.lit (w : World) (e : TypeId) (cs : List Value) (n size : Nat) (hn : cs.length = n * size) (g : Nat) (hg : w.heap.size = g) : Reads (w.alloc (.cells cs.toArray e)) (g + 1) size (some ⟨g, 0, none⟩) n cs := by
  subst hg
  refine ⟨hn, .inr ⟨_, rfl, by simp, fun j hj => ?_⟩⟩
  rw [add_mk, cell_of_row (w.alloc (.cells cs.toArray e)) w.heap.size (0 + j) cs.toArray e (0, 0) (heap_alloc_new w _)]
  simp
theorem OBB_alloc_help {w : World} {B : Nat} (o : Obj) (hB : B ≤ w.heap.size) : Below B w (w.alloc o) := (Below.refl _ _).alloc hB o
set_option maxRecDepth 100000 in
/-- rows of different element types never share a block -/
theorem own_ne {w : World} {base base' e e' size size' n n' : Nat} {v v' : Value} {xs xs' : List Value} (h : w.ownsRow base e size v n xs) (h' : w.ownsRow base' e' size' v' n' xs') (hne : e ≠ e') : v.ownBlock = none ∨ v.ownBlock ≠ v'.ownBlock := by
  rcases h.2 with ⟨rfl, _⟩ | ⟨g, cap, cur, rfl, _, hg, _⟩
  · exact .inl rfl
  · right
    rcases h'.2 with ⟨rfl, _⟩ | ⟨g', cap', cur', rfl, _, hg', _⟩
    · simp [Value.ownBlock]
    · intro he
      have hb : g = g' := by simpa [Value.ownBlock] using he
      subst hb
      rw [hg] at hg'
      injection hg' with hg'
      injection hg' with _ ht
      exact hne ht
theorem own_drop {w : World} {base e size n : Nat} {v : Value} {xs : List Value} (h : w.ownsRow base e size v n xs) : ∀ k, v.ownBlock = some k → base ≤ k := fun k hk => (h.lt k hk).1

/-! ### lists of ints -/
/-- number k of zs (a plain definition: the walk leaves it standing) -/
def it (zs : List Int) (k : Nat) : Int := zs.getD k 0
/-- ints as cells -/
def iv (zs : List Int) : List Value := zs.map fun z => .int .i64 z
theorem length_iv (zs : List Int) : (iv zs).length = zs.length := by simp [iv]
theorem iv_one (zs : List Int) : ∀ u ∈ iv zs, u.oneCell' = true := by
  intro u hu
  obtain ⟨_, _, rfl⟩ := List.mem_map.1 hu
  rfl
theorem iv_at (zs : List Int) (k : Nat) (h : k < zs.length) : (iv zs)[k]? = some (.int .i64 (it zs k)) := by
  simp [iv, it, List.getElem?_eq_getElem h]
theorem iv_append (a b : List Int) : iv (a ++ b) = iv a ++ iv b := by simp [iv]
/-- '.slice A n c' reads as the ints zs, all of which fit an int, and lies below block B -/
def RI (w : World) (B : Nat) (A : Option Addr) (n : Nat) (zs : List Int) : Prop := Reads w B 1 A n (iv zs) ∧ ∀ z ∈ zs, -9223372036854775808 ≤ z ∧ z ≤ 9223372036854775807
section
variable {w w' : World} {B B' n : Nat} {A : Option Addr} {zs : List Int}
theorem RI.len (h : RI w B A n zs) : zs.length = n := by have := h.1.1; rw [length_iv] at this; omega
theorem it_mem {k : Nat} (h : k < zs.length) : it zs k ∈ zs := by
  unfold it
  rw [List.getD_eq_getElem?_getD, List.getElem?_eq_getElem h]
  exact List.getElem_mem _
theorem RI.at_ {k : Nat} (h : RI w B A n zs) (hk : k < n) : ∃ ad, A = some ad ∧ ad.block < B ∧ w.cell? (ad.add k) = some (.int .i64 (it zs k)) ∧ -9223372036854775808 ≤ it zs k ∧ it zs k ≤ 9223372036854775807 := by
  obtain ⟨ad, u, e, hb, hx, hc⟩ := Reads.at_ h.1 hk
  have hl : k < zs.length := by rw [h.len]; exact hk
  rw [iv_at zs k hl] at hx
  obtain rfl := Option.some.inj hx
  exact ⟨ad, e, hb, hc, h.2 _ (it_mem hl)⟩
theorem RI.below (h : RI w B A n zs) (hb : Below B w w') : RI w' B A n zs := ⟨h.1.below hb, h.2⟩
theorem RI.more (h : RI w B A n zs) (hB : B ≤ B') : RI w B' A n zs := ⟨h.1.more hB, h.2⟩
theorem RI.alloc (h : RI w B A n zs) (hB : B ≤ w.heap.size) (o : Obj) : RI (w.alloc o) B A n zs := ⟨h.1.alloc hB o, h.2⟩
theorem RI.of_own {base e c : Nat} (h : w.ownsRow base e 1 (.slice A n c) n (iv zs)) (hz : ∀ z ∈ zs, -9223372036854775808 ≤ z ∧ z ≤ 9223372036854775807) : RI w w.heap.size A n zs := ⟨Reads.of_own h, hz⟩
end

/-! ### lists of lists of bytes -/
/-- list k of ls (a plain definition: the walk leaves it standing) -/
def lat (ls : List (List UInt8)) (k : Nat) : List UInt8 := ls.getD k []
theorem lat_mem {ls : List (List UInt8)} {k : Nat} (h : k < ls.length) : lat ls k ∈ ls := by
  unfold lat
  rw [List.getD_eq_getElem?_getD, List.getElem?_eq_getElem h]
  exact List.getElem_mem _
/-- '.slice A m c' holds m slices that read as the lists ls; all lies below block B -/
def RBB (w : World) (B : Nat) (A : Option Addr) (m : Nat) (ls : List (List UInt8)) : Prop :=
  ls.length = m ∧ ∃ vs, Reads w B 1 A m vs ∧ ∀ i, i < m → ∃ Ai ni ci, vs[i]? = some (.slice Ai ni ci) ∧ ni ≤ ci ∧ RB w B Ai ni (lat ls i)
/-- v is a row of the call's own of m slices, each a row of the call's own, that read as the lists ls (e: a byte's type, t: []byte's) -/
def OBB (w : World) (base e t : Nat) (v : Value) (m : Nat) (ls : List (List UInt8)) : Prop :=
  ls.length = m ∧ ∃ vs, w.ownsRow base t 1 v m vs ∧ ∀ i, i < m → ∃ Ai ni ci, vs[i]? = some (.slice Ai ni ci) ∧ w.ownsRow base e 1 (.slice Ai ni ci) ni (bv (lat ls i))
section
variable {w w' : World} {B B' m : Nat} {A : Option Addr} {ls : List (List UInt8)}
theorem RBB.len (h : RBB w B A m ls) : ls.length = m := h.1
theorem RBB.at_ {k : Nat} (h : RBB w B A m ls) (hk : k < m) : ∃ ad Ai ni ci, A = some ad ∧ ad.block < B ∧ w.cell? (ad.add k) = some (.slice Ai ni ci) ∧ ni ≤ ci ∧ RB w B Ai ni (lat ls k) := by
  obtain ⟨_, vs, hr, hi⟩ := h
  obtain ⟨ad, u, e, hb, hx, hc⟩ := hr.at_ hk
  obtain ⟨Ai, ni, ci, hv, hle, hrb⟩ := hi k hk
  rw [hx] at hv
  obtain rfl := Option.some.inj hv
  exact ⟨ad, Ai, ni, ci, e, hb, hc, hle, hrb⟩
theorem RBB.keep (h : RBB w B A m ls) (hk : ∀ p : Addr, p.block < B → w'.cell? p = w.cell? p) : RBB w' B A m ls := by
  obtain ⟨h1, vs, hr, hi⟩ := h
  refine ⟨h1, vs, hr.keep hk, fun i hin => ?_⟩
  obtain ⟨Ai, ni, ci, hv, hle, hrb⟩ := hi i hin
  exact ⟨Ai, ni, ci, hv, hle, hrb.keep hk⟩
theorem RBB.below (h : RBB w B A m ls) (hb : Below B w w') : RBB w' B A m ls := h.keep fun _ hp => hb.cell hp
theorem RBB.more (h : RBB w B A m ls) (hB : B ≤ B') : RBB w B' A m ls := by
  obtain ⟨h1, vs, hr, hi⟩ := h
  refine ⟨h1, vs, hr.more hB, fun i hin => ?_⟩
  obtain ⟨Ai, ni, ci, hv, hle, hrb⟩ := hi i hin
  exact ⟨Ai, ni, ci, hv, hle, hrb.more hB⟩
/-- a row of slices out of what each of them reads as -/
theorem RBB.of_list {vs : List Value} (hr : Reads w B 1 A m vs) (hl : ls.length = m) (hi : ∀ i, i < m → ∃ Ai ni ci, vs[i]? = some (.slice Ai ni ci) ∧ ni ≤ ci ∧ RB w B Ai ni (lat ls i)) : RBB w B A m ls := ⟨hl, vs, hr, hi⟩
theorem own_cap {base e size n c : Nat} {xs : List Value} (h : w.ownsRow base e size (.slice A n c) n xs) : n ≤ c := by
  rcases h.2 with ⟨h, h0⟩ | ⟨g, cap, cur, h, _, _, hnc, _⟩
  · injection h with _ h1 h2
    omega
  · injection h with _ _ h
    omega
theorem RBB.of_own {base e t c : Nat} (h : OBB w base e t (.slice A m c) m ls) : RBB w w.heap.size A m ls := by
  obtain ⟨h1, vs, ho, hi⟩ := h
  refine ⟨h1, vs, Reads.of_own ho, fun i hin => ?_⟩
  obtain ⟨Ai, ni, ci, hv, hin⟩ := hi i hin
  exact ⟨Ai, ni, ci, hv, own_cap hin, RB.of_own hin⟩
theorem OBB.nil (w : World) (base e t : Nat) : OBB w base e t (.slice none 0 0) 0 [] := ⟨rfl, [], World.ownsRow_nil _ _ _ _, fun i hi => absurd hi (by omega)⟩
theorem OBB.made {base e t c : Nat} (h : w.ownsRow base t 1 (.slice A 0 c) 0 []) : OBB w base e t (.slice A 0 c) 0 [] := ⟨rfl, [], h, fun i hi => absurd hi (by omega)⟩
theorem OBB.outer {base e t : Nat} {v : Value} (h : OBB w base e t v m ls) : ∃ vs, w.ownsRow base t 1 v m vs := ⟨_, h.2.choose_spec.1⟩
theorem OBB.later {base e t : Nat} {v : Value} (h : OBB w base e t v m ls) (hb : Below w.heap.size w w') : OBB w' base e t v m ls := by
  obtain ⟨h1, vs, ho, hi⟩ := h
  refine ⟨h1, vs, own_later ho hb, fun i hin => ?_⟩
  obtain ⟨Ai, ni, ci, hv, hin⟩ := hi i hin
  exact ⟨Ai, ni, ci, hv, own_later hin hb⟩
theorem OBB.base_le {base base' e t : Nat} {v : Value} (h : OBB w base e t v m ls) (hb : base' ≤ base) : OBB w base' e t v m ls := by
  obtain ⟨h1, vs, ho, hi⟩ := h
  refine ⟨h1, vs, own_base ho hb, fun i hin => ?_⟩
  obtain ⟨Ai, ni, ci, hv, hin⟩ := hi i hin
  exact ⟨Ai, ni, ci, hv, own_base hin hb⟩
/-- one list more is put behind by append: what the law on append leaves -/
theorem OBB.snoc {base e t c : Nat} {v : Value} (h : OBB w base e t v m ls) {vs : List Value} (hvs : w.ownsRow base t 1 v m vs) {Ai : Option Addr} {ni ci : Nat} {l : List UInt8} (hx : w.ownsRow base e 1 (.slice Ai ni ci) ni (bv l))
    (hne : e ≠ t) (hg : w.grownBy w' v.ownBlock) (ho : w'.ownsRow base t 1 (.slice A (m + 1) c) (m + 1) (vs ++ [.slice Ai ni ci])) : OBB w' base e t (.slice A (m + 1) c) (m + 1) (ls ++ [l]) := by
  obtain ⟨h1, us, hus, hi⟩ := h
  have hl : vs.length = m := by have := hvs.1; omega
  have hul : us.length = m := by have := hus.1; omega
  have hEq : us = vs := by
    rcases hus.2 with ⟨rfl, h0⟩ | ⟨g, cap, cur, rfl, _, hg1, _, _, _, ht1⟩
    · rw [List.eq_nil_of_length_eq_zero (by omega : us.length = 0), List.eq_nil_of_length_eq_zero (by omega : vs.length = 0)]
    · rcases hvs.2 with ⟨h, _⟩ | ⟨g', cap', cur', h, _, hg2, _, _, _, ht2⟩
      · cases h
      · injection h with h
        injection h with h
        injection h with h
        subst h
        rw [hg1] at hg2
        injection hg2 with hg2
        injection hg2 with hg2
        rw [← ht1, ← ht2, hg2]
  subst hEq
  refine ⟨by simp [h1], _, ho, fun i hin => ?_⟩
  by_cases hlt : i < m
  · obtain ⟨Aj, nj, cj, hv, hrow⟩ := hi i hlt
    refine ⟨Aj, nj, cj, by rw [List.getElem?_append_left (by omega)]; exact hv, ?_⟩
    have e1 : lat (ls ++ [l]) i = lat ls i := by simp [lat, List.getElem?_append_left (show i < ls.length by omega)]
    rw [e1]
    exact hrow.kept hg (own_ne hrow hus hne)
  · obtain rfl : i = m := by omega
    refine ⟨Ai, ni, ci, by rw [List.getElem?_append_right (by omega), hul, Nat.sub_self]; rfl, ?_⟩
    have e1 : lat (ls ++ [l]) i = l := by simp [lat, ← h1]
    rw [e1]
    exact hx.kept hg (own_ne hx hus hne)
end

end Go.Sh
