/-
  Words for a clock in memory (a tick, a count and 64 timers in the midst of a block), and the law of copy inside such a block. No statement of the seat is proved here.
-/
import Derived.Test.YtcjpfjmmnnfieaaWords
import Derived.Laws.CopyRow
import Derived.StillTailTactics
namespace Go.Sh
open Go Go.RowKit

/-- copy into the midst of a block that is known whole, elements of whatever size -/
theorem wl_copyN {P : Program} {t t' e : TypeId} {z : Value} {size bytes : Nat} (T : STy P t e z size bytes) {w : World} {ops : Array Oper} {rest : List Oper} {o : Oper} {a : Act} {Q : Exit → Act → World → Prop} (hgd : o.guard = none) (d s : Operand)
    (ho : o.op = .call { callee := .builtin .copy, args := #[d, s], argTypes := #[t, t'] })
    (D : Option Addr) (n cn : Nat) (hd : a.eval d = .slice D n cn) (A : Option Addr) (m c : Nat) (hs : a.eval s = .slice A m c) (g off : Nat) (cur : List Value) (tt : TypeId) (hg : w.heap[g]? = some (.cells cur.toArray tt (0, 0))) (hD : 0 < m → D = some ⟨g, off, none⟩)
    (B : Nat) (ys : List Value) (hr : Reads w B size A m ys) (h1 : ∀ u ∈ ys, u.oneCell' = true) (hmn : m ≤ n) (hfit : off + m * size ≤ cur.length)
    (h : ∀ w', w'.heap[g]? = some (.cells (cur.take off ++ ys ++ cur.drop (off + m * size)).toArray tt (0, 0)) → w.grownBy w' (some g) → wpList P ops Q rest (a.put o.dst (.int .i64 (m : Int))) w') :
    wpList P ops Q (o :: rest) a w := by
  obtain ⟨i, hi, hz, hsize, hby⟩ := info_parts T.info
  have hmin : Nat.min m n = m := Nat.min_eq_left hmn
  have hyl : ys.length = m * size := hr.1
  rcases Nat.eq_zero_or_pos m with h0 | h0
  · subst h0
    have hy : ys = [] := List.eq_nil_of_length_eq_zero (by rw [hyl]; omega)
    subst hy
    have hf : ∀ A : Option Addr, (Builtin.firstCells size 0 (.slice A 0 c)).run P w = .ok #[] w := by
      intro A
      cases A with
      | none => exact run_firstCells_none w size 0 0 c
      | some ad => exact run_firstCells_some w size 0 ad 0 c [] (by simp) (fun j v hv => by simp at hv)
    have hrun : (Builtin.copy_ #[t, t'] o.type #[.slice D n cn, .slice A 0 c]).run P w = .ok (goInt 0) w := by
      cases D <;> simp [Builtin.copy_, run_underlying T.und, sizeOf, typeInfo, hi, hsize, Builtin.lenOf, hf, storeCells]
    refine wpList_plain hgd fun K hK => ?_
    unfold Oper.wp
    simp [execOp, ho, resolve, invoke, builtin, hd, hs, hrun, Result.andThen]
    refine hK _ _ (h w ?_ (World.grownBy.refl _ _))
    simpa using hg
  · obtain ⟨ad, rfl, _, hc⟩ := hr.some_ (by rw [hyl]; exact Nat.mul_pos h0 T.pos)
    obtain rfl := hD h0
    have hf := run_firstCells_some (P := P) w size m ad m c ys hyl (fun j v hv => hc.get hv)
    have hst := run_storeCells_at (P := P) g off tt ys 0 cur.toArray w hg (by simp; omega) h1
    have hrun : (Builtin.copy_ #[t, t'] o.type #[.slice (some ⟨g, off, none⟩) n cn, .slice (some ad) m c]).run P w = .ok (goInt m) (w.setRow g (cur.take off ++ ys ++ cur.drop (off + m * size)).toArray) := by
      simp only [Nat.add_zero, hyl] at hst
      simp only [Builtin.copy_]
      simp [run_underlying T.und, sizeOf, typeInfo, hi, hsize, Builtin.lenOf, hmin, hf, hst]
    refine wpList_plain hgd fun K hK => ?_
    unfold Oper.wp
    simp [execOp, ho, resolve, invoke, builtin, hd, hs, hrun, Result.andThen]
    have := h (w.setRow g (cur.take off ++ ys ++ cur.drop (off + m * size)).toArray) (setRow_heap w g _ _ tt _ hg) ⟨rfl, rfl, rfl, by simp [World.setRow], fun k _ hk => setRow_other w g k _ (fun e => hk (by rw [e]))⟩
    refine hK _ _ ?_
    simpa [goInt] using this

/-- pairs of ints as cells -/
def tmv : List (Int × Int) → List Value
  | [] => []
  | a :: l => .int .i64 a.1 :: .int .i64 a.2 :: tmv l
def t1 (l : List (Int × Int)) (k : Nat) : Int := (l.getD k (0, 0)).1
def t2 (l : List (Int × Int)) (k : Nat) : Int := (l.getD k (0, 0)).2
theorem length_tmv (l : List (Int × Int)) : (tmv l).length = l.length * 2 := by
  induction l with
  | nil => rfl
  | cons a l ih => simp only [tmv, List.length_cons, ih]; omega
theorem tmv_append (l r : List (Int × Int)) : tmv (l ++ r) = tmv l ++ tmv r := by
  induction l with
  | nil => rfl
  | cons a l ih => simp [tmv, ih]
theorem tmv_at (l : List (Int × Int)) : ∀ k, k < l.length → (tmv l)[k * 2]? = some (.int .i64 (t1 l k)) ∧ (tmv l)[k * 2 + 1]? = some (.int .i64 (t2 l k)) := by
  induction l with
  | nil => intro k h; simp at h
  | cons a l ih =>
    intro k h
    cases k with
    | zero => exact ⟨rfl, rfl⟩
    | succ k =>
      have := ih k (by simpa using h)
      rw [show (k + 1) * 2 = k * 2 + 1 + 1 by omega]
      simpa [tmv, t1, t2] using this
theorem tmv_one (l : List (Int × Int)) : ∀ u ∈ tmv l, u.oneCell' = true := by
  induction l with
  | nil => intro u hu; simp [tmv] at hu
  | cons a l ih =>
    intro u hu
    simp only [tmv, List.mem_cons] at hu
    rcases hu with rfl | rfl | hu
    · rfl
    · rfl
    · exact ih u hu
theorem tm_take (l : List (Int × Int)) (k : Nat) (h : k < l.length) : l.take (k + 1) = l.take k ++ [(t1 l k, t2 l k)] := by
  have e : l[k] = (t1 l k, t2 l k) := by simp [t1, t2, h]
  rw [List.take_succ_eq_append_getElem h, e]
/-- n noughts -/
def z0 (n : Nat) : List Value := List.replicate n (.int .i64 0)
/-- a clock's cells -/
def clk (now : Int) (ts : List (Int × Int)) : List Value := .int .i64 now :: .int .i64 (ts.length : Int) :: (tmv ts ++ z0 (128 - ts.length * 2))
theorem length_clk (now : Int) (ts : List (Int × Int)) (h : ts.length ≤ 64) : (clk now ts).length = 130 := by
  simp [clk, length_tmv, z0]
  omega
/-- a clock lies in block b behind the cells pre; suf lies behind it -/
def ClkAt (w : World) (b : Nat) (t : TypeId) (pre : List Value) (now : Int) (ts : List (Int × Int)) (suf : List Value) : Prop :=
  w.heap[b]? = some (.cells (pre ++ (clk now ts ++ suf)).toArray t (0, 0)) ∧ ts.length ≤ 64
section
variable {w w' : World} {b : Nat} {t : TypeId} {pre suf : List Value} {now : Int} {ts : List (Int × Int)}
theorem ClkAt.lt (h : ClkAt w b t pre now ts suf) : b < w.heap.size := (Array.getElem?_eq_some_iff.1 h.1).1
theorem ClkAt.cell (h : ClkAt w b t pre now ts suf) (o j : Nat) (v : Value) (ho : o = pre.length + j) (hj : j < 130) (hv : (clk now ts)[j]? = some v) : w.cell? ⟨b, o, none⟩ = some v := by
  subst ho
  rw [cell_of_row _ _ _ _ _ _ h.1]
  simp only [List.getElem?_toArray]
  rw [List.getElem?_append_right (by omega), Nat.add_sub_cancel_left, List.getElem?_append_left (by rw [length_clk _ _ h.2]; exact hj)]
  exact hv
theorem ClkAt.frozen (h : ClkAt w b t pre now ts suf) (o : Nat) : w.frozen? ⟨b, o, none⟩ = false := frozen_of_row _ _ _ _ _ h.1
theorem ClkAt.now_ (h : ClkAt w b t pre now ts suf) : w.cell? ⟨b, pre.length, none⟩ = some (.int .i64 now) := h.cell _ 0 _ rfl (by omega) rfl
theorem ClkAt.count_ (h : ClkAt w b t pre now ts suf) : w.cell? ⟨b, pre.length + 1, none⟩ = some (.int .i64 (ts.length : Int)) := h.cell _ 1 _ rfl (by omega) rfl
theorem ClkAt.at_ (h : ClkAt w b t pre now ts suf) {k : Nat} (hk : k < ts.length) : w.cell? ⟨b, pre.length + 2 + k * 2, none⟩ = some (.int .i64 (t1 ts k)) ∧ w.cell? ⟨b, pre.length + 2 + k * 2 + 1, none⟩ = some (.int .i64 (t2 ts k)) := by
  have h64 := h.2
  obtain ⟨h0, h1⟩ := tmv_at ts k hk
  have hl := length_tmv ts
  refine ⟨h.cell _ (2 + k * 2) _ (by omega) (by omega) ?_, h.cell _ (2 + (k * 2 + 1)) _ (by omega) (by omega) ?_⟩
  · rw [show 2 + k * 2 = k * 2 + 1 + 1 by omega]
    simp only [clk, List.getElem?_cons_succ]
    rw [List.getElem?_append_left (by omega)]
    exact h0
  · rw [show 2 + (k * 2 + 1) = k * 2 + 1 + 1 + 1 by omega]
    simp only [clk, List.getElem?_cons_succ]
    rw [List.getElem?_append_left (by omega)]
    exact h1
/-- a free place -/
theorem ClkAt.free (h : ClkAt w b t pre now ts suf) {k : Nat} (hk : ts.length ≤ k) (hk' : k < 64) : w.cell? ⟨b, pre.length + 2 + k * 2, none⟩ = some (.int .i64 0) ∧ w.cell? ⟨b, pre.length + 2 + k * 2 + 1, none⟩ = some (.int .i64 0) := by
  have hl := length_tmv ts
  refine ⟨h.cell _ (2 + k * 2) _ (by omega) (by omega) ?_, h.cell _ (2 + (k * 2 + 1)) _ (by omega) (by omega) ?_⟩
  · rw [show 2 + k * 2 = k * 2 + 1 + 1 by omega]
    simp only [clk, List.getElem?_cons_succ]
    rw [List.getElem?_append_right (by omega), hl, z0, List.getElem?_replicate, if_pos (by omega)]
  · rw [show 2 + (k * 2 + 1) = k * 2 + 1 + 1 + 1 by omega]
    simp only [clk, List.getElem?_cons_succ]
    rw [List.getElem?_append_right (by omega), hl, z0, List.getElem?_replicate, if_pos (by omega)]
theorem ClkAt.block (h : ClkAt w b t pre now ts suf) (e : w'.heap[b]? = w.heap[b]?) : ClkAt w' b t pre now ts suf := ⟨e.trans h.1, h.2⟩
/-- a cell of a block that is known whole, stored into -/
theorem row_put {cs : List Value} {fr : Nat × Nat} (h : w.heap[b]? = some (.cells cs.toArray t fr)) (i : Nat) (v : Value) : (w.setCell ⟨b, i, none⟩ v).heap[b]? = some (.cells (cs.set i v).toArray t fr) := by
  simp [World.setCell, Array.getElem?_modify, h]
theorem set_mid (a x y : List Value) (u v : Value) (i : Nat) (hi : i = a.length + x.length) : (a ++ (x ++ u :: y)).set i v = a ++ (x ++ v :: y) := by
  subst hi
  rw [List.set_append_right _ _ (by omega), Nat.add_sub_cancel_left, List.set_append_right _ _ (by omega), Nat.sub_self]
  rfl
/-- the tick, stored anew -/
theorem ClkAt.setNow (h : ClkAt w b t pre now ts suf) (n : Int) : ClkAt (w.setCell ⟨b, pre.length, none⟩ (.int .i64 n)) b t pre n ts suf := by
  refine ⟨?_, h.2⟩
  rw [row_put h.1]
  congr 3
  simp [clk]
/-- one timer more -/
theorem ClkAt.push (h : ClkAt w b t pre now ts suf) (hl : ts.length < 64) (x y : Int) :
    ClkAt (((w.setCell ⟨b, pre.length + 2 + ts.length * 2, none⟩ (.int .i64 x)).setCell ⟨b, pre.length + 2 + ts.length * 2 + 1, none⟩ (.int .i64 y)).setCell ⟨b, pre.length + 1, none⟩ (.int .i64 ((ts.length : Int) + 1))) b t pre now (ts ++ [(x, y)]) suf := by
  refine ⟨?_, by simp; omega⟩
  rw [row_put (row_put (row_put h.1 _ _) _ _)]
  congr 3
  have ez : z0 (128 - ts.length * 2) = .int .i64 0 :: .int .i64 0 :: z0 (128 - (ts.length + 1) * 2) := by
    rw [show 128 - ts.length * 2 = (128 - (ts.length + 1) * 2) + 1 + 1 by omega]
    rfl
  have e0 : pre ++ (clk now ts ++ suf) = pre ++ ((.int .i64 now :: .int .i64 (ts.length : Int) :: tmv ts) ++ .int .i64 0 :: (.int .i64 0 :: z0 (128 - (ts.length + 1) * 2) ++ suf)) := by
    simp [clk, ez]
  have hlt := length_tmv ts
  rw [e0, set_mid _ _ _ _ _ _ (by simp; omega)]
  have e1 : pre ++ ((.int .i64 now :: .int .i64 (ts.length : Int) :: tmv ts) ++ .int .i64 x :: (.int .i64 0 :: z0 (128 - (ts.length + 1) * 2) ++ suf)) = pre ++ ((.int .i64 now :: .int .i64 (ts.length : Int) :: (tmv ts ++ [.int .i64 x])) ++ .int .i64 0 :: (z0 (128 - (ts.length + 1) * 2) ++ suf)) := by simp
  rw [e1, set_mid _ _ _ _ _ _ (by simp; omega)]
  have e2 : pre ++ ((.int .i64 now :: .int .i64 (ts.length : Int) :: (tmv ts ++ [.int .i64 x])) ++ .int .i64 y :: (z0 (128 - (ts.length + 1) * 2) ++ suf)) = pre ++ ([.int .i64 now] ++ .int .i64 (ts.length : Int) :: (tmv ts ++ (.int .i64 x :: .int .i64 y :: (z0 (128 - (ts.length + 1) * 2) ++ suf)))) := by simp
  rw [e2, set_mid _ _ _ _ _ _ (by simp)]
  simp [clk, tmv_append, tmv]
/-- a timer is taken out: the timers behind it are copied to its place -/
theorem clk_pull (pre suf : List Value) (now : Int) (ts : List (Int × Int)) (i : Nat) (hi : i < ts.length) :
    ∃ u v, (pre ++ (clk now ts ++ suf)).take (pre.length + 2 + i * 2) ++ tmv (ts.drop (i + 1)) ++ (pre ++ (clk now ts ++ suf)).drop (pre.length + 2 + i * 2 + (ts.length - (i + 1)) * 2)
      = pre ++ ((.int .i64 now :: .int .i64 (ts.length : Int) :: tmv (ts.eraseIdx i)) ++ u :: (v :: (z0 (128 - ts.length * 2) ++ suf))) := by
  have hsplit : ts = ts.take i ++ (t1 ts i, t2 ts i) :: ts.drop (i + 1) := by
    have e : ts[i] = (t1 ts i, t2 ts i) := by simp [t1, t2, hi]
    conv => lhs; rw [← List.take_append_drop i ts, List.drop_eq_getElem_cons hi, e]
  have hlt : (tmv (ts.take i)).length = i * 2 := by rw [length_tmv, List.length_take]; omega
  have hld : (tmv (ts.drop (i + 1))).length = (ts.length - (i + 1)) * 2 := by rw [length_tmv, List.length_drop]
  obtain ⟨a, ha⟩ : ∃ a, ts.take i = a := ⟨_, rfl⟩
  obtain ⟨d, hd⟩ : ∃ d, ts.drop (i + 1) = d := ⟨_, rfl⟩
  have her : ts.eraseIdx i = a ++ d := by rw [List.eraseIdx_eq_take_drop_succ, ha, hd]
  have e0 : pre ++ (clk now ts ++ suf) = (pre ++ (.int .i64 now :: .int .i64 (ts.length : Int) :: tmv a)) ++ ((.int .i64 (t1 ts i) :: .int .i64 (t2 ts i) :: tmv d) ++ (z0 (128 - ts.length * 2) ++ suf)) := by
    have et : tmv ts = tmv a ++ .int .i64 (t1 ts i) :: .int .i64 (t2 ts i) :: tmv d := by
      conv => lhs; rw [hsplit, tmv_append, ha, hd]
      rfl
    simp [clk, et]
  rw [ha] at hlt
  rw [hd] at hld
  have hl1 : (pre ++ (.int .i64 now :: .int .i64 (ts.length : Int) :: tmv a)).length = pre.length + 2 + i * 2 := by simp [hlt]; omega
  have hl2 : (Value.int .i64 (t1 ts i) :: .int .i64 (t2 ts i) :: tmv d).length = (ts.length - (i + 1)) * 2 + 2 := by simp [hld]
  obtain ⟨L, hL⟩ : ∃ L, (Value.int .i64 (t1 ts i) :: .int .i64 (t2 ts i) :: tmv d).drop ((ts.length - (i + 1)) * 2) = L := ⟨_, rfl⟩
  have hLl : L.length = 2 := by rw [← hL, List.length_drop, hl2]; omega
  match L, hLl with
  | [u, v], _ =>
    refine ⟨u, v, ?_⟩
    rw [e0, her, hd, List.take_left' hl1, List.drop_append, hl1, List.drop_eq_nil_of_le (by rw [hl1]; omega), List.nil_append, Nat.add_sub_cancel_left, List.drop_append_of_le_length (by rw [hl2]; omega), hL, tmv_append]
    simp
theorem ClkAt.reads (h : ClkAt w b t pre now ts suf) (i : Nat) (A : Option Addr) (hA : i < ts.length → A = some ⟨b, pre.length + 2 + i * 2, none⟩) : Reads w w.heap.size 2 A (ts.length - i) (tmv (ts.drop i)) := by
  refine ⟨by rw [length_tmv, List.length_drop], ?_⟩
  by_cases hi : i < ts.length
  · refine .inr ⟨_, hA hi, h.lt, fun j hj => ?_⟩
    rw [length_tmv, List.length_drop] at hj
    obtain ⟨a0, a1⟩ := h.at_ (k := i + j / 2) (by omega)
    obtain ⟨b0, b1⟩ := tmv_at (ts.drop i) (j / 2) (by rw [List.length_drop]; omega)
    have e1 : t1 (ts.drop i) (j / 2) = t1 ts (i + j / 2) := by simp [t1]
    have e2 : t2 (ts.drop i) (j / 2) = t2 ts (i + j / 2) := by simp [t2]
    rw [add_mk]
    rcases Nat.mod_two_eq_zero_or_one j with hm | hm
    · have ej : j = j / 2 * 2 := by omega
      rw [← ej] at b0
      rw [b0, e1, ← a0]
      congr 2
      omega
    · have ej : j = j / 2 * 2 + 1 := by omega
      rw [← ej] at b1
      rw [b1, e2, ← a1]
      congr 2
      omega
  · left
    rw [List.drop_eq_nil_of_le (by omega)]
    rfl
/-- behind the copy: what lies where -/
theorem pull_cells {er : List (Int × Int)} {n : Nat} {x y : Value} {rest : List Value} (hl : er.length + 1 = n) (h : w.heap[b]? = some (.cells (pre ++ ((.int .i64 now :: .int .i64 (n : Int) :: tmv er) ++ x :: (y :: rest))).toArray t (0, 0))) :
    w.cell? ⟨b, pre.length, none⟩ = some (.int .i64 now) ∧ w.cell? ⟨b, pre.length + 1, none⟩ = some (.int .i64 (n : Int)) ∧ w.cell? ⟨b, pre.length + 2 + (n - 1) * 2, none⟩ = some x ∧ w.cell? ⟨b, pre.length + 2 + (n - 1) * 2 + 1, none⟩ = some y := by
  have hlt := length_tmv er
  have key : ∀ j v, ((.int .i64 now :: .int .i64 (n : Int) :: tmv er) ++ x :: (y :: rest))[j]? = some v → w.cell? ⟨b, pre.length + j, none⟩ = some v := by
    intro j v hv
    rw [cell_of_row _ _ _ _ _ _ h]
    simp only [List.getElem?_toArray]
    rw [List.getElem?_append_right (by omega), Nat.add_sub_cancel_left]
    exact hv
  refine ⟨key 0 _ rfl, key 1 _ rfl, ?_, ?_⟩
  · have := key (2 + (n - 1) * 2) x (by
      rw [List.getElem?_append_right (by simp; omega)]
      have : 2 + (n - 1) * 2 - (Value.int .i64 now :: .int .i64 (n : Int) :: tmv er).length = 0 := by simp; omega
      rw [this]
      rfl)
    rw [← Nat.add_assoc] at this
    exact this
  · have := key (2 + (n - 1) * 2 + 1) y (by
      rw [List.getElem?_append_right (by simp; omega)]
      have : 2 + (n - 1) * 2 + 1 - (Value.int .i64 now :: .int .i64 (n : Int) :: tmv er).length = 1 := by simp; omega
      rw [this]
      rfl)
    rw [← Nat.add_assoc, ← Nat.add_assoc] at this
    exact this
/-- the count, the last place and the tick are stored: a clock again -/
theorem pull_done {er : List (Int × Int)} {n : Nat} {x y : Value} (hl : er.length + 1 = n) (h64 : n ≤ 64) (m : Int) (h : w.heap[b]? = some (.cells (pre ++ ((.int .i64 now :: .int .i64 (n : Int) :: tmv er) ++ x :: (y :: (z0 (128 - n * 2) ++ suf)))).toArray t (0, 0))) :
    ClkAt ((((w.setCell ⟨b, pre.length + 1, none⟩ (.int .i64 ((n : Int) - 1))).setCell ⟨b, pre.length + 2 + (n - 1) * 2, none⟩ (.int .i64 0)).setCell ⟨b, pre.length + 2 + (n - 1) * 2 + 1, none⟩ (.int .i64 0)).setCell ⟨b, pre.length, none⟩ (.int .i64 m)) b t pre m er suf := by
  have hlt := length_tmv er
  refine ⟨?_, by omega⟩
  rw [row_put (row_put (row_put (row_put h _ _) _ _) _ _)]
  congr 3
  have s1 : pre ++ ((.int .i64 now :: .int .i64 (n : Int) :: tmv er) ++ x :: (y :: (z0 (128 - n * 2) ++ suf))) = pre ++ ([.int .i64 now] ++ .int .i64 (n : Int) :: (tmv er ++ x :: (y :: (z0 (128 - n * 2) ++ suf)))) := by simp
  rw [s1, set_mid _ _ _ _ _ _ (by simp)]
  have s2 : pre ++ ([.int .i64 now] ++ .int .i64 ((n : Int) - 1) :: (tmv er ++ x :: (y :: (z0 (128 - n * 2) ++ suf)))) = pre ++ ((.int .i64 now :: .int .i64 ((n : Int) - 1) :: tmv er) ++ x :: (y :: (z0 (128 - n * 2) ++ suf))) := by simp
  rw [s2, set_mid _ _ _ _ _ _ (by simp; omega)]
  have s3 : pre ++ ((.int .i64 now :: .int .i64 ((n : Int) - 1) :: tmv er) ++ .int .i64 0 :: (y :: (z0 (128 - n * 2) ++ suf))) = pre ++ ((.int .i64 now :: .int .i64 ((n : Int) - 1) :: (tmv er ++ [.int .i64 0])) ++ y :: (z0 (128 - n * 2) ++ suf)) := by simp
  rw [s3, set_mid _ _ _ _ _ _ (by simp; omega)]
  have s4 : pre ++ ((.int .i64 now :: .int .i64 ((n : Int) - 1) :: (tmv er ++ [.int .i64 0])) ++ .int .i64 0 :: (z0 (128 - n * 2) ++ suf)) = pre ++ ([] ++ .int .i64 now :: (.int .i64 ((n : Int) - 1) :: (tmv er ++ .int .i64 0 :: .int .i64 0 :: (z0 (128 - n * 2) ++ suf)))) := by simp
  rw [s4, set_mid _ _ _ _ _ _ (by simp)]
  have e1 : ((n : Int) - 1) = (er.length : Int) := by omega
  have e2 : z0 (128 - er.length * 2) = .int .i64 0 :: .int .i64 0 :: z0 (128 - n * 2) := by
    rw [show 128 - er.length * 2 = (128 - n * 2) + 1 + 1 by omega]
    rfl
  simp [clk, e1, e2]
end
end Go.Sh
