/-
  Numbers of 64-bit words: rows of them in memory, the carry's and the product's laws, and contracts of field.step and field.plus. Conditions: the words have 64 bits.
-/
import Derived.Test.YtgpjidlomhkpeaaMid
import Derived.Test.YtgpjidlomhkpeaaProg
import Derived.Laws.Externs
import Derived.Shelf.Bits.Mul64
namespace Go.Proofs.Ytgpjidlomhkpeaa
open Go Go.RowKit Go.Sh Go.Shelf

/-- what a list of words is, the least first -/
def nv : List Nat → Nat
  | [] => 0
  | x :: l => x + 18446744073709551616 * nv l
def AllB (l : List Nat) : Prop := ∀ x ∈ l, x < 18446744073709551616
def uv (l : List Nat) : List Value := l.map fun (x : Nat) => Value.int .u64 (x : Int)
def nt (l : List Nat) (k : Nat) : Nat := l.getD k 0
theorem length_uv (l : List Nat) : (uv l).length = l.length := by simp [uv]
theorem uv_at (l : List Nat) {k : Nat} (h : k < l.length) : (uv l)[k]? = some (.int .u64 (nt l k : Int)) := by
  simp [uv, nt, h]
theorem uv_set (l : List Nat) (k x : Nat) : (uv l).set k (.int .u64 (x : Int)) = uv (l.set k x) := by simp [uv, List.map_set]
set_option maxRecDepth 100000 in
theorem uv_one (l : List Nat) : ∀ v ∈ (uv l).toArray.toList, v.oneCell' = true := by
  intro v hv
  obtain ⟨x, _, rfl⟩ := List.mem_map.1 (show v ∈ uv l by simpa using hv)
  rfl
theorem nt_lt {l : List Nat} (h : AllB l) (k : Nat) : nt l k < 18446744073709551616 := by
  unfold nt
  rw [List.getD_eq_getElem?_getD]
  cases hk : l[k]? with
  | none => exact (by decide : 0 < 18446744073709551616)
  | some x => exact h x (List.mem_of_getElem? hk)
theorem AllB.set {l : List Nat} (h : AllB l) {x : Nat} (hx : x < 18446744073709551616) (k : Nat) : AllB (l.set k x) := fun y hy => by
  rcases List.mem_or_eq_of_mem_set hy with hy | rfl
  · exact h y hy
  · exact hx
set_option maxRecDepth 100000 in
theorem nv_set : ∀ (l : List Nat) (k x : Nat), k < l.length → nv (l.set k x) + nt l k * 18446744073709551616 ^ k = nv l + x * 18446744073709551616 ^ k
  | [], k, x, h => by simp at h
  | y :: l, 0, x, _ => by simp [nv, nt]; omega
  | y :: l, k + 1, x, h => by
    have ih := nv_set l k x (by simpa using h)
    have e : nt (y :: l) (k + 1) = nt l k := by simp [nt]
    rw [List.set_cons_succ, nv, nv, e, Nat.pow_succ]
    have e1 : nt l k * (18446744073709551616 ^ k * 18446744073709551616) = 18446744073709551616 * (nt l k * 18446744073709551616 ^ k) := by rw [← Nat.mul_assoc, Nat.mul_comm]
    have e2 : x * (18446744073709551616 ^ k * 18446744073709551616) = 18446744073709551616 * (x * 18446744073709551616 ^ k) := by rw [← Nat.mul_assoc, Nat.mul_comm]
    rw [e1, e2]
    have := congrArg (18446744073709551616 * ·) ih
    simp only [Nat.mul_add] at this
    omega
theorem nv_lt : ∀ {l : List Nat}, AllB l → nv l < 18446744073709551616 ^ l.length
  | [], _ => by simp [nv]
  | y :: l, h => by
    have ih := nv_lt (l := l) fun x hx => h x (List.mem_cons_of_mem _ hx)
    have hy := h y (List.mem_cons_self ..)
    rw [nv, List.length_cons, Nat.pow_succ, Nat.mul_comm (18446744073709551616 ^ l.length)]
    have : 18446744073709551616 * (nv l + 1) ≤ 18446744073709551616 * 18446744073709551616 ^ l.length := Nat.mul_le_mul_left _ ih
    rw [Nat.mul_add] at this
    omega
set_option maxRecDepth 100000 in
theorem nv_drop : ∀ (l : List Nat) (k : Nat), k < l.length → nv (l.drop k) = nt l k + 18446744073709551616 * nv (l.drop (k + 1))
  | [], k, h => by simp at h
  | y :: l, 0, _ => by simp [nv, nt]
  | y :: l, k + 1, h => by
    have ih := nv_drop l k (by simpa using h)
    have e : nt (y :: l) (k + 1) = nt l k := by simp [nt]
    rw [List.drop_succ_cons, List.drop_succ_cons, ih, e]
/-- a list of so many words that is one number -/
def ws : Nat → Nat → List Nat
  | 0, _ => []
  | k + 1, v => v % 18446744073709551616 :: ws k (v / 18446744073709551616)
theorem length_ws : ∀ k v, (ws k v).length = k
  | 0, _ => rfl
  | k + 1, v => by rw [ws, List.length_cons, length_ws]
theorem AllB.ws : ∀ k v, AllB (ws k v)
  | 0, _ => fun x h => by cases h
  | k + 1, v => fun x h => by
    rcases List.mem_cons.1 h with rfl | h
    · exact Nat.mod_lt _ (by decide)
    · exact AllB.ws k _ x h
theorem nv_ws : ∀ k v, v < 18446744073709551616 ^ k → nv (ws k v) = v
  | 0, v, h => by simp at h; simp [ws, nv, h]
  | k + 1, v, h => by
    rw [ws, nv, nv_ws k (v / 18446744073709551616) (by rw [Nat.pow_succ] at h; exact Nat.div_lt_of_lt_mul (by rw [Nat.mul_comm]; exact h))]
    exact Nat.mod_add_div v 18446744073709551616
theorem ws_nv : ∀ {l : List Nat}, AllB l → ws l.length (nv l) = l
  | [], _ => rfl
  | y :: l, h => by
    have ih := ws_nv (l := l) fun x hx => h x (List.mem_cons_of_mem _ hx)
    have hy := h y (List.mem_cons_self ..)
    rw [List.length_cons, ws, nv, Nat.add_mul_mod_self_left, Nat.mod_eq_of_lt hy, Nat.add_mul_div_left _ _ (by decide : 0 < 18446744073709551616), Nat.div_eq_of_lt hy, Nat.zero_add, ih]
theorem zero4_is : ws 4 0 = [0, 0, 0, 0] := by decide
/-- an element: four words -/
def el (v : Nat) : Value := .agg (uv (ws 4 v)).toArray

/-- block p is a row of words -/
def RowU (w : World) (ty : TypeId) (p : Nat) (s : List Nat) : Prop := w.heap[p]? = some (.cells (uv s).toArray ty (0, 0))
section
variable {w w' : World} {ty : TypeId} {p k : Nat} {s : List Nat}
theorem RowU.cell (h : RowU w ty p s) (hk : k < s.length) : w.cell? ⟨p, k, none⟩ = some (.int .u64 (nt s k : Int)) := by
  rw [blk_cell h, List.getElem?_toArray, uv_at s hk]
theorem RowU.free (h : RowU w ty p s) (i : Nat) : w.frozen? ⟨p, i, none⟩ = false := frozen_of_row _ _ i _ _ h
theorem RowU.set (h : RowU w ty p s) (i x : Nat) : RowU (w.setCell ⟨p, i, none⟩ (.int .u64 (x : Int))) ty p (s.set i x) := by
  unfold RowU
  rw [blk_set h, List.setIfInBounds_toArray, uv_set]
theorem RowU.lt (h : RowU w ty p s) : p < w.heap.size := (Array.getElem?_eq_some_iff.1 h).1
theorem RowU.keep (h : RowU w ty p s) (hk : w'.heap[p]? = w.heap[p]?) : RowU w' ty p s := hk.trans h
theorem RowU.below {B : Nat} (h : RowU w ty p s) (hb : Below B w w') (hp : p < B) : RowU w' ty p s := h.keep (hb.block p hp)
theorem RowU.new (w : World) (ty : TypeId) (s : List Nat) : RowU (w.alloc (.cells (uv s).toArray ty)) ty w.heap.size s := heap_alloc_new w _
theorem RowU.size (_ : RowU w ty p s) : (uv s).toArray.size = s.length := by rw [List.size_toArray, length_uv]
end
theorem storeU_new (w : World) (ty : TypeId) {r s : List Nat} (h : r.length = s.length) : (storeCells ⟨w.heap.size, 0, none⟩ (uv r).toArray.toList).run Try.prog (w.alloc (.cells (uv s).toArray ty)) = .ok () (w.alloc (.cells (uv r).toArray ty)) :=
  run_cells_new w _ _ _ (by rw [List.size_toArray, List.size_toArray, length_uv, length_uv, h]) (uv_one r)
set_option maxRecDepth 100000 in
theorem info4 : (Try.prog.info? 33).map (·.size) = some 4 := by kernel_rfl
theorem RowU.load4 {w : World} {p : Nat} {s : List Nat} (h : RowU w 33 p s) (hs : s.length = 4) : (loadVar 33 ⟨p, 0, none⟩).run Try.prog w = .ok (.agg (uv s).toArray) w :=
  run_loadVar_mid w p 0 _ (uv s) _ (blk_range h) Try.underlying33 rfl (by rw [length_uv, hs]; exact info4)
theorem RowU.store {w : World} {ty : TypeId} {p : Nat} {s : List Nat} (h : RowU w ty p s) {r : List Nat} (hr : r.length = s.length) : (storeCells ⟨p, 0, none⟩ (uv r).toArray.toList).run Try.prog w = .ok () (w.setRow p (uv r).toArray) :=
  run_cells_whole w p _ _ _ h (by rw [h.size, List.size_toArray, length_uv, hr]) (uv_one r)
theorem RowU.setRow {w : World} {ty : TypeId} {p : Nat} {s : List Nat} (h : RowU w ty p s) {r : List Nat} : RowU (w.setRow p (uv r).toArray) ty p r := setRow_heap w p _ _ _ _ h
theorem wl_loadE {w : World} {p : Nat} {s : List Nat} {ops : Array Oper} {rest : List Oper} {op : Oper} {a : Act} {Q : Exit → Act → World → Prop} (x : Operand) (h : RowU w 33 p s) (hs : s.length = 4) (hw : Region.wanted op (yielded ops a.tmps) = true) (ho : op.op = .load 33 x)
    (hx : a.eval x = .pointer (some ⟨p, 0, none⟩)) (X : Array Value) (hX : (uv s).toArray = X) (hk : wpList Try.prog ops Q rest (a.put op.dst (.agg X)) w) : wpList Try.prog ops Q (op :: rest) a w :=
  wl_load_mid hw _ x ho p 0 hx (uv s) _ (blk_range h) Try.underlying33 rfl (by rw [length_uv, hs]; exact info4) (by rw [hX]; exact hk)
set_option maxRecDepth 100000 in
theorem zeroE : ∀ w : World, (zeroValue 33).run Try.prog w = .ok (.agg (uv [0, 0, 0, 0]).toArray) w := fun _ => by kernel_rfl

set_option maxRecDepth 100000 in
/-- a sum with a carry -/
theorem add64 (x y c : Nat) (hx : x < 18446744073709551616) (hy : y < 18446744073709551616) (hc : c ≤ 1) : ∃ s k : Nat, s < 18446744073709551616 ∧ k ≤ 1 ∧ s + 18446744073709551616 * k = x + y + c ∧ ∀ w : World, (callFunc 19 #[.int .u64 (x : Int), .int .u64 (y : Int), .int .u64 (c : Int)]).run Try.prog w = .ok (.value (.tuple #[.int .u64 (s : Int), .int .u64 (k : Int)])) w := by
  refine ⟨(x + y + c) % 18446744073709551616, (x + y + c) / 18446744073709551616, Nat.mod_lt _ (by decide), by omega, by omega, fun w => ?_⟩
  rw [run_callFunc_extern Try.func19 (by kernel_rfl) (by kernel_rfl) (by kernel_rfl) (e := add64Entry) (by kernel_rfl), run_add64 x y c (by omega) (by omega) (by omega) (by omega)]
  simp only [Result.andThen]
  congr 5 <;> omega
def sub64E : Array Value → Sem Value := fun args => do
  let (x, y, b) ← Extern.MathBitsCarry.three "Sub64" args
  pure (Extern.MathBitsCarry.pair ((x + Extern.MathBitsCarry.m64 - y - b) % Extern.MathBitsCarry.m64) (if x < y + b then 1 else 0))
theorem run_sub64E (x y b : Nat) (hb : b ≤ 1) (w : World) :
    (sub64E #[.int .u64 (x : Int), .int .u64 (y : Int), .int .u64 (b : Int)]).run Try.prog w = .ok (.tuple #[.int .u64 (((x + 18446744073709551616 - y - b) % 18446744073709551616 : Nat) : Int), .int .u64 ((if x < y + b then 1 else 0 : Nat) : Int)]) w := by
  have : b = 0 ∨ b = 1 := by omega
  rcases this with rfl | rfl <;> rfl
set_option maxRecDepth 100000 in
/-- a difference with a borrow -/
theorem sub64 (x y c : Nat) (hx : x < 18446744073709551616) (hy : y < 18446744073709551616) (hc : c ≤ 1) : ∃ s k : Nat, s < 18446744073709551616 ∧ k ≤ 1 ∧ s + y + c = x + 18446744073709551616 * k ∧ ∀ w : World, (callFunc 27 #[.int .u64 (x : Int), .int .u64 (y : Int), .int .u64 (c : Int)]).run Try.prog w = .ok (.value (.tuple #[.int .u64 (s : Int), .int .u64 (k : Int)])) w := by
  refine ⟨(x + 18446744073709551616 - y - c) % 18446744073709551616, if x < y + c then 1 else 0, Nat.mod_lt _ (by decide), by split <;> omega, by split <;> omega, fun w => ?_⟩
  rw [run_callFunc_extern Try.func27 (by kernel_rfl) (by kernel_rfl) (by kernel_rfl) (e := sub64E) (by kernel_rfl), run_sub64E x y c hc]
  rfl
def lays264_ren : Go.Shelf.Ren := ⟨fun | 264 => 30 | n => n, fun | 53 => 31 | 46 => 44 | n => n, fun | n => n⟩
theorem lays264 : Go.Proofs.Lays.n264 Try.prog lays264_ren := {
  mixed := by kernel_rfl
  f264 := Try.func30.trans (congrArg some (by kernel_rfl))
  t46 := Try.underlying44
  a46 := Try.isAgg44
  z46 := Try.sizeOf44
  v46 := Try.zeroValue44
  t53 := Try.underlying31
  a53 := Try.isAgg31
  z53 := Try.sizeOf31
  v53 := Try.zeroValue31 }
theorem mul64 (x y : Nat) (hx : x < 18446744073709551616) (hy : y < 18446744073709551616) (w : World) : Calls Try.prog 30 #[.int .u64 (x : Int), .int .u64 (y : Int)] w fun e w' => e = .returned (.tuple #[.int .u64 ((x * y / 18446744073709551616 : Nat) : Int), .int .u64 ((x * y % 18446744073709551616 : Nat) : Int)]) ∧ w' = w :=
  Any.bits_Mul64 lays264 x y hx hy w
/-- powers of a word's size, closed to the walk -/
def pw64 (k : Nat) : Nat := 18446744073709551616 ^ k
theorem pw64_zero : pw64 0 = 1 := rfl
theorem pw64_succ (k : Nat) : pw64 (k + 1) = pw64 k * 18446744073709551616 := Nat.pow_succ ..
theorem pw64_add (j k : Nat) : pw64 (j + k) = pw64 j * pw64 k := Nat.pow_add ..
theorem carry_step {Q x s c d nvn nvo T : Nat} (h1 : nvn + x * Q = nvo + s * Q) (h2 : nvo + c * Q = T) (h3 : s + 18446744073709551616 * d = x + c) : nvn + d * (Q * 18446744073709551616) = T := by
  have h4 := congrArg (· * Q) h3
  simp only [Nat.add_mul] at h4
  have e : d * (Q * 18446744073709551616) = 18446744073709551616 * d * Q := by rw [← Nat.mul_assoc, Nat.mul_comm, Nat.mul_assoc]
  rw [e]
  omega
/-- two arrays made one behind the other -/
theorem twoU (w : World) (ty : TypeId) (l r : List Nat) : ((w.alloc (.cells (uv l).toArray ty)).alloc (.cells (uv r).toArray ty)).heap.size = w.heap.size + 2 ∧ RowU ((w.alloc (.cells (uv l).toArray ty)).alloc (.cells (uv r).toArray ty)) ty w.heap.size l ∧ RowU ((w.alloc (.cells (uv l).toArray ty)).alloc (.cells (uv r).toArray ty)) ty (w.heap.size + 1) r ∧ Below w.heap.size w ((w.alloc (.cells (uv l).toArray ty)).alloc (.cells (uv r).toArray ty)) := by
  have hs1 : (w.alloc (.cells (uv l).toArray ty)).heap.size = w.heap.size + 1 := by simp
  have hb1 := (Below.refl w.heap.size w).alloc (Nat.le_refl _) (.cells (uv l).toArray ty)
  have hb2 := (Below.refl (w.alloc (.cells (uv l).toArray ty)).heap.size (w.alloc (.cells (uv l).toArray ty))).alloc (Nat.le_refl _) (.cells (uv r).toArray ty)
  have hz2 := RowU.new (w.alloc (.cells (uv l).toArray ty)) ty r
  rw [hs1] at hz2
  exact ⟨by simp, (RowU.new w ty l).below hb2 (by omega), hz2, hb1.trans (hb2.mono (by omega))⟩
theorem RowU.far {w : World} {ty : TypeId} {p g : Nat} {s : List Nat} (h : RowU w ty p s) (hne : p ≠ g) (k : Nat) (v : Value) : RowU (w.setCell ⟨g, k, none⟩ v) ty p s := h.keep (Below.heap_setCell w ⟨g, k, none⟩ v p hne)
theorem RowU.farRow {w : World} {ty : TypeId} {p g : Nat} {s : List Nat} (h : RowU w ty p s) (hne : p ≠ g) (cs : Array Value) : RowU (w.setRow g cs) ty p s := h.keep (setRow_other w g p _ hne)
set_option maxRecDepth 100000 in
theorem results_cellU {fn : Func} {t : Tmp} {ty : TypeId} (h : fn.results = #[.cell t ty]) (ts : Array Value) (P : Program) (w : World) (ad : Addr) (v : Value) (h2 : ts.getD t undef = .pointer (some ad)) (h3 : (loadVar ty ad).run P w = .ok v w) :
    (results fn ts).run P w = .ok v w := by
  have h2' : ts[t]?.getD undef = .pointer (some ad) := by simpa using h2
  simp [results, h, h2', asAddr, h3]
set_option maxRecDepth 100000 in
theorem results_cellU2 {fn : Func} {t u : Tmp} {ty : TypeId} (h : fn.results = #[.cell t ty, .tmp u]) (ts : Array Value) (P : Program) (w : World) (ad : Addr) (v x : Value) (h2 : ts.getD t undef = .pointer (some ad)) (hx : ts.getD u undef = x) (h3 : (loadVar ty ad).run P w = .ok v w) :
    (results fn ts).run P w = .ok (.tuple #[v, x]) w := by
  subst hx
  have h2' : ts[t]?.getD undef = .pointer (some ad) := by simpa using h2
  simp [results, h, h2', asAddr, h3]
/-- block p is an array of four cells -/
def Blk4 (w : World) (p : Nat) (X : Array Value) : Prop := X.size = 4 ∧ w.heap[p]? = some (.cells X 33 (0, 0))
section
variable {w w' : World} {p g : Nat} {X Y : Array Value}
theorem Blk4.below {B : Nat} (h : Blk4 w p X) (hb : Below B w w') (hp : p < B) : Blk4 w' p X := ⟨h.1, (hb.block p hp).trans h.2⟩
theorem Blk4.set (h : Blk4 w p X) (hy : Y.size = 4) : Blk4 (w.setRow p Y) p Y := ⟨hy, setRow_heap w p _ _ _ _ h.2⟩
theorem Blk4.far (h : Blk4 w p X) (hne : p ≠ g) (cs : Array Value) : Blk4 (w.setRow g cs) p X := ⟨h.1, (setRow_other w g p _ hne).trans h.2⟩
theorem Blk4.new (w : World) (h : X.size = 4) : Blk4 (w.alloc (.cells X 33)) w.heap.size X := ⟨h, heap_alloc_new w _⟩
theorem Blk4.lt (h : Blk4 w p X) : p < w.heap.size := (Array.getElem?_eq_some_iff.1 h.2).1
theorem Blk4.load (h : Blk4 w p X) : (loadVar 33 ⟨p, 0, none⟩).run Try.prog w = .ok (.agg X) w := by
  obtain ⟨h1, h2⟩ := h
  obtain ⟨l⟩ := X
  exact run_loadVar_mid w p 0 _ l _ (blk_range h2) Try.underlying33 rfl (by rw [show l.length = 4 from h1]; exact info4)
theorem Blk4.cell (h : Blk4 w p X) (k : Nat) : w.cell? ⟨p, k, none⟩ = X[k]? := blk_cell h.2
theorem Blk4.free (h : Blk4 w p X) (k : Nat) : w.frozen? ⟨p, k, none⟩ = false := frozen_of_row _ _ k _ _ h.2
theorem wl_load4 (x : Operand) (h : Blk4 w p X) {ops : Array Oper} {rest : List Oper} {op : Oper} {a : Act} {Q : Exit → Act → World → Prop} (hw : Region.wanted op (yielded ops a.tmps) = true) (ho : op.op = .load 33 x)
    (hx : a.eval x = .pointer (some ⟨p, 0, none⟩)) (hk : wpList Try.prog ops Q rest (a.put op.dst (.agg X)) w) : wpList Try.prog ops Q (op :: rest) a w := by
  obtain ⟨h1, h2⟩ := h
  obtain ⟨l⟩ := X
  exact wl_load_mid hw _ x ho p 0 hx l _ (blk_range h2) Try.underlying33 rfl (by rw [show l.length = 4 from h1]; exact info4) hk
theorem wl_store4 (x y : Operand) (h : Blk4 w p X) {ops : Array Oper} {rest : List Oper} {op : Oper} {a : Act} {Q : Exit → Act → World → Prop} (hw : Region.wanted op (yielded ops a.tmps) = true) (ho : op.op = .store 33 x y)
    (hx : a.eval x = .pointer (some ⟨p, 0, none⟩)) (hy : a.eval y = .agg Y) (hY : Y.size = 4) (h1 : ∀ v ∈ Y.toList, v.oneCell' = true) (hk : wpList Try.prog ops Q rest (a.put op.dst undef) (w.setRow p Y)) : wpList Try.prog ops Q (op :: rest) a w := by
  refine wl_store_blk hw _ x y ho p 0 Y hx hy X _ h.2 (by rw [hY, h.1]; decide) (by rw [hY]; exact info4) h1 ?_
  have e : (X.toList.take 0 ++ Y.toList ++ X.toList.drop (0 + Y.size)).toArray = Y := by
    rw [List.take_zero, List.nil_append, List.drop_eq_nil_of_le (by simp [h.1, hY]), List.append_nil, Array.toArray_toList]
  rw [e]
  exact hk
end
theorem newTwo (w : World) (o1 o2 : Obj) : ((w.alloc o1).alloc o2).heap.size = w.heap.size + 2 ∧ ((w.alloc o1).alloc o2).heap[w.heap.size]? = some o1 ∧ ((w.alloc o1).alloc o2).heap[w.heap.size + 1]? = some o2 ∧ Below w.heap.size w ((w.alloc o1).alloc o2) := by
  have h1 := heap_alloc_new w o1
  have hz : (w.alloc o1).heap.size = w.heap.size + 1 := by simp
  have h2 := heap_alloc_new (w.alloc o1) o2
  have b1 := (Below.refl w.heap.size w).alloc (Nat.le_refl _) o1
  have b2 := (Below.refl (w.alloc o1).heap.size (w.alloc o1)).alloc (Nat.le_refl _) o2
  rw [hz] at h2 b2
  exact ⟨by simp, (b2.block w.heap.size (Nat.lt_succ_self _)).trans h1, h2, b1.trans (b2.mono (Nat.le_succ _))⟩
end Go.Proofs.Ytgpjidlomhkpeaa
