/-
  Words for structs and arrays in memory, over any program: a load or a store of a whole struct also where the operation is guarded. No statement of the seat is proved here.
-/
import Derived.Test.YtkmcjjoicpgjfaaDoorWords
import Derived.Deep.MidRow
import Derived.Laws.Rows
namespace Go.Sh
open Go Go.RowKit

theorem wl_load_mid {P : Program} {ops : Array Oper} {rest : List Oper} {op : Oper} {a : Act} {w : World} {Q : Exit → Act → World → Prop} (hw : Region.wanted op (yielded ops a.tmps) = true) (ty : TypeId) (x : Operand) (ho : op.op = .load ty x)
    (b o : Nat) (hx : a.eval x = .pointer (some ⟨b, o, none⟩)) (cs : List Value) (d : TypeDesc) (hc : w.rangeAt b o cs)
    (hu : P.underlying ty = some d) (hd : d.isRow = true) (hi : (P.info? ty).map (·.size) = some cs.length)
    (h : wpList P ops Q rest (a.put op.dst (.agg cs.toArray)) w) : wpList P ops Q (op :: rest) a w :=
  wl_step hw fun _ hK => wp_load_mid ty x ho b o hx cs d hc hu hd hi (hK _ _ h)

set_option maxRecDepth 100000 in
/-- a struct or an array is stored into a block that is known whole -/
theorem wl_store_blk {P : Program} {ops : Array Oper} {rest : List Oper} {op : Oper} {a : Act} {w : World} {Q : Exit → Act → World → Prop} (hw : Region.wanted op (yielded ops a.tmps) = true) (ty : TypeId) (x y : Operand) (ho : op.op = .store ty x y)
    (b o : Nat) (cells : Array Value) (hx : a.eval x = .pointer (some ⟨b, o, none⟩)) (hy : a.eval y = .agg cells) (cs : Array Value) (t : TypeId) (hg : w.heap[b]? = some (.cells cs t (0, 0))) (hfit : o + cells.size ≤ cs.size)
    (hi : (P.info? ty).map (·.size) = some cells.size) (h1 : ∀ v ∈ cells.toList, v.oneCell' = true)
    (h : wpList P ops Q rest (a.put op.dst undef) (w.setRow b (cs.toList.take o ++ cells.toList ++ cs.toList.drop (o + cells.size)).toArray)) : wpList P ops Q (op :: rest) a w := by
  refine wl_step hw fun K hK => ?_
  have hst := run_storeCells_at P b o t cells.toList 0 cs w hg (by simpa using hfit) h1
  have hrun : (storeVar ty ⟨b, o, none⟩ (.agg cells)).run P w = .ok () (w.setRow b (cs.toList.take o ++ cells.toList ++ cs.toList.drop (o + cells.size)).toArray) := by
    cases hq : P.info? ty with
    | none => simp [hq] at hi
    | some i =>
      have hs : cells.size = i.size := by simp [hq] at hi; omega
      simp only [Nat.add_zero, Array.length_toList] at hst
      simp [storeVar, sizeOf, typeInfo, hq, Value.cells, hs, hst]
  unfold Oper.wp execOp
  simp only [ho, hx, hy, Instr.storeAt, Instr.sureAddr, Sem.run_bind, Sem.run_pure, Result.andThen_ok, hrun]
  exact hK _ _ h

set_option maxRecDepth 100000 in
theorem below_setRow {B : Nat} {a w : World} (h : Below B a w) {b : Nat} (hb : B ≤ b) (cs : Array Value) : Below B a (w.setRow b cs) :=
  ⟨h.os, h.tape, h.output, by simpa [World.setRow] using h.size, fun k hk => by rw [setRow_other w b k _ (by omega)]; exact h.block k hk⟩
theorem grown_setRow (w : World) (b : Nat) (cs : Array Value) : w.grownBy (w.setRow b cs) (some b) :=
  ⟨rfl, rfl, rfl, by simp [World.setRow], fun k _ hk => setRow_other w b k _ (fun e => hk (by simp [e]))⟩
theorem size_setRow (w : World) (b : Nat) (cs : Array Value) : (w.setRow b cs).heap.size = w.heap.size := by simp [World.setRow]
theorem grown_setCell (w : World) (b i : Nat) (v : Value) : w.grownBy (w.setCell ⟨b, i, none⟩ v) (some b) :=
  ⟨rfl, rfl, rfl, by simp [World.setCell], fun k _ hk => by simp only [World.setCell, Array.getElem?_modify]; rw [if_neg (by intro e; exact hk (by rw [e]))]⟩
theorem blk_set {w : World} {p i : Nat} {cs : Array Value} {t : TypeId} {fr : Nat × Nat} (h : w.heap[p]? = some (.cells cs t fr)) (v : Value) : (w.setCell ⟨p, i, none⟩ v).heap[p]? = some (.cells (cs.setIfInBounds i v) t fr) := by
  simp [World.setCell, Array.getElem?_modify, h]
theorem blk_cell {w : World} {p i : Nat} {cs : Array Value} {t : TypeId} {fr : Nat × Nat} (h : w.heap[p]? = some (.cells cs t fr)) : w.cell? ⟨p, i, none⟩ = cs[i]? := cell_of_row w p i cs t fr h
set_option maxRecDepth 100000 in
theorem blk_range {w : World} {p : Nat} {l : List Value} {t : TypeId} {fr : Nat × Nat} (h : w.heap[p]? = some (.cells l.toArray t fr)) : w.rangeAt p 0 l := fun j v hv => by
  rw [blk_cell h]
  simpa using hv
set_option maxRecDepth 100000 in
theorem alloc_setRow (w : World) (zc cells : Array Value) (t : TypeId) : (w.alloc (.cells zc t)).setRow w.heap.size cells = w.alloc (.cells cells t) := by
  unfold World.setRow World.alloc
  congr 1
  apply Array.ext
  · simp
  · intro i h1 h2
    rw [Array.getElem_modify]
    simp only [Array.getElem_push]
    by_cases h : w.heap.size = i
    · subst h; simp
    · have hlt : i < w.heap.size := by
        have : i < w.heap.size + 1 := by simpa using h2
        omega
      rw [if_neg h, dif_pos hlt, dif_pos hlt]
set_option maxRecDepth 100000 in
theorem run_store_blk {P : Program} (w : World) (b o : Nat) (ty : TypeId) (cells cs : Array Value) (t : TypeId) (hg : w.heap[b]? = some (.cells cs t (0, 0))) (hfit : o + cells.size ≤ cs.size)
    (hi : (P.info? ty).map (·.size) = some cells.size) (h1 : ∀ v ∈ cells.toList, v.oneCell' = true) :
    (Instr.storeAt ty (.pointer (some ⟨b, o, none⟩)) (.agg cells)).run P w = .ok () (w.setRow b (cs.toList.take o ++ cells.toList ++ cs.toList.drop (o + cells.size)).toArray) := by
  have hst := run_storeCells_at P b o t cells.toList 0 cs w hg (by simpa using hfit) h1
  cases hq : P.info? ty with
  | none => simp [hq] at hi
  | some i =>
    have hs : cells.size = i.size := by simp [hq] at hi; omega
    simp only [Nat.add_zero, Array.length_toList] at hst
    simp [Instr.storeAt, Instr.sureAddr, storeVar, sizeOf, typeInfo, hq, Value.cells, hs, hst]
/-- as the walk lays a store open: the cells go into a block that is known whole -/
theorem run_cells_whole {P : Program} (w : World) (b : Nat) (cells cs : Array Value) (t : TypeId) (hg : w.heap[b]? = some (.cells cs t (0, 0))) (hs : cells.size = cs.size) (h1 : ∀ v ∈ cells.toList, v.oneCell' = true) :
    (storeCells ⟨b, 0, none⟩ cells.toList).run P w = .ok () (w.setRow b cells) := by
  have h := run_storeCells_at P b 0 t cells.toList 0 cs w hg (by simp; omega) h1
  simp only [Nat.add_zero, Nat.zero_add] at h
  rw [List.take_zero, List.nil_append, List.drop_eq_nil_of_le (by simp; omega), List.append_nil, Array.toArray_toList] at h
  exact h
theorem run_cells_new {P : Program} (w : World) (t : TypeId) (cells zc : Array Value) (hs : cells.size = zc.size) (h1 : ∀ v ∈ cells.toList, v.oneCell' = true) :
    (storeCells ⟨w.heap.size, 0, none⟩ cells.toList).run P (w.alloc (.cells zc t)) = .ok () (w.alloc (.cells cells t)) := by
  rw [run_cells_whole (P := P) (w.alloc (.cells zc t)) w.heap.size cells zc t (heap_alloc_new w _) hs h1, alloc_setRow]
/-- a variable of a struct's type is made and its value stored -/
theorem run_store_new {P : Program} (w : World) (ty : TypeId) (cells zc : Array Value) (hs : cells.size = zc.size) (hi : (P.info? ty).map (·.size) = some cells.size) (h1 : ∀ v ∈ cells.toList, v.oneCell' = true) :
    (Instr.storeAt ty (.pointer (some ⟨w.heap.size, 0, none⟩)) (.agg cells)).run P (w.alloc (.cells zc ty)) = .ok () (w.alloc (.cells cells ty)) := by
  have h := run_store_blk (P := P) (w.alloc (.cells zc ty)) w.heap.size 0 ty cells zc ty (heap_alloc_new w _) (by omega) hi h1
  rw [List.take_zero, List.nil_append, List.drop_eq_nil_of_le (by simp; omega), List.append_nil, Array.toArray_toList, alloc_setRow] at h
  exact h
/-- .. in the whole block of a struct -/
theorem run_store_whole {P : Program} (w : World) (b : Nat) (ty : TypeId) (cells cs : Array Value) (t : TypeId) (hg : w.heap[b]? = some (.cells cs t (0, 0))) (hs : cells.size = cs.size) (hi : (P.info? ty).map (·.size) = some cells.size) (h1 : ∀ v ∈ cells.toList, v.oneCell' = true) :
    (Instr.storeAt ty (.pointer (some ⟨b, 0, none⟩)) (.agg cells)).run P w = .ok () (w.setRow b cells) := by
  have h := run_store_blk (P := P) w b 0 ty cells cs t hg (by omega) hi h1
  rw [List.take_zero, List.nil_append, List.drop_eq_nil_of_le (by simp; omega), List.append_nil, Array.toArray_toList] at h
  exact h
end Go.Sh
