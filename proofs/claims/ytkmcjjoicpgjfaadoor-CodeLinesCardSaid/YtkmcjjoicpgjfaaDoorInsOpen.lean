/-
  A slice of instructions among the arguments. No statement of the seat is proved here.
-/
import Derived.Test.YtkmcjjoicpgjfaaDoorVerElems
namespace Go.Proofs.YtkmcjjoicpgjfaaDoor
open Go Go.RowKit Go.Sh Go.ChangeShapes Go.WideShapes Go.ChangeAt

set_option maxRecDepth 100000 in
theorem trod_insOK {H : Type} {enc : TypeId × Value → H} {W : World} {base : Nat} {spare : Nat → Bool} {held : Bool} {fuel : Nat} {x : DataW H × List MemPlace} {cs : List Value} (h : DataW.trod enc Tryd.prog W base spare held fuel 33 cs = some x) : ∃ i : Ins, cs = i.cells ∧ i.OK := by
  obtain ⟨xs, q, _, _, hl, hxl, hf⟩ := DataW.trod_struct Tryd.underlying33 h
  rw [cellsIns] at hl
  match cs, hl with
  | [a, b, c], _ =>
    have h0 : DataW.trod enc Tryd.prog W base spare held q 5 (List.take (Tryd.prog.cellsOf 5) (List.drop 0 [a, b, c])) = xs[0]? := hf 0 _ rfl
    have h1 : DataW.trod enc Tryd.prog W base spare held q 3 (List.take (Tryd.prog.cellsOf 3) (List.drop 1 [a, b, c])) = xs[1]? := hf 1 _ rfl
    have h2 : DataW.trod enc Tryd.prog W base spare held q 3 (List.take (Tryd.prog.cellsOf 3) (List.drop 2 [a, b, c])) = xs[2]? := hf 2 _ rfl
    have hxs : xs.length = 3 := hxl
    simp only [cells1b, cellsI, List.drop_zero, List.drop_succ_cons, List.take_succ_cons, List.take_zero] at h0 h1 h2
    rw [List.getElem?_eq_getElem (by omega)] at h0 h1 h2
    obtain ⟨op, e0, o1, o2⟩ := trod_u8 h0
    obtain ⟨dl, e1, _, w1⟩ := DataW.trod_int Tryd.underlying3 h1
    obtain ⟨fl, e2, _, w2⟩ := DataW.trod_int Tryd.underlying3 h2
    obtain rfl : b = .int .i64 dl := by simpa using e1
    obtain rfl : c = .int .i64 fl := by simpa using e2
    refine ⟨⟨UInt8.ofNat op.toNat, dl, fl⟩, ?_, bounds_i64 w1, bounds_i64 w2⟩
    rw [e0, Ins.cells]
    have : (((UInt8.ofNat op.toNat).toNat : Nat) : Int) = op := by
      rw [UInt8.toNat_ofNat']
      omega
    rw [this]
set_option maxRecDepth 100000 in
theorem openInsL {H : Type} {enc : TypeId × Value → H} {W : World} {b0 : Nat} {r : Reach} {v : Value} {d : DataW H} {p : List MemPlace}
    (hok : Value.okWide Tryd.prog W r b0 22 v) (h : DataW.Trod enc Tryd.prog W 0 (fun _ => true) true 22 v d p) : ∃ (A : Option Addr) (n c : Nat) (l : List Ins), v = .slice A n c ∧ (∀ i ∈ l, i.OK) ∧ RR W W.heap.size 3 A n (l.map Ins.cells) ∧ n ≤ c ∧ HasLen d n := by
  obtain ⟨A, n, c, rfl⟩ := okWide_slice Tryd.underlying22 hok
  obtain ⟨fuel, hf⟩ := h
  have hf' : DataW.trod enc Tryd.prog W 0 (fun _ => true) true fuel 22 [.slice A n c] = some (d, p) := hf
  obtain ⟨A', n', c', css, e, hr, hc, hd⟩ := open_rows (size := 3) Tryd.underlying22 cellsIns (by decide) hf'
  injection e with e1 e2 e3
  subst e1 e2 e3
  have hel : ∀ cs ∈ css, ∃ i : Ins, cs = i.cells ∧ i.OK := fun cs hcs => by
    obtain ⟨i, hi, rfl⟩ := List.mem_iff_getElem.1 hcs
    rcases hd with ⟨_, h0⟩ | ⟨es, sp, _, _, hel⟩
    · have := hr.len
      omega
    · obtain ⟨q, y2, ht, _⟩ := hel i _ (List.getElem?_eq_getElem hi)
      exact trod_insOK ht
  obtain ⟨l, hl⟩ := rows_map Ins.cells css fun cs hcs => by obtain ⟨i, e, _⟩ := hel cs hcs; exact ⟨i, e⟩
  refine ⟨A, n, c, l, rfl, fun i hi => ?_, by rw [← hl]; exact hr, hc, hd.has⟩
  obtain ⟨j, e, ho⟩ := hel i.cells (by rw [hl]; exact List.mem_map_of_mem hi)
  simp only [Ins.cells, List.cons.injEq, Value.int.injEq, and_true, true_and] at e
  obtain ⟨_, e2, e3⟩ := e
  exact ⟨by rw [e2]; exact ho.a, by rw [e3]; exact ho.b⟩
end Go.Proofs.YtkmcjjoicpgjfaaDoor
