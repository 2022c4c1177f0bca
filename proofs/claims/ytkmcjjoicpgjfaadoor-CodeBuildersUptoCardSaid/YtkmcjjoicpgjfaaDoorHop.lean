/-
  Hops of a route: their cells; a slice of hops among the arguments; contract of shallotlaw10.Hops: the program's hops with the same cells, in new memory. Conditions: the sizes that slices can have.
-/
import Derived.Test.YtkmcjjoicpgjfaaDoorCmdOpen
import Derived.Test.YtkmcjjoicpgjfaaDoorBlk
import Derived.Test.YtkmcjjoicpgjfaaDoorOpenD
namespace Go.Proofs.YtkmcjjoicpgjfaaDoor
open Go Go.RowKit Go.Sh Go.ChangeShapes Go.WideShapes Go.ChangeAt

/-- a hop: name, number, the keys' cells, delay, flags -/
structure Hp where
  nm : ByteArray
  id : Int
  ks : List Value
  dl : Int
  fl : Int
def Hp.cells (h : Hp) : List Value := .string h.nm :: .int .u64 h.id :: (h.ks ++ [.int .i64 h.dl, .int .i64 h.fl])
structure Hp.OK (h : Hp) : Prop where
  id : 0 ≤ h.id ∧ h.id < 18446744073709551616
  l : h.ks.length = 64
  o : ∀ v ∈ h.ks, v.oneCell' = true
  dl : -9223372036854775808 ≤ h.dl ∧ h.dl ≤ 9223372036854775807
  fl : -9223372036854775808 ≤ h.fl ∧ h.fl ≤ 9223372036854775807
theorem Hp.OK.size {h : Hp} (ok : h.OK) : h.cells.length = 68 := by
  simp [Hp.cells, ok.l]
theorem Hp.OK.one {h : Hp} (ok : h.OK) : ∀ v ∈ h.cells, v.oneCell' = true := by
  intro v hv
  simp only [Hp.cells, List.mem_cons, List.mem_append, List.not_mem_nil, or_false] at hv
  rcases hv with rfl | rfl | hv | rfl | rfl
  · rfl
  · rfl
  · exact ok.o v hv
  · rfl
  · rfl
theorem Hp.OK.c66 {h : Hp} (ok : h.OK) : h.cells[66]? = some (.int .i64 h.dl) := by
  have := ok.l
  show (h.ks ++ [.int .i64 h.dl, .int .i64 h.fl])[64]? = _
  rw [List.getElem?_append_right (by omega), show 64 - h.ks.length = 0 by omega]
  rfl
theorem Hp.OK.c67 {h : Hp} (ok : h.OK) : h.cells[67]? = some (.int .i64 h.fl) := by
  have := ok.l
  show (h.ks ++ [.int .i64 h.dl, .int .i64 h.fl])[65]? = _
  rw [List.getElem?_append_right (by omega), show 65 - h.ks.length = 1 by omega]
  rfl
/-- the node's cells -/
def Hp.node (h : Hp) : List Value := .string h.nm :: .int .u64 h.id :: h.ks
theorem Hp.node_take (h : Hp) (ok : h.OK) : h.cells.take 66 = h.node := by
  have e : h.cells = h.node ++ [.int .i64 h.dl, .int .i64 h.fl] := by simp [Hp.cells, Hp.node]
  have hl : h.node.length = 66 := by simp [Hp.node, ok.l]
  rw [e, List.take_left' hl]
theorem Hp.node_len {h : Hp} (ok : h.OK) : h.node.length = 66 := by simp [Hp.node, ok.l]

set_option maxRecDepth 100000 in
theorem cells32 : Tryd.prog.cellsOf 147 = 32 := by kernel_rfl
set_option maxRecDepth 100000 in
theorem cellsNode : Tryd.prog.cellsOf 149 = 66 := by kernel_rfl
set_option maxRecDepth 100000 in
theorem cellsI : Tryd.prog.cellsOf 3 = 1 := by kernel_rfl
set_option maxRecDepth 100000 in
theorem cellsS : Tryd.prog.cellsOf 9 = 1 := by kernel_rfl
section
variable {H : Type} {enc : TypeId × Value → H} {W : World} {base : Nat} {spare : Nat → Bool} {held : Bool} {fuel : Nat} {x : DataW H × List MemPlace}
theorem trod_key {cs : List Value} (h : DataW.trod enc Tryd.prog W base spare held fuel 147 cs = some x) : cs.length = 32 ∧ ∀ v ∈ cs, v.oneCell' = true := by
  obtain ⟨xs, q, _, _, hl, hxl, hi⟩ := DataW.trod_array Tryd.underlying147 h
  rw [cells32] at hl
  refine ⟨hl, fun v hv => ?_⟩
  obtain ⟨i, hi', rfl⟩ := List.mem_iff_getElem.1 hv
  have h1 := hi i (by omega)
  rw [cells1b, Nat.mul_one, List.drop_eq_getElem_cons hi', List.take_succ_cons, List.take_zero, List.getElem?_eq_getElem (by omega)] at h1
  obtain ⟨z, e, _, _⟩ := trod_u8 h1
  rw [e]
  rfl
set_option maxRecDepth 100000 in
theorem trod_node {cs : List Value} (h : DataW.trod enc Tryd.prog W base spare held fuel 149 cs = some x) : ∃ (nm : ByteArray) (id : Int) (ks : List Value), cs = .string nm :: .int .u64 id :: ks ∧ (0 ≤ id ∧ id < 18446744073709551616) ∧ ks.length = 64 ∧ (∀ v ∈ ks, v.oneCell' = true) ∧ nm.size ≤ maxLen := by
  obtain ⟨xs, q, _, _, hl, hxl, hf⟩ := DataW.trod_struct Tryd.underlying149 h
  rw [cellsNode] at hl
  match cs, hl with
  | a :: b :: ks, hl =>
    have hkl : ks.length = 64 := by simpa using hl
    have h0 : DataW.trod enc Tryd.prog W base spare held q 9 (List.take (Tryd.prog.cellsOf 9) (List.drop 0 (a :: b :: ks))) = xs[0]? := hf 0 _ rfl
    have h1 : DataW.trod enc Tryd.prog W base spare held q 113 (List.take (Tryd.prog.cellsOf 113) (List.drop 1 (a :: b :: ks))) = xs[1]? := hf 1 _ rfl
    have h2 : DataW.trod enc Tryd.prog W base spare held q 147 (List.take (Tryd.prog.cellsOf 147) (List.drop 2 (a :: b :: ks))) = xs[2]? := hf 2 _ rfl
    have h3 : DataW.trod enc Tryd.prog W base spare held q 147 (List.take (Tryd.prog.cellsOf 147) (List.drop 34 (a :: b :: ks))) = xs[3]? := hf 3 _ rfl
    have hxs : xs.length = 4 := hxl
    simp only [cellsS, cells8b, cells32, List.drop_zero, List.drop_succ_cons, List.take_succ_cons, List.take_zero] at h0 h1 h2 h3
    rw [List.getElem?_eq_getElem (by omega)] at h0 h1 h2 h3
    obtain ⟨nm, e0, _, w0⟩ := DataW.trod_string Tryd.underlying9 h0
    obtain ⟨id, e1, _, w1⟩ := DataW.trod_int Tryd.underlying113 h1
    obtain ⟨l2, o2⟩ := trod_key h2
    obtain ⟨l3, o3⟩ := trod_key h3
    obtain rfl : a = .string nm := by simpa using e0
    obtain rfl : b = .int .u64 id := by simpa using e1
    have b1 := bounds_u64 w1
    refine ⟨nm, id, ks, rfl, ⟨b1.1, by omega⟩, hkl, fun v hv => ?_, w0⟩
    have e : ks = ks.take 32 ++ (ks.drop 32).take 32 := by
      rw [← List.take_add, List.take_of_length_le (by omega)]
    rw [e, List.mem_append] at hv
    rcases hv with hv | hv
    · exact o2 v (by simpa using hv)
    · exact o3 v (by simpa using hv)
end
end Go.Proofs.YtkmcjjoicpgjfaaDoor
