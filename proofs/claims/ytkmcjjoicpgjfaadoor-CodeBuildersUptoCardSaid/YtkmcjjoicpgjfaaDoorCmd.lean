/-
  Commands as values: contracts of command.shaped and command.Check. No conditions but that the fields fit their types.
-/
import Derived.Test.YtkmcjjoicpgjfaaDoorCopy
import Derived.Test.YtkmcjjoicpgjfaaDoorOpen
import Derived.Test.YtkmcjjoicpgjfaaDoorEqs
import Derived.Deep.MidRow
import Derived.Laws.Rows
namespace Go.Proofs.YtkmcjjoicpgjfaaDoor
open Go Go.RowKit Go.Sh

/-- a command: kind, flags, delay, next, mark -/
structure Cmd where
  k : Int
  f : Int
  d : Int
  x : Int
  m : List Int
/-- the fields fit their types -/
structure Cmd.OK (c : Cmd) : Prop where
  k : 0 ≤ c.k ∧ c.k < 256
  f : 0 ≤ c.f ∧ c.f < 256
  d : 0 ≤ c.d ∧ c.d < 4294967296
  x : 0 ≤ c.x ∧ c.x < 18446744073709551616
  l : c.m.length = 16
  m : ∀ y ∈ c.m, 0 ≤ y ∧ y < 256
def Cmd.cells (c : Cmd) : List Value := .int .u8 c.k :: .int .u8 c.f :: .int .u32 c.d :: .int .u64 c.x :: c.m.map (.int .u8)
def Cmd.v (c : Cmd) : Value := .agg c.cells.toArray
def noMark : List Int := [0, 0, 0, 0, 0, 0, 0, 0, 0, 0, 0, 0, 0, 0, 0, 0]

theorem list16 {l : List Int} (h : l.length = 16) : ∃ m0 m1 m2 m3 m4 m5 m6 m7 m8 m9 m10 m11 m12 m13 m14 m15, l = [m0, m1, m2, m3, m4, m5, m6, m7, m8, m9, m10, m11, m12, m13, m14, m15] := by
  match l, h with
  | [m0, m1, m2, m3, m4, m5, m6, m7, m8, m9, m10, m11, m12, m13, m14, m15], _ => exact ⟨m0, m1, m2, m3, m4, m5, m6, m7, m8, m9, m10, m11, m12, m13, m14, m15, rfl⟩

set_option maxRecDepth 100000 in
theorem cells1b : Tryd.prog.cellsOf 5 = 1 := by kernel_rfl
theorem wf_b {x : Int} (h : 0 ≤ x ∧ x < 256) : (Lit.int .u8 x).wf = true := by
  simp [Lit.wf, IntKind.min, IntKind.max, IntKind.signed, IntKind.bits]
  omega
theorem map_lit_inj {l r : List Int} : l.map (Lit.int .u8) = r.map (Lit.int .u8) ↔ l = r := by
  constructor
  · intro h
    exact List.map_inj_right (f := Lit.int .u8) (by intro x y e; injection e) |>.1 h
  · rintro rfl; rfl
def shapedB (c : Cmd) : Bool := ((c.k == 1) == (c.x != 0)) && (c.k == 4 || decide (c.m = noMark))

def checkN (c : Cmd) : Int := if c.k < 1 ∨ 4 < c.k then 1 else if shapedB c = false then 3 else if 1000000 < c.d then 11 else 0

theorem Cmd.OK.size {c : Cmd} (h : c.OK) : c.cells.length = 20 := by simp [Cmd.cells, h.l]
/-- the block of a command -/
structure CmdAt (w : World) (b : Nat) (c : Cmd) : Prop where
  k : w.cell? ⟨b, 0, none⟩ = some (.int .u8 c.k)
  f : w.cell? ⟨b, 1, none⟩ = some (.int .u8 c.f)
  d : w.cell? ⟨b, 2, none⟩ = some (.int .u32 c.d)
  x : w.cell? ⟨b, 3, none⟩ = some (.int .u64 c.x)
  r : w.rangeAt b 0 c.cells
set_option maxRecDepth 100000 in
theorem cmd_new (w : World) (c : Cmd) (t : TypeId) : CmdAt (w.alloc (.cells c.cells.toArray t)) w.heap.size c := by
  have r : (w.alloc (.cells c.cells.toArray t)).rangeAt w.heap.size 0 c.cells := fun j v hv => by
    rw [cell_of_row _ _ _ _ _ _ (heap_alloc_new w _)]
    simpa using hv
  exact ⟨r 0 _ rfl, r 1 _ rfl, r 2 _ rfl, r 3 _ rfl, r⟩
theorem CmdAt.below {w w' : World} {b B : Nat} {c : Cmd} (h : CmdAt w b c) (hb : Below B w w') (hl : b < B) : CmdAt w' b c :=
  ⟨(hb.cell (p := ⟨b, 0, none⟩) hl).trans h.k, (hb.cell (p := ⟨b, 1, none⟩) hl).trans h.f, (hb.cell (p := ⟨b, 2, none⟩) hl).trans h.d, (hb.cell (p := ⟨b, 3, none⟩) hl).trans h.x,
    fun j v hv => (hb.cell (p := ⟨b, 0 + j, none⟩) hl).trans (h.r j v hv)⟩

end Go.Proofs.YtkmcjjoicpgjfaaDoor
