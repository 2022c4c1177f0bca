/-
  Commands as arguments: what a command, or a slice of commands, that came in reads as. No statement of the seat is proved here.
-/
import Derived.Test.YtkmcjjoicpgjfaaDoorCmdEq
import Derived.Test.YtkmcjjoicpgjfaaDoorOpen
import Derived.OpenShut
namespace Go.Proofs.YtkmcjjoicpgjfaaDoor
open Go Go.RowKit Go.Sh Go.ChangeShapes Go.WideShapes Go.ChangeAt

section
variable {H : Type} {enc : TypeId × Value → H} {W : World} {base : Nat} {spare : Nat → Bool} {held : Bool} {fuel : Nat} {x : DataW H × List MemPlace}
set_option maxRecDepth 100000 in
theorem trod_u8 {v : Value} (h : DataW.trod enc Tryd.prog W base spare held fuel 5 [v] = some x) : ∃ z : Int, v = .int .u8 z ∧ 0 ≤ z ∧ z < 256 := by
  obtain ⟨z, e, _, wf⟩ := DataW.trod_int Tryd.underlying5 h
  have := bounds_u8 wf
  exact ⟨z, by simpa using e, by omega, by omega⟩
set_option maxRecDepth 100000 in
theorem list20 {l : List Value} (h : l.length = 20) : ∃ a b c d r, l = a :: b :: c :: d :: r ∧ r.length = 16 := by
  match l, h with
  | a :: b :: c :: d :: r, h => exact ⟨a, b, c, d, r, rfl, by simpa using h⟩
end

/-- '.slice A n c' holds the commands cl and lies below block B -/
def RC (w : World) (B : Nat) (A : Option Addr) (n : Nat) (cl : List Cmd) : Prop := cl.length = n ∧ (∀ c ∈ cl, c.OK) ∧ (cl = [] ∨ ∃ b off, A = some ⟨b, off, none⟩ ∧ b < B ∧ ∀ i c, cl[i]? = some c → w.rangeAt b (off + i * 20) c.cells)
theorem RC.len {w : World} {B : Nat} {A : Option Addr} {n : Nat} {cl : List Cmd} (h : RC w B A n cl) : cl.length = n := h.1
theorem RC.below {w w' : World} {B : Nat} {A : Option Addr} {n : Nat} {cl : List Cmd} (h : RC w B A n cl) (hb : Below B w w') : RC w' B A n cl := by
  refine ⟨h.1, h.2.1, h.2.2.imp id ?_⟩
  rintro ⟨b, off, e, hl, hr⟩
  exact ⟨b, off, e, hl, fun i c hc j v hv => (hb.cell (p := ⟨b, off + i * 20 + j, none⟩) hl).trans (hr i c hc j v hv)⟩
theorem RC.more {w : World} {B B' : Nat} {A : Option Addr} {n : Nat} {cl : List Cmd} (h : RC w B A n cl) (hB : B ≤ B') : RC w B' A n cl := by
  refine ⟨h.1, h.2.1, h.2.2.imp id ?_⟩
  rintro ⟨b, off, e, hl, hr⟩
  exact ⟨b, off, e, by omega, hr⟩
end Go.Proofs.YtkmcjjoicpgjfaaDoor
