/-
  Contract of command.Decode: the command that 32 bytes are, or the error. Conditions: the size that a slice can have.
-/
import Derived.Test.YtkmcjjoicpgjfaaDoorCmdRef
import Derived.StillTailTactics
import Derived.Laws.ResultCell
import Derived.Laws.CopyOwn
namespace Go.Proofs.YtkmcjjoicpgjfaaDoor
open Go Go.RowKit Go.Sh

def zeroC : Cmd := ⟨0, 0, 0, 0, noMark⟩
theorem zeroC_ok : zeroC.OK := ⟨by decide, by decide, by decide, by decide, rfl, by unfold zeroC noMark; simp⟩
/-- the command that 32 bytes spell -/
def decC (l : List UInt8) : Cmd := ⟨bt l 0, bt l 1, (getV 2 l 32 2 4 : Nat), (getV 2 l 32 6 8 : Nat), ((l.drop 14).take 16).map fun x => (x.toNat : Int)⟩
def tailB (l : List UInt8) : Bool := bt l 30 != 0 || bt l 31 != 0
def decE (l : List UInt8) : Int := if l.length = 32 then (if tailB l = true ∧ checkN (decC l) ≠ 1 then 3 else checkN (decC l)) else 2
def decR (l : List UInt8) : Cmd := if decE l = 0 then decC l else zeroC
theorem decC_ok {l : List UInt8} (h : l.length = 32) : (decC l).OK := by
  have e4 : getE 2 32 2 4 = 0 := by decide
  have e8 : getE 2 32 6 8 = 0 := by decide
  refine ⟨⟨bt_lo l 0, by have := bt_hi l 0; show bt l 0 < 256; omega⟩, ⟨bt_lo l 1, by have := bt_hi l 1; show bt l 1 < 256; omega⟩, ?_, ?_, ?_, ?_⟩
  · have hv := val_lt (f := dig 2 l 2 4) (fun j => by unfold dig; split <;> exact by8_lt _ _) 4
    simp only [decC, getV, e4, if_pos]
    have : (256 : Nat) ^ 4 = 4294967296 := rfl
    rw [show ((2 : Int).toNat) = 2 from rfl, show ((4 : Int).toNat) = 4 from rfl]
    omega
  · have hv := val_lt (f := dig 2 l 6 8) (fun j => by unfold dig; split <;> exact by8_lt _ _) 8
    simp only [decC, getV, e8, if_pos]
    have : (256 : Nat) ^ 8 = 18446744073709551616 := rfl
    rw [show ((6 : Int).toNat) = 6 from rfl, show ((8 : Int).toNat) = 8 from rfl]
    omega
  · simp [decC, h]
  · intro y hy
    simp only [decC, List.mem_map] at hy
    obtain ⟨x, _, rfl⟩ := hy
    have := x.toNat_lt
    omega

/-- a command and an error's number are handed back; nothing that was there has turned -/
def RetC (w : World) (c : Cmd) (er : Int) (e : Ending) (w' : World) : Prop := e = .returned (.tuple #[c.v, .int .i64 er]) ∧ Below w.heap.size w w'
theorem cmd_one (c : Cmd) : ∀ v ∈ c.cells.toArray.toList, v.oneCell' = true := by
  intro v hv
  simp only [Cmd.cells, List.mem_cons, List.mem_map] at hv
  rcases hv with rfl | rfl | rfl | rfl | ⟨_, _, rfl⟩ <;> rfl
theorem cmd_size {c : Cmd} (hc : c.OK) : c.cells.toArray.size = 20 := by rw [List.size_toArray, hc.size]
theorem splice_mark {c : Cmd} (hc : c.OK) (M : List UInt8) (h : M.length = 16) : splice c.cells 4 (bv M) = ({ c with m := M.map fun x => (x.toNat : Int) } : Cmd).cells := by
  unfold splice
  have e : c.cells.drop (4 + (bv M).length) = [] := List.drop_eq_nil_of_le (by rw [hc.size, length_bv]; omega)
  rw [e, List.append_nil]
  simp [Cmd.cells, bv, List.map_map, Function.comp_def]
theorem cut_lo {c : Nat} (ad : Addr) (p n : Nat) (hn : n ≤ c) (hp : p < n) (W : World) : (Instr.slice 39 (.slice (some ad) n c) (some (.int .i64 (p : Int))) none none).run Tryd.prog W = .ok (.slice (some (ad.add p)) (n - p) (c - p)) W := by
  have h := run_sl_lo TB W (some ad) n c .i64 p (by omega)
  rw [if_neg (by omega), Nat.mul_one] at h
  exact h

end Go.Proofs.YtkmcjjoicpgjfaaDoor
