/-
  Contract of command.Encode: the bytes of a command in form, or the error of Check. Conditions: the fields fit their types.
-/
import Derived.Test.YtkmcjjoicpgjfaaDoorCmd
import Derived.Test.YtkmcjjoicpgjfaaDoorPut
import Derived.Test.YtkmcjjoicpgjfaaDoorLists
import Derived.Deep.RegionHeld3
import Derived.Deep.OwnRows
namespace Go.Proofs.YtkmcjjoicpgjfaaDoor
open Go Go.RowKit Go.Sh

def byI (x : Int) : UInt8 := UInt8.ofNat x.toNat
/-- the bytes of a command -/
def encL (c : Cmd) : List UInt8 := [byI c.k, byI c.f] ++ (putB 2 4 c.d.toNat ++ (putB 2 8 c.x.toNat ++ (c.m.map byI ++ [0, 0])))
def encE (c : Cmd) : List UInt8 := if checkN c = 0 then encL c else []

theorem checkN_ok (c : Cmd) : checkN c = 0 ∨ checkN c = 1 ∨ checkN c = 3 ∨ checkN c = 11 := by
  unfold checkN
  split
  · simp
  · split
    · simp
    · split <;> simp

set_option maxRecDepth 100000 in
theorem make2 (W : World) : (Instr.makeSlice 39 (.int .i64 2) (.int .i64 2)).run Tryd.prog W = .ok (.slice (some ⟨W.heap.size, 0, none⟩) 2 2) (W.alloc (.cells #[.int .u8 0, .int .u8 0] 5)) :=
  by
  have h := run_make_row' (P := Tryd.prog) 39 5 (.int .u8 0) 1 Tryd.underlying39 (by kernel_rfl) rfl .i64 .i64 2 (by decide) (by decide) W
  rw [show madeCells #[Value.int IntKind.u8 0] 2 = #[Value.int IntKind.u8 0, Value.int IntKind.u8 0] by kernel_rfl] at h
  exact h

theorem kept2 {w w' : World} {b B : Nat} {x y : Value} (hb : Below B w w') (hl : b < B) (h0 : w.cell? ⟨b, 0, none⟩ = some x) (h1 : w.cell? ⟨b, 1, none⟩ = some y) : w'.cell? ⟨b, 0, none⟩ = some x ∧ w'.cell? ⟨b, 1, none⟩ = some y :=
  ⟨(hb.cell (p := ⟨b, 0, none⟩) hl).trans h0, (hb.cell (p := ⟨b, 1, none⟩) hl).trans h1⟩

/-- the row of the slices that were laid as a literal -/
theorem RBB_lit (w : World) (e : TypeId) (vs : List Value) (ls : List (List UInt8)) (m : Nat) (hm : vs.length = m) (hl : ls.length = m)
    (hi : ∀ i, i < m → ∃ Ai ni ci, vs[i]? = some (.slice Ai ni ci) ∧ ni ≤ ci ∧ RB w w.heap.size Ai ni (lat ls i)) (g : Nat) (hg : w.heap.size = g) :
    RBB (w.alloc (.cells vs.toArray e)) (g + 1) (some ⟨g, 0, none⟩) m ls := by
  subst hg
  refine ⟨hl, vs, Reads.lit w e vs m 1 (by omega) _ rfl, fun i hi' => ?_⟩
  obtain ⟨Ai, ni, ci, h1, h2, h3⟩ := hi i hi'
  exact ⟨Ai, ni, ci, h1, h2, (h3.alloc (Nat.le_refl _) _).more (by omega)⟩

/-- the mark of a command that lies in memory, as bytes -/
theorem mark_reads {w : World} {b : Nat} {c : Cmd} (hc : c.OK) (h : CmdAt w b c) (B : Nat) (hB : b < B) : RB w B (some ⟨b, 4, none⟩) 16 (c.m.map byI) := by
  have hbv : bv (c.m.map byI) = c.m.map (Value.int .u8) := by
    unfold bv
    rw [List.map_map]
    refine List.map_congr_left fun x hx => ?_
    have := hc.m x hx
    simp [byI]
    omega
  refine ⟨by rw [length_bv, List.length_map, hc.l], .inr ⟨_, rfl, hB, fun j hj => ?_⟩⟩
  rw [hbv] at hj ⊢
  rw [add_mk]
  rw [List.getElem?_eq_getElem hj]
  have := h.r (4 + j) ((c.m.map (Value.int .u8))[j]) (by simp [Cmd.cells, Nat.add_comm 4 j])
  rw [Nat.zero_add] at this
  exact this
theorem head_reads (w : World) (c : Cmd) (hc : c.OK) (g : Nat) (hg : w.heap.size = g) : RB (w.alloc (.cells #[.int .u8 c.k, .int .u8 c.f] 5)) (g + 1) (some ⟨g, 0, none⟩) 2 [byI c.k, byI c.f] := by
  have h := hc.k
  have h' := hc.f
  refine RB.litAt w 5 [byI c.k, byI c.f] [.int .u8 c.k, .int .u8 c.f] ?_ 2 rfl g hg
  simp [bv, byI]
  omega
theorem tail_reads (w : World) (g : Nat) (hg : w.heap.size = g) : RB (w.alloc (.cells #[.int .u8 0, .int .u8 0] 5)) (g + 1) (some ⟨g, 0, none⟩) 2 [0, 0] :=
  RB.litAt w 5 [0, 0] [.int .u8 0, .int .u8 0] rfl 2 rfl g hg

def encR (c : Cmd) : List (List UInt8) := [[byI c.k, byI c.f], putB 2 4 c.d.toNat, putB 2 8 c.x.toNat, c.m.map byI, [0, 0]]
theorem encR_flat (c : Cmd) : (encR c).flatten = encL c := by simp [encR, encL]

/-- the five pieces, laid in whatever order -/
theorem enc_rows (W : World) (c : Cmd) (hc : c.OK) (b g g' : Nat) (A2 A3 : Option Addr) (c2 c3 : Nat) (hA : CmdAt W b c) (hb : b < W.heap.size) (r2 : RB W W.heap.size A2 4 (putB 2 4 c.d.toNat)) (r3 : RB W W.heap.size A3 8 (putB 2 8 c.x.toNat)) (q2 : 4 ≤ c2) (q3 : 8 ≤ c3)
    (r1 : RB W W.heap.size (some ⟨g, 0, none⟩) 2 [byI c.k, byI c.f]) (r5 : RB W W.heap.size (some ⟨g', 0, none⟩) 2 [0, 0]) (G : Nat) (hG : W.heap.size = G) :
    RBB (W.alloc (.cells #[.slice (some ⟨g, 0, none⟩) 2 2, .slice A2 4 c2, .slice A3 8 c3, .slice (some ⟨b, 4, none⟩) 16 16, .slice (some ⟨g', 0, none⟩) 2 2] 39)) (G + 1) (some ⟨G, 0, none⟩) 5 (encR c) := by
  refine RBB_lit W 39 [.slice (some ⟨g, 0, none⟩) 2 2, .slice A2 4 c2, .slice A3 8 c3, .slice (some ⟨b, 4, none⟩) 16 16, .slice (some ⟨g', 0, none⟩) 2 2] (encR c) 5 rfl rfl (fun i hi => ?_) G hG
  match i, hi with
  | 0, _ => exact ⟨_, _, _, rfl, Nat.le_refl _, r1⟩
  | 1, _ => exact ⟨_, _, _, rfl, q2, r2⟩
  | 2, _ => exact ⟨_, _, _, rfl, q3, r3⟩
  | 3, _ => exact ⟨_, _, _, rfl, Nat.le_refl _, mark_reads hc hA _ hb⟩
  | 4, _ => exact ⟨_, _, _, rfl, Nat.le_refl _, r5⟩

end Go.Proofs.YtkmcjjoicpgjfaaDoor
