/-
  Commands as values: contracts of command.shaped and command.Check. No conditions but that the fields fit their types.
-/
import Derived.Test.YtobmopjfbgkfbaaCopy
import Derived.Test.YtobmopjfbgkfbaaOpen
import Derived.Test.YtobmopjfbgkfbaaEqs
import Derived.Deep.MidRow
import Derived.Laws.Rows
namespace Go.Proofs.Ytobmopjfbgkfbaa
open Go Go.RowKit Go.Sh

/-- a command: kind, flags, delay, next, mark -/
structure Cmd where
  k : Int
  f : Int
  d : Int
  x : Int
  m : List Int
/-- the fields fit their types -/
structure Cmd.OK (c : Cmd) : Prop where
  k : 0 ≤ c.k ∧ c.k < 256
  f : 0 ≤ c.f ∧ c.f < 256
  d : 0 ≤ c.d ∧ c.d < 4294967296
  x : 0 ≤ c.x ∧ c.x < 18446744073709551616
  l : c.m.length = 16
  m : ∀ y ∈ c.m, 0 ≤ y ∧ y < 256
def Cmd.cells (c : Cmd) : List Value := .int .u8 c.k :: .int .u8 c.f :: .int .u32 c.d :: .int .u64 c.x :: c.m.map (.int .u8)
def Cmd.v (c : Cmd) : Value := .agg c.cells.toArray
def noMark : List Int := [0, 0, 0, 0, 0, 0, 0, 0, 0, 0, 0, 0, 0, 0, 0, 0]

theorem list16 {l : List Int} (h : l.length = 16) : ∃ m0 m1 m2 m3 m4 m5 m6 m7 m8 m9 m10 m11 m12 m13 m14 m15, l = [m0, m1, m2, m3, m4, m5, m6, m7, m8, m9, m10, m11, m12, m13, m14, m15] := by
  match l, h with
  | [m0, m1, m2, m3, m4, m5, m6, m7, m8, m9, m10, m11, m12, m13, m14, m15], _ => exact ⟨m0, m1, m2, m3, m4, m5, m6, m7, m8, m9, m10, m11, m12, m13, m14, m15, rfl⟩

set_option maxRecDepth 100000 in
theorem cells16 : Try.prog.cellsOf 66 = 16 := by kernel_rfl
set_option maxRecDepth 100000 in
theorem cells1b : Try.prog.cellsOf 5 = 1 := by kernel_rfl
theorem wf_b {x : Int} (h : 0 ≤ x ∧ x < 256) : (Lit.int .u8 x).wf = true := by
  simp [Lit.wf, IntKind.min, IntKind.max, IntKind.signed, IntKind.bits]
  omega
theorem mark_formed (l : List Int) (h : l.length = 16) : (Value.agg (l.map (Value.int .u8)).toArray).formed Try.prog 66 = true := by
  simp [Value.formed, Try.underlying66, cells16, h]
theorem mark_lits (l : List Int) (h : l.length = 16) (hb : ∀ y ∈ l, 0 ≤ y ∧ y < 256) : Try.prog.keyLits 2 66 (Value.agg (l.map (Value.int .u8)).toArray).cells.toList = some (l.map (Lit.int .u8)) := by
  obtain ⟨m0, m1, m2, m3, m4, m5, m6, m7, m8, m9, m10, m11, m12, m13, m14, m15, rfl⟩ := list16 h
  have r16 : List.range 16 = [0, 1, 2, 3, 4, 5, 6, 7, 8, 9, 10, 11, 12, 13, 14, 15] := rfl
  simp only [List.mem_cons, List.not_mem_nil, or_false, forall_eq_or_imp, forall_eq] at hb
  obtain ⟨q0, q1, q2, q3, q4, q5, q6, q7, q8, q9, q10, q11, q12, q13, q14, q15⟩ := hb
  simp [Program.keyLits, Try.underlying66, Try.underlying5, Value.cells, cells16, cells1b, r16, wf_b q0, wf_b q1, wf_b q2, wf_b q3, wf_b q4, wf_b q5, wf_b q6, wf_b q7, wf_b q8, wf_b q9, wf_b q10, wf_b q11, wf_b q12, wf_b q13, wf_b q14, wf_b q15]
theorem map_lit_inj {l r : List Int} : l.map (Lit.int .u8) = r.map (Lit.int .u8) ↔ l = r := by
  constructor
  · intro h
    exact List.map_inj_right (f := Lit.int .u8) (by intro x y e; injection e) |>.1 h
  · rintro rfl; rfl
set_option maxRecDepth 100000 in
/-- '==' on marks -/
theorem mark_eq (l r : List Int) (hl : l.length = 16) (hr : r.length = 16) (bl : ∀ y ∈ l, 0 ≤ y ∧ y < 256) (br : ∀ y ∈ r, 0 ≤ y ∧ y < 256) (w : World) :
    (Op.equalIn 10000 66 (.agg (l.map (Value.int .u8)).toArray) (.agg (r.map (Value.int .u8)).toArray)).run Try.prog w = .ok (decide (l = r)) w :=
  equalIn_keys (P := Try.prog) (t := 66) (m := 2) (by kernel_rfl) 10000 (by omega) (mark_formed l hl) (mark_formed r hr) (mark_lits l hl bl) (mark_lits r hr br) _ (by rw [map_lit_inj, decide_eq_true_iff]) w

def shapedB (c : Cmd) : Bool := ((c.k == 1) == (c.x != 0)) && (c.k == 4 || decide (c.m = noMark))

set_option maxRecDepth 100000 in
set_option maxHeartbeats 800000 in
theorem shaped_any (c : Cmd) (w : World) (hc : c.OK) : Calls Try.prog 80 #[c.v] w (fun e w' => e = .returned (.bool (shapedB c)) ∧ Below w.heap.size w w') := by
  obtain ⟨k, f, d, x, m⟩ := c
  obtain ⟨hk, hf, hd, hx, hl, hm⟩ := hc
  simp only at hk hf hd hx hl hm
  obtain ⟨m0, m1, m2, m3, m4, m5, m6, m7, m8, m9, m10, m11, m12, m13, m14, m15, rfl⟩ := list16 hl
  have heq := fun W => mark_eq [m0, m1, m2, m3, m4, m5, m6, m7, m8, m9, m10, m11, m12, m13, m14, m15] noMark hl rfl hm (by unfold noMark; simp) W
  simp only [Cmd.v, Cmd.cells, shapedB, List.map_cons, List.map_nil]
  generalize decide ([m0, m1, m2, m3, m4, m5, m6, m7, m8, m9, m10, m11, m12, m13, m14, m15] = noMark) = g at heq ⊢
  simp only [noMark, List.map_cons, List.map_nil] at heq
  go_enter Try.func80, Try.ntmps80
  go_wp2
  all_goals go_ret
  all_goals refine ⟨?_, (Below.refl _ _).alloc (Nat.le_refl _) _⟩
  all_goals simp_all

def checkN (c : Cmd) : Int := if c.k < 1 ∨ 4 < c.k then 1 else if shapedB c = false then 3 else if 1000000 < c.d then 11 else 0

theorem Cmd.OK.size {c : Cmd} (h : c.OK) : c.cells.length = 20 := by simp [Cmd.cells, h.l]
/-- the block of a command -/
structure CmdAt (w : World) (b : Nat) (c : Cmd) : Prop where
  k : w.cell? ⟨b, 0, none⟩ = some (.int .u8 c.k)
  f : w.cell? ⟨b, 1, none⟩ = some (.int .u8 c.f)
  d : w.cell? ⟨b, 2, none⟩ = some (.int .u32 c.d)
  x : w.cell? ⟨b, 3, none⟩ = some (.int .u64 c.x)
  r : w.rangeAt b 0 c.cells
set_option maxRecDepth 100000 in
theorem cmd_new (w : World) (c : Cmd) (t : TypeId) : CmdAt (w.alloc (.cells c.cells.toArray t)) w.heap.size c := by
  have r : (w.alloc (.cells c.cells.toArray t)).rangeAt w.heap.size 0 c.cells := fun j v hv => by
    rw [cell_of_row _ _ _ _ _ _ (heap_alloc_new w _)]
    simpa using hv
  exact ⟨r 0 _ rfl, r 1 _ rfl, r 2 _ rfl, r 3 _ rfl, r⟩
theorem CmdAt.below {w w' : World} {b B : Nat} {c : Cmd} (h : CmdAt w b c) (hb : Below B w w') (hl : b < B) : CmdAt w' b c :=
  ⟨(hb.cell (p := ⟨b, 0, none⟩) hl).trans h.k, (hb.cell (p := ⟨b, 1, none⟩) hl).trans h.f, (hb.cell (p := ⟨b, 2, none⟩) hl).trans h.d, (hb.cell (p := ⟨b, 3, none⟩) hl).trans h.x,
    fun j v hv => (hb.cell (p := ⟨b, 0 + j, none⟩) hl).trans (h.r j v hv)⟩

set_option maxRecDepth 100000 in
theorem Check_any (c : Cmd) (w : World) (hc : c.OK) : Calls Try.prog 76 #[c.v] w (fun e w' => e = .returned (.int .i64 (checkN c)) ∧ Below w.heap.size w w') := by
  have HS := Lib.hid (fun W => shaped_any c W hc)
  have HN := Lib.hid (cmd_new w c 68)
  have HZ := Lib.hid hc.size
  have h0 := HN.out.k
  have hk := hc.k
  have hd := hc.d
  obtain ⟨n, hn⟩ : ∃ n, checkN c = n := ⟨_, rfl⟩
  rw [hn]
  unfold checkN at hn
  generalize shapedB c = g at HS hn
  unfold Cmd.v at HS ⊢
  generalize hcs : c.cells.toArray = cs at *
  generalize hck : c.k = k at *
  generalize hcd : c.d = d at *
  have HR := Lib.hid HN.out.r
  have hi : (Try.prog.info? 68).map (·.size) = some c.cells.length := by rw [HZ.out]; kernel_rfl
  have HI := Lib.hid hi
  clear hi
  by_cases h1 : k < 1
  · rw [if_pos (.inl h1)] at hn
    subst hn
    go_enter Try.func76, Try.ntmps76
    go_wp2_with fail
    go_ret
    exact ⟨by simp, (Below.refl _ _).alloc (Nat.le_refl _) _⟩
  by_cases h4 : 4 < k
  · rw [if_pos (.inr h4)] at hn
    subst hn
    go_enter Try.func76, Try.ntmps76
    go_wp2_with fail
    go_ret
    exact ⟨by simp, (Below.refl _ _).alloc (Nat.le_refl _) _⟩
  rw [if_neg (by omega)] at hn
  go_enter Try.func76, Try.ntmps76
  go_wp2_with (refine wpList_load_mid rfl 68 _ rfl w.heap.size 0 rfl c.cells _ HR.out Try.underlying68 rfl HI.out ?_; rw [hcs])
  refine (HS.out _).mono ?_
  rintro e w1 ⟨rfl, hb⟩
  have h2 := (HN.out.below hb (by simp)).d
  have HB := Lib.hid (((Below.refl w.heap.size w).alloc (Nat.le_refl _) _).trans (hb.mono (by simp)))
  clear hb h0
  rw [hcd] at h2
  cases g
  · rw [if_pos rfl] at hn
    subst hn
    go_wp2_with fail
    go_ret
    exact ⟨by simp, HB.out⟩
  · rw [if_neg (by simp)] at hn
    by_cases h11 : 1000000 < d
    · rw [if_pos h11] at hn
      subst hn
      go_wp2_with fail
      go_ret
      exact ⟨by simp, HB.out⟩
    · rw [if_neg h11] at hn
      subst hn
      go_wp2_with fail
      go_ret
      exact ⟨by simp, HB.out⟩
end Go.Proofs.Ytobmopjfbgkfbaa
