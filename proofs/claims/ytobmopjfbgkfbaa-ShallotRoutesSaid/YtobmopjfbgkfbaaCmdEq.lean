/-
  Two commands that are the same are told equal by '=='. Conditions: the fields fit their types.
-/
import Derived.Test.YtobmopjfbgkfbaaCmd
namespace Go.Proofs.Ytobmopjfbgkfbaa
open Go Go.RowKit Go.Sh

set_option maxRecDepth 100000 in
theorem cells28 : Try.prog.cellsOf 68 = 20 := by kernel_rfl
set_option maxRecDepth 100000 in
theorem cells4b : Try.prog.cellsOf 65 = 1 := by kernel_rfl
set_option maxRecDepth 100000 in
theorem cells8b : Try.prog.cellsOf 42 = 1 := by kernel_rfl
theorem wf_u32 {x : Int} (h : 0 ≤ x ∧ x < 4294967296) : (Lit.int .u32 x).wf = true := by
  simp [Lit.wf, IntKind.min, IntKind.max, IntKind.signed, IntKind.bits]
  omega
theorem wf_u64 {x : Int} (h : 0 ≤ x ∧ x < 18446744073709551616) : (Lit.int .u64 x).wf = true := by
  simp [Lit.wf, IntKind.min, IntKind.max, IntKind.signed, IntKind.bits]
  omega
theorem cmd_formed (c : Cmd) (h : c.OK) : c.v.formed Try.prog 68 = true := by
  simp [Value.formed, Try.underlying68, cells28, Cmd.v, h.size]
theorem cmd_lits (c : Cmd) (h : c.OK) : Try.prog.keyLits 3 68 c.v.cells.toList = some (.int .u8 c.k :: .int .u8 c.f :: .int .u32 c.d :: .int .u64 c.x :: c.m.map (Lit.int .u8)) := by
  obtain ⟨k, f, d, x, m⟩ := c
  obtain ⟨hk, hf, hd, hx, hl, hb⟩ := h
  simp only at hk hf hd hx hl hb
  obtain ⟨m0, m1, m2, m3, m4, m5, m6, m7, m8, m9, m10, m11, m12, m13, m14, m15, rfl⟩ := list16 hl
  have r16 : List.range 16 = [0, 1, 2, 3, 4, 5, 6, 7, 8, 9, 10, 11, 12, 13, 14, 15] := rfl
  simp only [List.mem_cons, List.not_mem_nil, or_false, forall_eq_or_imp, forall_eq] at hb
  obtain ⟨q0, q1, q2, q3, q4, q5, q6, q7, q8, q9, q10, q11, q12, q13, q14, q15⟩ := hb
  simp [Program.keyLits, Try.underlying68, Try.underlying5, Try.underlying65, Try.underlying42, Try.underlying66, Value.cells, Cmd.v, Cmd.cells, cells28, cells16, cells1b, cells4b, cells8b, r16, wf_b hk, wf_b hf, wf_u32 hd, wf_u64 hx, wf_b q0, wf_b q1, wf_b q2, wf_b q3, wf_b q4, wf_b q5, wf_b q6, wf_b q7, wf_b q8, wf_b q9, wf_b q10, wf_b q11, wf_b q12, wf_b q13, wf_b q14, wf_b q15]
set_option maxRecDepth 100000 in
/-- '==' on a command and itself -/
theorem cmd_same (c : Cmd) (h : c.OK) (w : World) : (Op.equalIn 10000 68 (.agg c.cells.toArray) (.agg c.cells.toArray)).run Try.prog w = .ok true w :=
  equalIn_keys (P := Try.prog) (t := 68) (m := 3) (by kernel_rfl) 10000 (by omega) (cmd_formed c h) (cmd_formed c h) (cmd_lits c h) (cmd_lits c h) _ (by simp) w
end Go.Proofs.Ytobmopjfbgkfbaa
