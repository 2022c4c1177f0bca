/-
  '==' on two arrays of 32 bytes tells whether they are the same. No conditions.
-/
import Derived.Test.YtgpjidlomhkpeaaCvCl
import Derived.Test.YtgpjidlomhkpeaaEqs
namespace Go.Proofs.Ytgpjidlomhkpeaa
open Go Go.RowKit Go.Sh

theorem lst32 {l : List UInt8} (h : l.length = 32) : ∃ m0 m1 m2 m3 m4 m5 m6 m7 m8 m9 m10 m11 m12 m13 m14 m15 m16 m17 m18 m19 m20 m21 m22 m23 m24 m25 m26 m27 m28 m29 m30 m31, l = [m0, m1, m2, m3, m4, m5, m6, m7, m8, m9, m10, m11, m12, m13, m14, m15, m16, m17, m18, m19, m20, m21, m22, m23, m24, m25, m26, m27, m28, m29, m30, m31] := by
  match l, h with
  | [m0, m1, m2, m3, m4, m5, m6, m7, m8, m9, m10, m11, m12, m13, m14, m15, m16, m17, m18, m19, m20, m21, m22, m23, m24, m25, m26, m27, m28, m29, m30, m31], _ => exact ⟨m0, m1, m2, m3, m4, m5, m6, m7, m8, m9, m10, m11, m12, m13, m14, m15, m16, m17, m18, m19, m20, m21, m22, m23, m24, m25, m26, m27, m28, m29, m30, m31, rfl⟩
set_option maxRecDepth 100000 in
theorem cells32v : Try.prog.cellsOf 25 = 32 := by kernel_rfl
set_option maxRecDepth 100000 in
theorem cells1v : Try.prog.cellsOf 5 = 1 := by kernel_rfl
theorem wf_v (x : UInt8) : (Lit.int .u8 (x.toNat : Int)).wf = true := by
  have := x.toNat_lt
  simp [Lit.wf, IntKind.min, IntKind.max, IntKind.signed, IntKind.bits]
  omega
theorem arr_formed (l : List UInt8) (h : l.length = 32) : (arr l).formed Try.prog 25 = true := by
  simp [arr, Value.formed, Try.underlying25, cells32v, length_bv, h]
set_option maxRecDepth 100000 in
set_option maxHeartbeats 4000000 in
theorem arr_lits (l : List UInt8) (h : l.length = 32) : Try.prog.keyLits 2 25 (arr l).cells.toList = some (l.map fun x => Lit.int .u8 (x.toNat : Int)) := by
  obtain ⟨m0, m1, m2, m3, m4, m5, m6, m7, m8, m9, m10, m11, m12, m13, m14, m15, m16, m17, m18, m19, m20, m21, m22, m23, m24, m25, m26, m27, m28, m29, m30, m31, rfl⟩ := lst32 h
  have r32 : List.range 32 = [0, 1, 2, 3, 4, 5, 6, 7, 8, 9, 10, 11, 12, 13, 14, 15, 16, 17, 18, 19, 20, 21, 22, 23, 24, 25, 26, 27, 28, 29, 30, 31] := rfl
  simp [arr, Program.keyLits, bv, Try.underlying25, Try.underlying5, Value.cells, cells32v, cells1v, r32, wf_v m0, wf_v m1, wf_v m2, wf_v m3, wf_v m4, wf_v m5, wf_v m6, wf_v m7, wf_v m8, wf_v m9, wf_v m10, wf_v m11, wf_v m12, wf_v m13, wf_v m14, wf_v m15, wf_v m16, wf_v m17, wf_v m18, wf_v m19, wf_v m20, wf_v m21, wf_v m22, wf_v m23, wf_v m24, wf_v m25, wf_v m26, wf_v m27, wf_v m28, wf_v m29, wf_v m30, wf_v m31]
set_option maxRecDepth 100000 in
/-- '==' on two arrays -/
theorem arr_eq (a b : List UInt8) (ha : a.length = 32) (hb : b.length = 32) (w : World) : (Op.equalIn 10000 25 (arr a) (arr b)).run Try.prog w = .ok (decide (a = b)) w :=
  equalIn_keys (P := Try.prog) (t := 25) (m := 2) (by kernel_rfl) 10000 (by omega) (arr_formed a ha) (arr_formed b hb) (arr_lits a ha) (arr_lits b hb) _ (by
    rw [decide_eq_true_iff, List.map_inj_right fun x y h => by
      injection h with _ h
      exact UInt8.toNat_inj.1 (by omega)]) w
set_option maxRecDepth 100000 in
theorem arr_built : Try.prog.built 25 [] = some (bv z32).toArray := by kernel_rfl
theorem op_built {P : Program} {o : Oper} {a : Act} {w : World} {K : Act → World → Prop} {Q : Exit → Act → World → Prop} (t : TypeId) (parts : Array (Nat × Operand)) (ho : o.op = .build t parts)
    (vals : List (Nat × Value)) (hv : (parts.map fun (i, x) => (i, a.eval x)).toList = vals) {cells : Array Value} (hc : P.built t vals = some cells) (h : K (a.put o.dst (.agg cells)) w) : o.wp P a w K Q := by
  subst hv
  refine wp_build t parts ho (by rw [hc]; rfl) ?_
  rw [hc]
  exact h
theorem wl_builtA {P : Program} {ops : Array Oper} {rest : List Oper} {o : Oper} {a : Act} {w : World} {Q : Exit → Act → World → Prop} (hw : Region.wanted o (yielded ops a.tmps) = true) (t : TypeId) (parts : Array (Nat × Operand)) (ho : o.op = .build t parts)
    (vals : List (Nat × Value)) (hv : (parts.map fun (i, x) => (i, a.eval x)).toList = vals) {cells : Array Value} (hc : P.built t vals = some cells) (h : wpList P ops Q rest (a.put o.dst (.agg cells)) w) : wpList P ops Q (o :: rest) a w :=
  wl_step hw fun _ hK => op_built t parts ho vals hv hc (hK _ _ h)
set_option maxRecDepth 100000 in
/-- a composite literal, its parts a list -/
theorem wl_builtL {P : Program} {ops : Array Oper} {rest : List Oper} {o : Oper} {a : Act} {w : World} {Q : Exit → Act → World → Prop} (hw : Region.wanted o (yielded ops a.tmps) = true) (t : TypeId) (parts : List (Nat × Operand)) (ho : o.op = .build t parts.toArray)
    (vals : List (Nat × Value)) (hv : (parts.map fun (i, x) => (i, a.eval x)) = vals) {cells : Array Value} (hc : P.built t vals = some cells) (h : wpList P ops Q rest (a.put o.dst (.agg cells)) w) : wpList P ops Q (o :: rest) a w :=
  wl_builtA hw t parts.toArray ho vals (by simpa using hv) hc h
theorem wl_zeroA {ops : Array Oper} {rest : List Oper} {o : Oper} {a : Act} {w : World} {Q : Exit → Act → World → Prop} (hw : Region.wanted o (yielded ops a.tmps) = true) (ho : o.op = .build 25 #[])
    (h : wpList Try.prog ops Q rest (a.put o.dst (arr z32)) w) : wpList Try.prog ops Q (o :: rest) a w :=
  wl_builtA hw _ _ ho [] (by simp) arr_built h
set_option maxRecDepth 100000 in
theorem guardT : Try.prog.eqGuardType Try.prog.depth 25 = false := by kernel_rfl
theorem op_eqA {o : Oper} {a : Act} {w : World} {K : Act → World → Prop} {Q : Exit → Act → World → Prop} (x y : Operand) {u : TypeId} (ho : o.op = .binOp .eql 25 x y u) {l r : List UInt8} (hl : l.length = 32) (hr : r.length = 32) (hx : a.eval x = arr l) (hy : a.eval y = arr r)
    (h : K (a.put o.dst (.bool (decide (l = r)))) w) : o.wp Try.prog a w K Q := by
  have h1 : (eqGuard .eql 25 x y (arr l) (arr r)).run Try.prog w = .ok () w := run_eqGuard_agg (xs := (bv l).toArray) (ys := (bv r).toArray) (hm := guardT) ..
  have h2 : (binOp .eql 25 (arr l) (arr r)).run Try.prog w = .ok (.bool (decide (l = r))) w := by
    rw [show arr l = .agg (bv l).toArray from rfl, show arr r = .agg (bv r).toArray from rfl, run_eql_struct]
    have := arr_eq l r hl hr w
    rw [show arr l = .agg (bv l).toArray from rfl, show arr r = .agg (bv r).toArray from rfl] at this
    rw [this]; rfl
  unfold Oper.wp execOp
  simp only [ho, hx, hy, Sem.run_bind, h1, h2, Result.andThen_ok, Sem.run_pure]
  exact h
theorem op_neA {o : Oper} {a : Act} {w : World} {K : Act → World → Prop} {Q : Exit → Act → World → Prop} (x y : Operand) {u : TypeId} (ho : o.op = .binOp .neq 25 x y u) {l r : List UInt8} (hl : l.length = 32) (hr : r.length = 32) (hx : a.eval x = arr l) (hy : a.eval y = arr r)
    (h : K (a.put o.dst (.bool (!decide (l = r)))) w) : o.wp Try.prog a w K Q := by
  have h1 : (eqGuard .neq 25 x y (arr l) (arr r)).run Try.prog w = .ok () w := run_eqGuard_agg (xs := (bv l).toArray) (ys := (bv r).toArray) (hm := guardT) ..
  have h2 : (binOp .neq 25 (arr l) (arr r)).run Try.prog w = .ok (.bool (!decide (l = r))) w := by
    rw [show arr l = .agg (bv l).toArray from rfl, show arr r = .agg (bv r).toArray from rfl, run_neq_struct]
    have := arr_eq l r hl hr w
    rw [show arr l = .agg (bv l).toArray from rfl, show arr r = .agg (bv r).toArray from rfl] at this
    rw [this]; rfl
  unfold Oper.wp execOp
  simp only [ho, hx, hy, Sem.run_bind, h1, h2, Result.andThen_ok, Sem.run_pure]
  exact h
theorem wl_eqA {ops : Array Oper} {rest : List Oper} {o : Oper} {a : Act} {w : World} {Q : Exit → Act → World → Prop} (x y : Operand) {u : TypeId} {l r : List UInt8} (hl : l.length = 32) (hr : r.length = 32) (hw : Region.wanted o (yielded ops a.tmps) = true) (ho : o.op = .binOp .eql 25 x y u) (hx : a.eval x = arr l) (hy : a.eval y = arr r)
    (h : wpList Try.prog ops Q rest (a.put o.dst (.bool (decide (l = r)))) w) : wpList Try.prog ops Q (o :: rest) a w :=
  wl_step hw fun _ hK => op_eqA x y ho hl hr hx hy (hK _ _ h)
theorem wl_neA {ops : Array Oper} {rest : List Oper} {o : Oper} {a : Act} {w : World} {Q : Exit → Act → World → Prop} (x y : Operand) {u : TypeId} {l r : List UInt8} (hl : l.length = 32) (hr : r.length = 32) (hw : Region.wanted o (yielded ops a.tmps) = true) (ho : o.op = .binOp .neq 25 x y u) (hx : a.eval x = arr l) (hy : a.eval y = arr r)
    (h : wpList Try.prog ops Q rest (a.put o.dst (.bool (!decide (l = r)))) w) : wpList Try.prog ops Q (o :: rest) a w :=
  wl_step hw fun _ hK => op_neA x y ho hl hr hx hy (hK _ _ h)
end Go.Proofs.Ytgpjidlomhkpeaa
