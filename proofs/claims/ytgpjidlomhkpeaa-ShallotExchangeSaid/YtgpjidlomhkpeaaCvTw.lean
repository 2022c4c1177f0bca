/-
  Words for ShallotExchange: Chain at a wrong length, '!=' on equal elements and arrays as one run. Conditions: the lengths.
-/
import Derived.Test.YtgpjidlomhkpeaaCvSw
namespace Go.Proofs.Ytgpjidlomhkpeaa
open Go Go.RowKit Go.Sh

set_option maxHeartbeats 4000000 in
set_option maxRecDepth 100000 in
/-- curve.Chain, the point of a wrong length -/
theorem ChainBad_any (A D : Option Addr) (n c d m : Nat) (w : World) (hn : n ≠ 32) :
    Calls Try.prog 4 #[.slice A n c, .slice D m d] w fun e w' => e = .returned (.tuple #[arr z32, .int .i64 2]) ∧ Below w.heap.size w w' := by
  have HRD := Lib.hid (show ∀ W, Calls Try.prog 7 #[.slice A n c] W fun e w' => e = .returned (.tuple #[.agg (elc 0), .int .i64 2]) ∧ Below W.heap.size W w' from fun W => ReadBad_any A n c W hn)
  have hba := (Below.refl w.heap.size w).alloc (Nat.le_refl _) (.cells (bv z32).toArray 25)
  have HX1 := Lib.hid (Arr.new w (l := z32) rfl)
  have hs1 : (w.alloc (.cells (bv z32).toArray 25)).heap.size = w.heap.size + 1 := by simp
  have HB1 := Lib.hid hba
  clear hba hn
  generalize hg0 : w.heap.size = g0 at *
  have HG0 := Lib.hid hg0
  clear hg0
  go_enter Try.func4, Try.ntmps4
  go_wp2_with (first | (refine wl_allocA (by rfl) (by rfl) g0 HG0.out ?_))
  generalize w.alloc (.cells (bv z32).toArray 25) = w1 at *
  refine (HRD.out w1).mono ?_
  rintro e w5 ⟨rfl, hb5⟩
  rw [hs1] at hb5
  have hx5 := HX1.out.below hb5 (by omega)
  have hB5 := HB1.out.trans (hb5.mono (by omega))
  have hsz5 := hb5.size
  rw [hs1] at hsz5
  obtain ⟨r, hr⟩ : ∃ r, w5.heap.size = r := ⟨_, rfl⟩
  rw [hr] at hsz5
  have hba := (Below.refl r w5).alloc (by rw [hr]; exact Nat.le_refl _) (.cells (elc 0) 33)
  have hr6 := Blk4.new w5 (X := elc 0) rfl
  rw [hr] at hr6
  have HR6 := Lib.hid hr6
  have hb7 := below_setRow hba (Nat.le_refl r) (elc 0)
  have hx7 := hx5.below hb7 (by omega)
  have HX7 := Lib.hid hx7
  have HRS := Lib.hid (hx7.row (r := z32) rfl)
  have HBS := Lib.hid (below_setRow (hB5.trans (hb7.mono (by omega))) (Nat.le_refl g0) (bv z32).toArray)
  clear hx5 hB5 hb5 hba hr6 hb7 hx7 HX1 HB1 HRD
  go_upto_region 3 with (first | (refine wl_allocE (by rfl) (by rfl) r hr ?_; go_simp) | (refine wl_store4 (.tmp 6) (.tmp 16) HR6.out (by rfl) (by rfl) (by rfl) (Y := elc 0) (by rfl) (elc_size 0) (elc_one 0) ?_; go_simp))
  generalize (w5.alloc (.cells (elc 0) 33)).setRow r (elc 0) = w7 at *
  go_wp2_with (first | (refine wl_zeroA (by rfl) (by rfl) ?_; go_simp) | (refine wl_storeA (.tmp 4) (.tmp 20) HX7.out (by rfl) (by rfl) (by rfl) (by rfl) (show z32.length = 32 from rfl) ?_; go_simp))
  (try simp only [Exit.inBlock, Exit.then])
  refine bodyPost_ret (v := .tuple #[arr z32, .int .i64 2]) (results_arr rfl _ _ g0 _ _ rfl rfl HRS.out) rfl ?_
  exact ⟨rfl, HBS.out⟩
theorem run_opNeA {o : Oper} {a : Act} {w : World} (x y : Operand) {u : TypeId} (ho : o.op = .binOp .neq 25 x y u) {l : List UInt8} (hl : l.length = 32) (hx : a.eval x = arr l) (hy : a.eval y = arr l) :
    (execOp a.eval o).run Try.prog w = .ok (.value (.bool false)) w := by
  have h1 : (eqGuard .neq 25 x y (arr l) (arr l)).run Try.prog w = .ok () w := run_eqGuard_agg (xs := (bv l).toArray) (ys := (bv l).toArray) (hm := guardT) ..
  have h2 : (binOp .neq 25 (arr l) (arr l)).run Try.prog w = .ok (.bool false) w := by
    rw [show arr l = .agg (bv l).toArray from rfl, run_neq_struct]
    have := arr_eq l l hl hl w
    rw [show arr l = .agg (bv l).toArray from rfl, decide_eq_true rfl] at this
    rw [this]; rfl
  unfold execOp
  simp only [ho, hx, hy, Sem.run_bind, h1, h2, Result.andThen_ok, Sem.run_pure]
set_option maxRecDepth 100000 in
theorem cells4v : Try.prog.cellsOf 33 = 4 := by kernel_rfl
set_option maxRecDepth 100000 in
theorem cells1u : Try.prog.cellsOf 31 = 1 := by kernel_rfl
theorem wf_u {x : Nat} (h : x < 18446744073709551616) : (Lit.int .u64 (x : Int)).wf = true := by
  simp [Lit.wf, IntKind.min, IntKind.max, IntKind.signed, IntKind.bits]
  omega
theorem ws4 (v : Nat) : ∃ a b c d, ws 4 v = [a, b, c, d] ∧ a < 18446744073709551616 ∧ b < 18446744073709551616 ∧ c < 18446744073709551616 ∧ d < 18446744073709551616 :=
  ⟨_, _, _, _, rfl, Nat.mod_lt _ (by decide), Nat.mod_lt _ (by decide), Nat.mod_lt _ (by decide), Nat.mod_lt _ (by decide)⟩
theorem elc_formed (v : Nat) : (Value.agg (elc v)).formed Try.prog 33 = true := by
  simp [Value.formed, Try.underlying33, cells4v, elc_size]
set_option maxRecDepth 100000 in
theorem elc_lits (v : Nat) : ∃ l, Try.prog.keyLits 2 33 (Value.agg (elc v)).cells.toList = some l := by
  obtain ⟨a, b, c, d, h, ha, hb, hc, hd⟩ := ws4 v
  have r4 : List.range 4 = [0, 1, 2, 3] := rfl
  simp [elc, h, uv, Program.keyLits, Try.underlying33, Try.underlying31, Value.cells, cells4v, cells1u, r4, wf_u ha, wf_u hb, wf_u hc, wf_u hd]
set_option maxRecDepth 100000 in
theorem elc_eq (v : Nat) (w : World) : (Op.equalIn 10000 33 (.agg (elc v)) (.agg (elc v))).run Try.prog w = .ok true w := by
  obtain ⟨l, hl⟩ := elc_lits v
  exact equalIn_keys (P := Try.prog) (t := 33) (m := 2) (by kernel_rfl) 10000 (by omega) (elc_formed v) (elc_formed v) hl hl _ (by simp) w
set_option maxRecDepth 100000 in
theorem guardE : Try.prog.eqGuardType Try.prog.depth 33 = false := by kernel_rfl
theorem run_opNeE {o : Oper} {a : Act} {w : World} (x y : Operand) {u : TypeId} (ho : o.op = .binOp .neq 33 x y u) {v : Nat} (hx : a.eval x = .agg (elc v)) (hy : a.eval y = .agg (elc v)) :
    (execOp a.eval o).run Try.prog w = .ok (.value (.bool false)) w := by
  have h1 : (eqGuard .neq 33 x y (.agg (elc v)) (.agg (elc v))).run Try.prog w = .ok () w := run_eqGuard_agg (hm := guardE) ..
  have h2 : (binOp .neq 33 (.agg (elc v)) (.agg (elc v))).run Try.prog w = .ok (.bool false) w := by
    rw [run_neq_struct, elc_eq]; rfl
  unfold execOp
  simp only [ho, hx, hy, Sem.run_bind, h1, h2, Result.andThen_ok, Sem.run_pure]
/-- the nine -/
def n9 : List UInt8 := 9 :: List.replicate 31 0
theorem uN_9 : uN n9 = 9 := by decide +kernel
theorem toLe_9 : toLe 32 9 = n9 := by decide +kernel
end Go.Proofs.Ytgpjidlomhkpeaa
