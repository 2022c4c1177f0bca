/-
  The walk of shallotlaw04.ChachaQuarters: for every four words the law returns true and writes nothing that was there. No conditions.
-/
import Derived.Test.YtbnlpahgpphpjaaQuarter
import Derived.Test.YtbnlpahgpphpjaaEqs
import Derived.Laws.IdiomArrays
namespace Go.Proofs.Ytbnlpahgpphpjaa
open Go Go.RowKit Go.Sh Go.ChangeShapes Go.WideShapes Go.ChangeAt

theorem quarter_fixed : quarter 286331153 16909060 2609737539 19088743 = (3928658676, 3407673550, 1166100270, 1484899515) := by decide +kernel

/-- an argument of four words -/
theorem openW4 {H : Type} {enc : TypeId × Value → H} {P : Program} {W : World} {b0 : Nat} {r : Reach} {t e : TypeId} {v : Value} {d : DataW H} {p : List MemPlace} (ht : P.underlying t = some (.array 4 e)) (he : P.underlying e = some (.int .u32)) (hc : P.cellsOf e = 1) (hC : P.cellsOf t = 4)
    (hok : Value.okWide P W r b0 t v) (h : DataW.Trod enc P W 0 (fun _ => true) true t v d p) :
    ∃ x y z u : Int, v = .agg #[.int .u32 x, .int .u32 y, .int .u32 z, .int .u32 u] ∧ W32 x ∧ W32 y ∧ W32 z ∧ W32 u := by
  obtain ⟨cs, rfl, hsz, _⟩ : ∃ cs, v = .agg cs ∧ cs.size = P.cellsOf t ∧ Row.okWide P W r b0 t cs := by
    simpa [Value.okWide, ht] using hok
  rw [hC] at hsz
  obtain ⟨l⟩ := cs
  match l, hsz with
  | [c0, c1, c2, c3], _ =>
    obtain ⟨fuel, hf⟩ := h
    obtain ⟨y0, y1, y2, y3, m, hx, hy0, hy1, hy2, hy3⟩ := trod_array4 ht hc hf
    obtain ⟨x0, e0, rfl, w0⟩ := DataW.trod_int he hy0
    obtain ⟨x1, e1, rfl, w1⟩ := DataW.trod_int he hy1
    obtain ⟨x2, e2, rfl, w2⟩ := DataW.trod_int he hy2
    obtain ⟨x3, e3, rfl, w3⟩ := DataW.trod_int he hy3
    simp at e0 e1 e2 e3
    subst e0 e1 e2 e3
    exact ⟨x0, x1, x2, x3, rfl, bounds_u32 w0, bounds_u32 w1, bounds_u32 w2, bounds_u32 w3⟩

theorem h1_w (a b c d : Int) (s t : Nat) : W32 (h1 a b c d s t).1 ∧ W32 (h1 a b c d s t).2.1 ∧ W32 (h1 a b c d s t).2.2.1 ∧ W32 (h1 a b c d s t).2.2.2 :=
  ⟨ad_w _ _, rl_w _ _, ad_w _ _, rl_w _ _⟩

theorem quarter_w (a b c d : Int) : W32 (quarter a b c d).1 ∧ W32 (quarter a b c d).2.1 ∧ W32 (quarter a b c d).2.2.1 ∧ W32 (quarter a b c d).2.2.2 := h1_w _ _ _ _ _ _
theorem wf_w {x : Int} (h : W32 x) : (Lit.int .u32 x).wf = true := by
  unfold W32 at h
  simp [Lit.wf, IntKind.min, IntKind.max, IntKind.signed, IntKind.bits]
  omega
theorem cells4 : Try.prog.cellsOf 23 = 4 := by kernel_rfl
theorem cells1 : Try.prog.cellsOf 22 = 1 := by kernel_rfl
/-- four words are equal to themselves -/
theorem same4 (a b c d : Int) (ha : W32 a) (hb : W32 b) (hc : W32 c) (hd : W32 d) (w : World) : (Op.equalIn 10000 23 (.agg #[.int .u32 a, .int .u32 b, .int .u32 c, .int .u32 d]) (.agg #[.int .u32 a, .int .u32 b, .int .u32 c, .int .u32 d])).run Try.prog w = .ok true w := by
  have hf : (Value.agg #[.int .u32 a, .int .u32 b, .int .u32 c, .int .u32 d]).formed Try.prog 23 = true := by simp [Value.formed, Try.underlying23, cells4]
  have r4 : List.range 4 = [0, 1, 2, 3] := rfl
  have hk : Try.prog.keyLits 2 23 (Value.agg #[.int .u32 a, .int .u32 b, .int .u32 c, .int .u32 d]).cells.toList = some [.int .u32 a, .int .u32 b, .int .u32 c, .int .u32 d] := by
    simp [Program.keyLits, Try.underlying23, Try.underlying22, Value.cells, cells4, cells1, r4, wf_w ha, wf_w hb, wf_w hc, wf_w hd]
  exact equalIn_keys (P := Try.prog) (t := 23) (m := 2) (by kernel_rfl) 10000 (by omega) hf hf hk hk true (by simp) w

set_option maxHeartbeats 400000 in
theorem ChachaQuarters_walk (x y z u : Int) (w : World) (hx : W32 x) (hy : W32 y) (hz : W32 z) (hu : W32 u) :
    Calls Try.prog 3 #[.agg #[.int .u32 x, .int .u32 y, .int .u32 z, .int .u32 u]] w (LawPost w) := by
  go_enter Try.func3, Try.ntmps3
  go_wp2_with fail
  refine (Quarter_any 286331153 16909060 2609737539 19088743 (by unfold W32; omega) (by unfold W32; omega) (by unfold W32; omega) (by unfold W32; omega) _).mono ?_
  rintro e w' ⟨rfl, rfl⟩
  rw [quarter_fixed]
  go_wp2_with fail
  refine (Quarter_any x y z u hx hy hz hu _).mono ?_
  rintro e w' ⟨rfl, rfl⟩
  obtain ⟨⟨q1, q2, q3, q4⟩, hq⟩ : ∃ q, quarter x y z u = q := ⟨_, rfl⟩
  rw [hq]
  have hw4 := quarter_w x y z u
  rw [hq] at hw4
  have heq := fun W => same4 q1 q2 q3 q4 hw4.1 hw4.2.1 hw4.2.2.1 hw4.2.2.2 W
  have HQ := Lib.hid hq
  clear hq hw4
  go_wp2_with fail
  refine (RefQuarter_any x y z u hx hy hz hu _).mono ?_
  rintro e w1 ⟨rfl, hb⟩
  rw [HQ.out]
  have HB := Lib.hid hb
  clear hb
  go_wp2
  go_ret
  refine ⟨by simp, ?_⟩
  exact ((Below.refl _ _).alloc (Nat.le_refl _) _).trans (HB.out.mono (by simp))
end Go.Proofs.Ytbnlpahgpphpjaa
