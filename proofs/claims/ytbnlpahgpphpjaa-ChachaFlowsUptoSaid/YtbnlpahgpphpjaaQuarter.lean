/-
  Contracts of math/bits.RotateLeft32, chacha.Quarter, shallotref04.left and shallotref04.Quarter: words of 32 bits, turned alike.
-/
import Derived.Test.YtbnlpahgpphpjaaCopy
import Derived.OpenShut
import Derived.Handy
import Derived.Deep.RegionHeld3
import Derived.Deep.RegionLaw
namespace Go.Proofs.Ytbnlpahgpphpjaa
open Go Go.RowKit Go.Sh

/-- x turned to the left by s -/
def rl (x : Int) (s : Nat) : Int := bits .or .u32 (x * 2 ^ s % 4294967296) (x / 2 ^ (32 - s))
def ad (x y : Int) : Int := (x + y) % 4294967296
def xo (x y : Int) : Int := bits .xor .u32 x y
/-- a word of 32 bits -/
def W32 (x : Int) : Prop := 0 ≤ x ∧ x ≤ 4294967295
theorem rl_w (x : Int) (s : Nat) : W32 (rl x s) := bounds_u32 (wf_bits _ _ _ _)
theorem xo_w (x y : Int) : W32 (xo x y) := bounds_u32 (wf_bits _ _ _ _)
theorem ad_w (x y : Int) : W32 (ad x y) := by unfold W32 ad; omega

theorem rot_any (x k k' : Int) (s : Nat) (hx : W32 x) (hk : IntKind.u64.wrap k = k') (hb : bits .and .u64 k' 31 = (s : Int)) (hs : s ≤ 31) (w : World) :
    Calls Try.prog 34 #[.int .u32 x, .int .i64 k] w (fun e w' => e = .returned (.int .u32 (rl x s)) ∧ w = w') := by
  obtain ⟨x1, x2⟩ := hx
  go_enter Try.func34, Try.ntmps34
  go_wp2
  go_ret
  exact ⟨rfl, rfl⟩
theorem left_any (x : Int) (s : Nat) (hx : W32 x) (hs : s ≤ 31) (w : World) :
    Calls Try.prog 35 #[.int .u32 x, .int .i64 (s : Int)] w (fun e w' => e = .returned (.int .u32 (rl x s)) ∧ ∃ m, w' = w.drewN m) := by
  obtain ⟨x1, x2⟩ := hx
  go_enter Try.func35, Try.ntmps35
  go_wp2
  go_quiet (fail)
  go_wp2
  go_ret
  exact ⟨rfl, nq, rfl⟩

/-- a return of four values -/
theorem four_results {fn : Func} {t u v x : Tmp} (h : fn.results = #[.tmp t, .tmp u, .tmp v, .tmp x]) (ts : Array Value) (P : Program) (w : World) :
    (results fn ts).run P w = .ok (.tuple #[ts.getD t undef, ts.getD u undef, ts.getD v undef, ts.getD x undef]) w := by
  simp [results, h]

/-- half a quarter round: three of its four words -/
def h1 (a b c d : Int) (s t : Nat) : Int × Int × Int × Int :=
  let a' := ad a b
  let d' := rl (xo d a') s
  let c' := ad c d'
  (a', rl (xo b c') t, c', d')
def quarter (a b c d : Int) : Int × Int × Int × Int :=
  let q := h1 a b c d 16 12
  h1 q.1 q.2.1 q.2.2.1 q.2.2.2 8 7

set_option maxHeartbeats 400000 in
theorem Quarter_any (a b c d : Int) (ha : W32 a) (hb : W32 b) (hc : W32 c) (hd : W32 d) (w : World) :
    Calls Try.prog 9 #[.int .u32 a, .int .u32 b, .int .u32 c, .int .u32 d] w
      (fun e w' => e = .returned (.tuple #[.int .u32 (quarter a b c d).1, .int .u32 (quarter a b c d).2.1, .int .u32 (quarter a b c d).2.2.1, .int .u32 (quarter a b c d).2.2.2]) ∧ w = w') := by
  obtain ⟨a1, a2⟩ := ha
  obtain ⟨b1, b2⟩ := hb
  obtain ⟨c1, c2⟩ := hc
  obtain ⟨d1, d2⟩ := hd
  go_enter Try.func9, Try.ntmps9
  go_wp2_with fail
  generalize e1 : (a + b) % 4294967296 = A1
  have EA1 := Lib.hid e1
  have pA1 : 0 ≤ A1 ∧ A1 ≤ 4294967295 := by omega
  clear e1
  refine (rot_any (bits .xor .u32 d A1) 16 16 16 (xo_w d A1) (by decide) (by decide) (by omega) _).mono ?_
  rintro e w' ⟨rfl, rfl⟩
  generalize e2 : rl (bits .xor .u32 d A1) 16 = D1
  have ED1 := Lib.hid e2
  have pD1 : W32 D1 := by rw [← e2]; exact rl_w _ _
  unfold W32 at pD1
  clear e2
  go_wp2_with fail
  generalize e1 : (c + D1) % 4294967296 = C1
  have EC1 := Lib.hid e1
  have pC1 : 0 ≤ C1 ∧ C1 ≤ 4294967295 := by omega
  clear e1
  refine (rot_any (bits .xor .u32 b C1) 12 12 12 (xo_w b C1) (by decide) (by decide) (by omega) _).mono ?_
  rintro e w' ⟨rfl, rfl⟩
  generalize e2 : rl (bits .xor .u32 b C1) 12 = B1
  have EB1 := Lib.hid e2
  have pB1 : W32 B1 := by rw [← e2]; exact rl_w _ _
  unfold W32 at pB1
  clear e2
  go_wp2_with fail
  generalize e1 : (A1 + B1) % 4294967296 = A2
  have EA2 := Lib.hid e1
  have pA2 : 0 ≤ A2 ∧ A2 ≤ 4294967295 := by omega
  clear e1
  refine (rot_any (bits .xor .u32 D1 A2) 8 8 8 (xo_w D1 A2) (by decide) (by decide) (by omega) _).mono ?_
  rintro e w' ⟨rfl, rfl⟩
  generalize e2 : rl (bits .xor .u32 D1 A2) 8 = D2
  have ED2 := Lib.hid e2
  have pD2 : W32 D2 := by rw [← e2]; exact rl_w _ _
  unfold W32 at pD2
  clear e2
  go_wp2_with fail
  generalize e1 : (C1 + D2) % 4294967296 = C2
  have EC2 := Lib.hid e1
  have pC2 : 0 ≤ C2 ∧ C2 ≤ 4294967295 := by omega
  clear e1
  refine (rot_any (bits .xor .u32 B1 C2) 7 7 7 (xo_w B1 C2) (by decide) (by decide) (by omega) _).mono ?_
  rintro e w' ⟨rfl, rfl⟩
  generalize e2 : rl (bits .xor .u32 B1 C2) 7 = B2
  have EB2 := Lib.hid e2
  have pB2 : W32 B2 := by rw [← e2]; exact rl_w _ _
  unfold W32 at pB2
  clear e2
  go_wp2
  (try simp only [Exit.inBlock, Exit.then])
  refine bodyPost_ret (four_results rfl _ _ _) rfl ?_
  have hq : quarter a b c d = (A2, B2, C2, D2) := by
    simp only [quarter, h1, ad, xo]
    rw [EA1.out, ED1.out, EC1.out, EB1.out, EA2.out, ED2.out, EC2.out, EB2.out]
  rw [hq]
  exact ⟨rfl, rfl⟩

/-- one of the four steps -/
def turnBy (k : Nat) : Nat := [16, 12, 8, 7].getD k 0
def qstep (k : Nat) (q : Int × Int × Int × Int) : Int × Int × Int × Int :=
  if k % 2 = 0 then (ad q.1 q.2.1, q.2.1, q.2.2.1, rl (xo q.2.2.2 (ad q.1 q.2.1)) (turnBy k)) else (q.1, rl (xo q.2.1 (ad q.2.2.1 q.2.2.2)) (turnBy k), ad q.2.2.1 q.2.2.2, q.2.2.2)
def qto (q : Int × Int × Int × Int) : Nat → Int × Int × Int × Int
  | 0 => q
  | k + 1 => qstep k (qto q k)
theorem qto_four (a b c d : Int) : qto (a, b, c, d) 4 = quarter a b c d := rfl

theorem row_set {w : World} {p i : Nat} {cs : Array Value} {t : TypeId} {fr : Nat × Nat} (h : w.heap[p]? = some (.cells cs t fr)) (v : Value) : (w.setCell ⟨p, i, none⟩ v).heap[p]? = some (.cells (cs.setIfInBounds i v) t fr) := by
  simp [World.setCell, Array.getElem?_modify, h]

set_option maxHeartbeats 1000000 in
theorem RefQuarter_any (a b c d : Int) (ha : W32 a) (hb : W32 b) (hc : W32 c) (hd : W32 d) (w : World) :
    Calls Try.prog 10 #[.agg #[.int .u32 a, .int .u32 b, .int .u32 c, .int .u32 d]] w
      (fun e w' => e = .returned (.agg #[.int .u32 (quarter a b c d).1, .int .u32 (quarter a b c d).2.1, .int .u32 (quarter a b c d).2.2.1, .int .u32 (quarter a b c d).2.2.2]) ∧ Below w.heap.size w w') := by
  obtain ⟨a1, a2⟩ := ha
  obtain ⟨b1, b2⟩ := hb
  obtain ⟨c1, c2⟩ := hc
  obtain ⟨d1, d2⟩ := hd
  go_enter Try.func10, Try.ntmps10
  go_wp2_with fail
  go_loopw [4] (fun i wr => ∃ (k : Nat) (x y z u : Int), k ≤ 4 ∧ i = .int .i64 k ∧ qto (a, b, c, d) k = (x, y, z, u) ∧ (W32 x ∧ W32 y ∧ W32 z ∧ W32 u) ∧ wr.heap[w.heap.size]? = some (.cells #[.int .u32 x, .int .u32 y, .int .u32 z, .int .u32 u] 23 (0, 0)) ∧ wr.heap[w.heap.size + 1 + 1]? = some (.cells #[.int .i64 16, .int .i64 12, .int .i64 8, .int .i64 7] 72 (0, 0)) ∧ wr.heap[w.heap.size + 1]? = some (.cells #[.int .u32 0, .int .u32 0, .int .u32 0, .int .u32 0] 23 (0, 0)) ∧ Below w.heap.size w wr) (fun i _ => 4 - (intOf i).toNat)
  case atStart =>
    refine ⟨0, a, b, c, d, by omega, rfl, rfl, ⟨⟨a1, a2⟩, ⟨b1, b2⟩, ⟨c1, c2⟩, ⟨d1, d2⟩⟩, ?_, ?_, ?_, (((Below.refl _ _).alloc (Nat.le_refl _) _).alloc (by simp) _).alloc (by simp; omega) _⟩
    · rw [heap_alloc_old _ _ (by simp; omega), heap_alloc_old _ _ (by simp)]
      exact heap_alloc_new w _
    · have := heap_alloc_new ((w.alloc (Obj.cells #[Value.int IntKind.u32 a, Value.int IntKind.u32 b, Value.int IntKind.u32 c, Value.int IntKind.u32 d] 23)).alloc (Obj.cells #[Value.int IntKind.u32 0, Value.int IntKind.u32 0, Value.int IntKind.u32 0, Value.int IntKind.u32 0] 23)) (Obj.cells #[Value.int IntKind.i64 16, Value.int IntKind.i64 12, Value.int IntKind.i64 8, Value.int IntKind.i64 7] 72)
      simpa using this
    · rw [heap_alloc_old _ _ (by simp)]
      have := heap_alloc_new (w.alloc (Obj.cells #[Value.int IntKind.u32 a, Value.int IntKind.u32 b, Value.int IntKind.u32 c, Value.int IntKind.u32 d] 23)) (Obj.cells #[Value.int IntKind.u32 0, Value.int IntKind.u32 0, Value.int IntKind.u32 0, Value.int IntKind.u32 0] 23)
      simpa using this
  case round =>
    obtain ⟨k, x, y, z, u, hk, rfl, hq, ⟨⟨x1, x2⟩, ⟨y1, y2⟩, ⟨z1, z2⟩, ⟨u1, u2⟩⟩, hv, ht, hr0, hb⟩ := hrel
    have HQ := Lib.hid hq
    have HV := Lib.hid hv
    have HT := Lib.hid ht
    have HB := Lib.hid hb
    have HR := Lib.hid hr0
    have v0 : wr.cell? ⟨w.heap.size, 0, none⟩ = some (.int .u32 x) := by rw [cell_of_row _ _ 0 _ _ _ hv]; rfl
    have v1 : wr.cell? ⟨w.heap.size, 1, none⟩ = some (.int .u32 y) := by rw [cell_of_row _ _ 1 _ _ _ hv]; rfl
    have v2 : wr.cell? ⟨w.heap.size, 2, none⟩ = some (.int .u32 z) := by rw [cell_of_row _ _ 2 _ _ _ hv]; rfl
    have v3 : wr.cell? ⟨w.heap.size, 3, none⟩ = some (.int .u32 u) := by rw [cell_of_row _ _ 3 _ _ _ hv]; rfl
    have t0 : wr.cell? ⟨w.heap.size + 1 + 1, 0, none⟩ = some (.int .i64 16) := by rw [cell_of_row _ _ 0 _ _ _ ht]; rfl
    have t1 : wr.cell? ⟨w.heap.size + 1 + 1, 1, none⟩ = some (.int .i64 12) := by rw [cell_of_row _ _ 1 _ _ _ ht]; rfl
    have t2 : wr.cell? ⟨w.heap.size + 1 + 1, 2, none⟩ = some (.int .i64 8) := by rw [cell_of_row _ _ 2 _ _ _ ht]; rfl
    have t3 : wr.cell? ⟨w.heap.size + 1 + 1, 3, none⟩ = some (.int .i64 7) := by rw [cell_of_row _ _ 3 _ _ _ ht]; rfl
    have fz : ∀ i, wr.frozen? ⟨w.heap.size, i, none⟩ = false := fun i => frozen_of_row _ _ i _ _ hv
    have f0 := fz 0
    have f1 := fz 1
    have f2 := fz 2
    have f3 := fz 3
    clear hq hv ht hb fz hr0
    have hcase : k = 0 ∨ k = 1 ∨ k = 2 ∨ k = 3 ∨ k = 4 := by omega
    rcases hcase with rfl | rfl | rfl | rfl | rfl
    · go_wp2_with fail
      have hv1 : (wr.setCell ⟨w.heap.size, 0, none⟩ (.int .u32 ((x + y) % 4294967296))).heap[w.heap.size]? = some (.cells #[.int .u32 ((x + y) % 4294967296), .int .u32 y, .int .u32 z, .int .u32 u] 23 (0, 0)) := row_set HV.out _
      have ht1 : (wr.setCell ⟨w.heap.size, 0, none⟩ (.int .u32 ((x + y) % 4294967296))).heap[w.heap.size + 1 + 1]? = some (.cells #[.int .i64 16, .int .i64 12, .int .i64 8, .int .i64 7] 72 (0, 0)) := by
        rw [Below.heap_setCell _ _ _ _ (by simp only; omega)]; exact HT.out
      have hr1 : (wr.setCell ⟨w.heap.size, 0, none⟩ (.int .u32 ((x + y) % 4294967296))).heap[w.heap.size + 1]? = some (.cells #[.int .u32 0, .int .u32 0, .int .u32 0, .int .u32 0] 23 (0, 0)) := by
        rw [Below.heap_setCell _ _ _ _ (by simp only; omega)]; exact HR.out
      have hb1 : Below w.heap.size w (wr.setCell ⟨w.heap.size, 0, none⟩ (.int .u32 ((x + y) % 4294967296))) := HB.out.setCell (Nat.le_refl _) _
      clear v0 v1 v2 v3 t0 t1 t2 t3 f0 f1 f2 f3 HV HT HB HR
      generalize wr.setCell ⟨w.heap.size, 0, none⟩ (.int .u32 ((x + y) % 4294967296)) = w1 at *
      generalize hA : (x + y) % 4294967296 = A1 at *
      have va : w1.cell? ⟨w.heap.size, 0, none⟩ = some (.int .u32 A1) := by rw [cell_of_row _ _ 0 _ _ _ hv1]; rfl
      have vb : w1.cell? ⟨w.heap.size, 3, none⟩ = some (.int .u32 u) := by rw [cell_of_row _ _ 3 _ _ _ hv1]; rfl
      have tk : w1.cell? ⟨w.heap.size + 1 + 1, 0, none⟩ = some (.int .i64 16) := by rw [cell_of_row _ _ 0 _ _ _ ht1]; rfl
      have fb : w1.frozen? ⟨w.heap.size, 3, none⟩ = false := frozen_of_row _ _ 3 _ _ hv1
      have HV := Lib.hid hv1
      have HT := Lib.hid ht1
      have HB := Lib.hid hb1
      have HR := Lib.hid hr1
      have HA := Lib.hid hA
      clear hv1 ht1 hb1 hA hr1
      go_region_law (first | (go_simp; go_at_call 35; refine (left_any (bits .xor .u32 u A1) 16 (xo_w u A1) (by omega) _).mono ?_; rintro e w2 ⟨rfl, nd, rfl⟩))
      all_goals
        go_wp2
        refine ⟨⟨0 + 1, A1, y, z, rl (bits .xor .u32 u A1) 16, by omega, by go_num, ?_, ⟨by rw [← HA.out]; exact ad_w x y, ⟨y1, y2⟩, ⟨z1, z2⟩, rl_w _ _⟩, row_set (w := w1.drewN _) HV.out _, ?_, ?_, ?_⟩, by simp [intOf]⟩
        · rw [qto, HQ.out]
          simp only [qstep, turnBy, ad, xo]
          rw [HA.out]
          rfl
        · rw [Below.heap_setCell _ _ _ _ (by simp only; omega)]
          exact HT.out
        · rw [Below.heap_setCell _ _ _ _ (by simp only; omega)]
          exact HR.out
        · exact (below_drewN HB.out _).setCell (Nat.le_refl _) _
    · go_wp2_with fail
      have hv1 : (wr.setCell ⟨w.heap.size, 2, none⟩ (.int .u32 ((z + u) % 4294967296))).heap[w.heap.size]? = some (.cells #[.int .u32 x, .int .u32 y, .int .u32 ((z + u) % 4294967296), .int .u32 u] 23 (0, 0)) := row_set HV.out _
      have ht1 : (wr.setCell ⟨w.heap.size, 2, none⟩ (.int .u32 ((z + u) % 4294967296))).heap[w.heap.size + 1 + 1]? = some (.cells #[.int .i64 16, .int .i64 12, .int .i64 8, .int .i64 7] 72 (0, 0)) := by
        rw [Below.heap_setCell _ _ _ _ (by simp only; omega)]; exact HT.out
      have hr1 : (wr.setCell ⟨w.heap.size, 2, none⟩ (.int .u32 ((z + u) % 4294967296))).heap[w.heap.size + 1]? = some (.cells #[.int .u32 0, .int .u32 0, .int .u32 0, .int .u32 0] 23 (0, 0)) := by
        rw [Below.heap_setCell _ _ _ _ (by simp only; omega)]; exact HR.out
      have hb1 : Below w.heap.size w (wr.setCell ⟨w.heap.size, 2, none⟩ (.int .u32 ((z + u) % 4294967296))) := HB.out.setCell (Nat.le_refl _) _
      clear v0 v1 v2 v3 t0 t1 t2 t3 f0 f1 f2 f3 HV HT HB HR
      generalize wr.setCell ⟨w.heap.size, 2, none⟩ (.int .u32 ((z + u) % 4294967296)) = w1 at *
      generalize hA : (z + u) % 4294967296 = A1 at *
      have va : w1.cell? ⟨w.heap.size, 2, none⟩ = some (.int .u32 A1) := by rw [cell_of_row _ _ 2 _ _ _ hv1]; rfl
      have vb : w1.cell? ⟨w.heap.size, 1, none⟩ = some (.int .u32 y) := by rw [cell_of_row _ _ 1 _ _ _ hv1]; rfl
      have tk : w1.cell? ⟨w.heap.size + 1 + 1, 1, none⟩ = some (.int .i64 12) := by rw [cell_of_row _ _ 1 _ _ _ ht1]; rfl
      have fb : w1.frozen? ⟨w.heap.size, 1, none⟩ = false := frozen_of_row _ _ 1 _ _ hv1
      have HV := Lib.hid hv1
      have HT := Lib.hid ht1
      have HB := Lib.hid hb1
      have HR := Lib.hid hr1
      have HA := Lib.hid hA
      clear hv1 ht1 hb1 hA hr1
      go_region_law (first | (go_simp; go_at_call 35; refine (left_any (bits .xor .u32 y A1) 12 (xo_w y A1) (by omega) _).mono ?_; rintro e w2 ⟨rfl, nd, rfl⟩))
      all_goals
        go_wp2
        refine ⟨⟨1 + 1, x, rl (bits .xor .u32 y A1) 12, A1, u, by omega, by go_num, ?_, ⟨⟨x1, x2⟩, rl_w _ _, by rw [← HA.out]; exact ad_w z u, ⟨u1, u2⟩⟩, row_set (w := w1.drewN _) HV.out _, ?_, ?_, ?_⟩, by simp [intOf]⟩
        · rw [qto, HQ.out]
          simp only [qstep, turnBy, ad, xo]
          rw [HA.out]
          rfl
        · rw [Below.heap_setCell _ _ _ _ (by simp only; omega)]
          exact HT.out
        · rw [Below.heap_setCell _ _ _ _ (by simp only; omega)]
          exact HR.out
        · exact (below_drewN HB.out _).setCell (Nat.le_refl _) _
    · go_wp2_with fail
      have hv1 : (wr.setCell ⟨w.heap.size, 0, none⟩ (.int .u32 ((x + y) % 4294967296))).heap[w.heap.size]? = some (.cells #[.int .u32 ((x + y) % 4294967296), .int .u32 y, .int .u32 z, .int .u32 u] 23 (0, 0)) := row_set HV.out _
      have ht1 : (wr.setCell ⟨w.heap.size, 0, none⟩ (.int .u32 ((x + y) % 4294967296))).heap[w.heap.size + 1 + 1]? = some (.cells #[.int .i64 16, .int .i64 12, .int .i64 8, .int .i64 7] 72 (0, 0)) := by
        rw [Below.heap_setCell _ _ _ _ (by simp only; omega)]; exact HT.out
      have hr1 : (wr.setCell ⟨w.heap.size, 0, none⟩ (.int .u32 ((x + y) % 4294967296))).heap[w.heap.size + 1]? = some (.cells #[.int .u32 0, .int .u32 0, .int .u32 0, .int .u32 0] 23 (0, 0)) := by
        rw [Below.heap_setCell _ _ _ _ (by simp only; omega)]; exact HR.out
      have hb1 : Below w.heap.size w (wr.setCell ⟨w.heap.size, 0, none⟩ (.int .u32 ((x + y) % 4294967296))) := HB.out.setCell (Nat.le_refl _) _
      clear v0 v1 v2 v3 t0 t1 t2 t3 f0 f1 f2 f3 HV HT HB HR
      generalize wr.setCell ⟨w.heap.size, 0, none⟩ (.int .u32 ((x + y) % 4294967296)) = w1 at *
      generalize hA : (x + y) % 4294967296 = A1 at *
      have va : w1.cell? ⟨w.heap.size, 0, none⟩ = some (.int .u32 A1) := by rw [cell_of_row _ _ 0 _ _ _ hv1]; rfl
      have vb : w1.cell? ⟨w.heap.size, 3, none⟩ = some (.int .u32 u) := by rw [cell_of_row _ _ 3 _ _ _ hv1]; rfl
      have tk : w1.cell? ⟨w.heap.size + 1 + 1, 2, none⟩ = some (.int .i64 8) := by rw [cell_of_row _ _ 2 _ _ _ ht1]; rfl
      have fb : w1.frozen? ⟨w.heap.size, 3, none⟩ = false := frozen_of_row _ _ 3 _ _ hv1
      have HV := Lib.hid hv1
      have HT := Lib.hid ht1
      have HB := Lib.hid hb1
      have HR := Lib.hid hr1
      have HA := Lib.hid hA
      clear hv1 ht1 hb1 hA hr1
      go_region_law (first | (go_simp; go_at_call 35; refine (left_any (bits .xor .u32 u A1) 8 (xo_w u A1) (by omega) _).mono ?_; rintro e w2 ⟨rfl, nd, rfl⟩))
      all_goals
        go_wp2
        refine ⟨⟨2 + 1, A1, y, z, rl (bits .xor .u32 u A1) 8, by omega, by go_num, ?_, ⟨by rw [← HA.out]; exact ad_w x y, ⟨y1, y2⟩, ⟨z1, z2⟩, rl_w _ _⟩, row_set (w := w1.drewN _) HV.out _, ?_, ?_, ?_⟩, by simp [intOf]⟩
        · rw [qto, HQ.out]
          simp only [qstep, turnBy, ad, xo]
          rw [HA.out]
          rfl
        · rw [Below.heap_setCell _ _ _ _ (by simp only; omega)]
          exact HT.out
        · rw [Below.heap_setCell _ _ _ _ (by simp only; omega)]
          exact HR.out
        · exact (below_drewN HB.out _).setCell (Nat.le_refl _) _
    · go_wp2_with fail
      have hv1 : (wr.setCell ⟨w.heap.size, 2, none⟩ (.int .u32 ((z + u) % 4294967296))).heap[w.heap.size]? = some (.cells #[.int .u32 x, .int .u32 y, .int .u32 ((z + u) % 4294967296), .int .u32 u] 23 (0, 0)) := row_set HV.out _
      have ht1 : (wr.setCell ⟨w.heap.size, 2, none⟩ (.int .u32 ((z + u) % 4294967296))).heap[w.heap.size + 1 + 1]? = some (.cells #[.int .i64 16, .int .i64 12, .int .i64 8, .int .i64 7] 72 (0, 0)) := by
        rw [Below.heap_setCell _ _ _ _ (by simp only; omega)]; exact HT.out
      have hr1 : (wr.setCell ⟨w.heap.size, 2, none⟩ (.int .u32 ((z + u) % 4294967296))).heap[w.heap.size + 1]? = some (.cells #[.int .u32 0, .int .u32 0, .int .u32 0, .int .u32 0] 23 (0, 0)) := by
        rw [Below.heap_setCell _ _ _ _ (by simp only; omega)]; exact HR.out
      have hb1 : Below w.heap.size w (wr.setCell ⟨w.heap.size, 2, none⟩ (.int .u32 ((z + u) % 4294967296))) := HB.out.setCell (Nat.le_refl _) _
      clear v0 v1 v2 v3 t0 t1 t2 t3 f0 f1 f2 f3 HV HT HB HR
      generalize wr.setCell ⟨w.heap.size, 2, none⟩ (.int .u32 ((z + u) % 4294967296)) = w1 at *
      generalize hA : (z + u) % 4294967296 = A1 at *
      have va : w1.cell? ⟨w.heap.size, 2, none⟩ = some (.int .u32 A1) := by rw [cell_of_row _ _ 2 _ _ _ hv1]; rfl
      have vb : w1.cell? ⟨w.heap.size, 1, none⟩ = some (.int .u32 y) := by rw [cell_of_row _ _ 1 _ _ _ hv1]; rfl
      have tk : w1.cell? ⟨w.heap.size + 1 + 1, 3, none⟩ = some (.int .i64 7) := by rw [cell_of_row _ _ 3 _ _ _ ht1]; rfl
      have fb : w1.frozen? ⟨w.heap.size, 1, none⟩ = false := frozen_of_row _ _ 1 _ _ hv1
      have HV := Lib.hid hv1
      have HT := Lib.hid ht1
      have HB := Lib.hid hb1
      have HR := Lib.hid hr1
      have HA := Lib.hid hA
      clear hv1 ht1 hb1 hA hr1
      go_region_law (first | (go_simp; go_at_call 35; refine (left_any (bits .xor .u32 y A1) 7 (xo_w y A1) (by omega) _).mono ?_; rintro e w2 ⟨rfl, nd, rfl⟩))
      all_goals
        go_wp2
        refine ⟨⟨3 + 1, x, rl (bits .xor .u32 y A1) 7, A1, u, by omega, by go_num, ?_, ⟨⟨x1, x2⟩, rl_w _ _, by rw [← HA.out]; exact ad_w z u, ⟨u1, u2⟩⟩, row_set (w := w1.drewN _) HV.out _, ?_, ?_, ?_⟩, by simp [intOf]⟩
        · rw [qto, HQ.out]
          simp only [qstep, turnBy, ad, xo]
          rw [HA.out]
          rfl
        · rw [Below.heap_setCell _ _ _ _ (by simp only; omega)]
          exact HT.out
        · rw [Below.heap_setCell _ _ _ _ (by simp only; omega)]
          exact HR.out
        · exact (below_drewN HB.out _).setCell (Nat.le_refl _) _
    · have hq4 : quarter a b c d = (x, y, z, u) := HQ.out
      have HQ4 := Lib.hid hq4
      have hr := HR.out
      have r0 : wr.cell? ⟨w.heap.size + 1, 0, none⟩ = some (.int .u32 0) := by rw [cell_of_row _ _ 0 _ _ _ hr]; rfl
      have r1 : wr.cell? ⟨w.heap.size + 1, 1, none⟩ = some (.int .u32 0) := by rw [cell_of_row _ _ 1 _ _ _ hr]; rfl
      have r2 : wr.cell? ⟨w.heap.size + 1, 2, none⟩ = some (.int .u32 0) := by rw [cell_of_row _ _ 2 _ _ _ hr]; rfl
      have r3 : wr.cell? ⟨w.heap.size + 1, 3, none⟩ = some (.int .u32 0) := by rw [cell_of_row _ _ 3 _ _ _ hr]; rfl
      have g0 : wr.frozen? ⟨w.heap.size + 1, 0, none⟩ = false := frozen_of_row _ _ 0 _ _ hr
      have g1 : wr.frozen? ⟨w.heap.size + 1, 1, none⟩ = false := frozen_of_row _ _ 1 _ _ hr
      have g2 : wr.frozen? ⟨w.heap.size + 1, 2, none⟩ = false := frozen_of_row _ _ 2 _ _ hr
      have g3 : wr.frozen? ⟨w.heap.size + 1, 3, none⟩ = false := frozen_of_row _ _ 3 _ _ hr
      clear HQ hq4 hr
      go_wp2_with fail
      (try simp only [Exit.inBlock, Exit.then])
      refine bodyPost_ret (v := .agg #[.int .u32 x, .int .u32 y, .int .u32 z, .int .u32 u]) (by simp [results, Try.results10, go_sem, r0, r1, r2, r3]) rfl ?_
      refine ⟨by rw [HQ4.out], ?_⟩
      exact (((HB.out.setCell (by simp) _).setCell (by simp) _).setCell (by simp) _).setCell (by simp) _
end Go.Proofs.Ytbnlpahgpphpjaa
