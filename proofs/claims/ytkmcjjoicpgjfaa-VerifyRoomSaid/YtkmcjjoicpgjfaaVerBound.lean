/-
  Contracts of verify.bound and whole. Conditions: the op is one of the 17; the sizes that slices can have.
-/
import Derived.Test.YtkmcjjoicpgjfaaVerFits
namespace Go.Proofs.Ytkmcjjoicpgjfaa
open Go Go.RowKit Go.Sh

/-- does what an instruction refers to exist? -/
def boR (v n3 n4 k : Int) (o : Nat) (a b : Int) : Bool :=
  if o = 5 ∨ o = 6 ∨ o = 9 then decide (a < v) else if o = 10 then decide (a < n4) else if o = 11 then decide (a < n3) else if o = 15 then decide (a < k) && decide (b < n3) else true
def boB (p : Prg) (i : Ins) : Bool := boR p.vars p.rts.length p.snds.length p.blocks i.op.toNat i.a i.b
set_option maxRecDepth 100000 in
set_option maxHeartbeats 4000000 in
theorem bound_is (d : Pad) (p : Prg) (o : Nat) (a b : Int) (w : World) (ho : o ≤ 16) (h3 : p.rts.length = d.n3) (h4 : p.snds.length = d.n4) :
    Calls Try.prog 24 #[.agg (pcs d p), .agg #[.int .u8 (o : Int), .int .i64 a, .int .i64 b]] w (fun e w' => e = .returned (.bool (boR p.vars p.rts.length p.snds.length p.blocks o a b)) ∧ Below w.heap.size w w') := by
  rw [h3, h4]
  have hz1 : (w.alloc (.cells (pcs d p) 27)).heap.size = w.heap.size + 1 := by simp
  have hb1 := (Below.refl w.heap.size w).alloc (Nat.le_refl _) (.cells (pcs d p) 27)
  have hb2 := (Below.refl (w.heap.size + 1) (w.alloc (.cells (pcs d p) 27))).alloc (by rw [hz1]; exact Nat.le_refl _) (.cells #[.int .u8 (o : Int), .int .i64 a, .int .i64 b] 39)
  have HB := Lib.hid (hb1.trans (hb2.mono (Nat.le_succ _)))
  clear hb1 hb2 h3 h4 hz1
  obtain ⟨A1, n1, k1, A2, n2, k2, A3, n3, k3, A4, n4, k4⟩ := d
  obtain ⟨_, _, _, _, v, st, k, f⟩ := p
  rw [show pcs _ _ = #[.slice A1 n1 k1, .slice A2 n2 k2, .slice A3 n3 k3, .slice A4 n4 k4, .int .i64 v, .int .i64 st, .int .i64 k, .int .i64 f] from rfl] at HB ⊢
  simp only
  rcases u8_cases ho with rfl | rfl | rfl | rfl | rfl | rfl | rfl | rfl | rfl | rfl | rfl | rfl | rfl | rfl | rfl | rfl | rfl
  case inr.inr.inr.inr.inr.inr.inr.inr.inr.inr.inr.inr.inr.inr.inr.inl =>
    by_cases hak : a < k
    · rw [show boR v n3 n4 k 15 a b = decide (b < (n3 : Int)) by
        show (decide (a < k) && decide (b < (n3 : Int))) = _
        rw [decide_eq_true hak, Bool.true_and]]
      go_enter Try.func24, Try.ntmps24
      go_wp2_with fail
      go_ret
      exact ⟨rfl, HB.out⟩
    · rw [show boR v n3 n4 k 15 a b = false by
        show (decide (a < k) && decide (b < (n3 : Int))) = _
        rw [decide_eq_false hak, Bool.false_and]]
      go_enter Try.func24, Try.ntmps24
      go_wp2_with fail
      go_ret
      exact ⟨rfl, HB.out⟩
  all_goals
    clear ho
    go_enter Try.func24, Try.ntmps24
    go_wp2_with fail
    go_ret
    exact ⟨rfl, HB.out⟩

/-- does what a send refers to exist? -/
def whB (p : Prg) (s : Snd) : Bool := s.rts.all (fun r => decide (r < (p.rts.length : Int))) && decide (s.msg < (p.msgs.length : Int)) && decide (s.blk < p.blocks)
set_option maxRecDepth 100000 in
set_option maxHeartbeats 4000000 in
theorem whole_is (d : Pad) (p : Prg) (mm bb : Int) (rts : List Int) (A : Option Addr) (n c : Nat) (w : World) (B : Nat) (hr : RI w B A n rts) (hB : B ≤ w.heap.size) (hn8 : n ≤ 8) (h2 : p.msgs.length = d.n2) (h3 : p.rts.length = d.n3) :
    Calls Try.prog 25 #[.agg (pcs d p), .agg #[.int .i64 mm, .slice A n c, .int .i64 bb]] w (fun e w' => e = .returned (.bool (whB p ⟨mm, rts, bb⟩)) ∧ Below w.heap.size w w') := by
  have HS := Lib.hid (show whB p ⟨mm, rts, bb⟩ = (rts.all (fun r => decide (r < (p.rts.length : Int))) && decide (mm < (p.msgs.length : Int)) && decide (bb < p.blocks)) from rfl)
  rw [h2, h3] at HS
  have HL := Lib.hid hr.len
  have hz1 : (w.alloc (.cells (pcs d p) 27)).heap.size = w.heap.size + 1 := by simp
  have hb1 := (Below.refl w.heap.size w).alloc (Nat.le_refl _) (.cells (pcs d p) 27)
  have hb2 := (Below.refl (w.heap.size + 1) (w.alloc (.cells (pcs d p) 27))).alloc (by rw [hz1]; exact Nat.le_refl _) (.cells #[.int .i64 mm, .slice A n c, .int .i64 bb] 52)
  have HB := Lib.hid (hb1.trans (hb2.mono (Nat.le_succ _)))
  have HR := Lib.hid (hr.below (HB.out.mono hB))
  have HC := Lib.hid (show ∀ (k : Nat) v, (pcs d p)[k]? = some v → ((w.alloc (.cells (pcs d p) 27)).alloc (.cells #[.int .i64 mm, .slice A n c, .int .i64 bb] 52)).cell? ⟨w.heap.size, k, none⟩ = some v from fun k v hv => by
    rw [hb2.cell (p := ⟨w.heap.size, k, none⟩) (Nat.lt_succ_self _), blk_cell (heap_alloc_new w _)]; exact hv)
  have hc1 := HC.out 1 (.slice d.A2 d.n2 d.c2) rfl
  have hc2 := HC.out 2 (.slice d.A3 d.n3 d.c3) rfl
  have hc6 := HC.out 6 (.int .i64 p.blocks) rfl
  have hI := heap_alloc_new (w.alloc (.cells (pcs d p) 27)) (.cells #[.int .i64 mm, .slice A n c, .int .i64 bb] 52)
  rw [hz1] at hI
  have hd0 : ((w.alloc (.cells (pcs d p) 27)).alloc (.cells #[.int .i64 mm, .slice A n c, .int .i64 bb] 52)).cell? ⟨w.heap.size + 1, 0, none⟩ = some (.int .i64 mm) := by rw [blk_cell hI]; rfl
  have hd1 : ((w.alloc (.cells (pcs d p) 27)).alloc (.cells #[.int .i64 mm, .slice A n c, .int .i64 bb] 52)).cell? ⟨w.heap.size + 1, 1, none⟩ = some (.slice A n c) := by rw [blk_cell hI]; rfl
  have hd2 : ((w.alloc (.cells (pcs d p) 27)).alloc (.cells #[.int .i64 mm, .slice A n c, .int .i64 bb] 52)).cell? ⟨w.heap.size + 1, 2, none⟩ = some (.int .i64 bb) := by rw [blk_cell hI]; rfl
  have hps : (pcs d p).size = 8 := rfl
  clear HC hI hb1 hb2 h2 h3 hz1 hr
  obtain ⟨X, hX⟩ : ∃ X, pcs d p = X := ⟨_, rfl⟩
  rw [hX] at hc1 hc2 hc6 hd0 hd1 hd2 hps HB HR ⊢
  have hxe : ¬ X = #[] := by intro h; rw [h] at hps; cases hps
  clear hX
  generalize whB p ⟨mm, rts, bb⟩ = r at *
  generalize p.blocks = k at *
  generalize d.n2 = n2 at *
  generalize d.n3 = n3 at *
  go_enter Try.func25, Try.ntmps25
  go_wp2_with fail
  generalize (w.alloc (.cells X 27)).alloc (.cells #[.int .i64 mm, .slice A n c, .int .i64 bb] 52) = w2 at *
  go_loopw [6, 10] (fun _ i wr => ∃ q : Nat, q ≤ n ∧ i = .int .i64 (q : Int) ∧ wr = w2 ∧ ∀ j, j < q → (fun r : Int => decide (r < (n3 : Int))) (it rts j) = true) (fun _ i _ => n - (intOf i).toNat)
  case atStart => exact ⟨0, by omega, rfl, rfl, fun j hj => absurd hj (by omega)⟩
  case round =>
    obtain ⟨q, hq, rfl, rfl, hall⟩ := hrel
    have HA := Lib.hid hall
    clear hall
    by_cases hlt : q < n
    · have dq : (q : Int) < (n : Int) := by omega
      obtain ⟨ad, rfl, _, hcell, _⟩ := HR.out.at_ hlt
      have HSY := Lib.hid (asked (l := rts) (f := fun r : Int => decide (r < (n3 : Int))) (at_ := it) (fun {k} h => by unfold it; rw [List.getD_eq_getElem?_getD, List.getElem?_eq_getElem h]; rfl) (by rw [HL.out]; exact hlt) HA.out)
      generalize it rts q = x at *
      by_cases hx : x < (n3 : Int)
      · have HGG := Lib.hid (HSY.out.1 (decide_eq_true hx))
        clear HSY
        have hx' : ¬ (n3 : Int) ≤ x := by omega
        clear hx
        go_wp2_with fail
        refine ⟨⟨q + 1, by omega, by go_num, by first | trivial | rfl, HGG.out⟩, by simp [intOf]; omega⟩
      · have hr := HS.out
        rw [HSY.out.2 (decide_eq_false hx)] at hr
        clear HSY
        have hx' : (n3 : Int) ≤ x := by omega
        clear hx
        go_wp2_with fail
        go_ret
        exact ⟨by first | rfl | (rw [hr]; rfl), HB.out⟩
    · obtain rfl : q = n := by omega
      have hr := HS.out
      rw [asked_all (l := rts) (f := fun r : Int => decide (r < (n3 : Int))) (at_ := it) (fun {k} h => by unfold it; rw [List.getD_eq_getElem?_getD, List.getElem?_eq_getElem h]; rfl) (by rw [HL.out]; exact HA.out), Bool.true_and] at hr
      by_cases hm : mm < (n2 : Int)
      · rw [decide_eq_true hm, Bool.true_and] at hr
        have HRR := Lib.hid hr
        clear hr
        go_wp2_with fail
        go_ret
        exact ⟨by rw [HRR.out]; rfl, HB.out⟩
      · rw [decide_eq_false hm, Bool.false_and] at hr
        have HRR := Lib.hid hr
        clear hr
        go_wp2_with fail
        go_ret
        exact ⟨by rw [HRR.out]; rfl, HB.out⟩
end Go.Proofs.Ytkmcjjoicpgjfaa
