/-
  Contracts of code.uses, within and shaped. No conditions but that numbers fit.
-/
import Derived.Test.YtkmcjjoicpgjfaaDoorPrg
namespace Go.Proofs.YtkmcjjoicpgjfaaDoor
open Go Go.RowKit Go.Sh

/-- what A and B mean to an op -/
def usN (o : Nat) : Nat := if o = 1 then 1 else if o = 15 then 3 else if o = 5 ∨ o = 6 ∨ o = 7 ∨ o = 8 ∨ o = 9 ∨ o = 10 ∨ o = 11 ∨ o = 13 then 2 else 0
def usB (o : Nat) : Bool := decide (o ≤ 16)
theorem u8_cases {o : Nat} (h : o ≤ 16) : o = 0 ∨ o = 1 ∨ o = 2 ∨ o = 3 ∨ o = 4 ∨ o = 5 ∨ o = 6 ∨ o = 7 ∨ o = 8 ∨ o = 9 ∨ o = 10 ∨ o = 11 ∨ o = 12 ∨ o = 13 ∨ o = 14 ∨ o = 15 ∨ o = 16 := by omega
set_option maxRecDepth 100000 in
theorem uses_any (o : Nat) (w : World) : Calls Tryd.prog 27 #[.int .u8 (o : Int)] w (fun e w' => e = .returned (.tuple #[.int .i64 (usN o : Int), .bool (usB o)]) ∧ w = w') := by
  by_cases h : o ≤ 16
  · rcases u8_cases h with rfl | rfl | rfl | rfl | rfl | rfl | rfl | rfl | rfl | rfl | rfl | rfl | rfl | rfl | rfl | rfl | rfl
    all_goals
      clear h
      go_enter Tryd.func27, Tryd.ntmps27
      go_wp2
      go_ret2
      exact ⟨rfl, rfl⟩
  · have h1 : usN o = 0 := by
      unfold usN
      rw [if_neg (by omega), if_neg (by omega), if_neg (by omega)]
    have h2 : usB o = false := by unfold usB; rw [decide_eq_false_iff_not]; omega
    rw [h1, h2]
    have f0 : ((o : Int) == 0) = false := by rw [beq_eq_false_iff_ne]; omega
    have f1 : ((o : Int) == 1) = false := by rw [beq_eq_false_iff_ne]; omega
    have f2 : ((o : Int) == 2) = false := by rw [beq_eq_false_iff_ne]; omega
    have f3 : ((o : Int) == 3) = false := by rw [beq_eq_false_iff_ne]; omega
    have f4 : ((o : Int) == 4) = false := by rw [beq_eq_false_iff_ne]; omega
    have f5 : ((o : Int) == 5) = false := by rw [beq_eq_false_iff_ne]; omega
    have f6 : ((o : Int) == 6) = false := by rw [beq_eq_false_iff_ne]; omega
    have f7 : ((o : Int) == 7) = false := by rw [beq_eq_false_iff_ne]; omega
    have f8 : ((o : Int) == 8) = false := by rw [beq_eq_false_iff_ne]; omega
    have f9 : ((o : Int) == 9) = false := by rw [beq_eq_false_iff_ne]; omega
    have f10 : ((o : Int) == 10) = false := by rw [beq_eq_false_iff_ne]; omega
    have f11 : ((o : Int) == 11) = false := by rw [beq_eq_false_iff_ne]; omega
    have f12 : ((o : Int) == 12) = false := by rw [beq_eq_false_iff_ne]; omega
    have f13 : ((o : Int) == 13) = false := by rw [beq_eq_false_iff_ne]; omega
    have f14 : ((o : Int) == 14) = false := by rw [beq_eq_false_iff_ne]; omega
    have f15 : ((o : Int) == 15) = false := by rw [beq_eq_false_iff_ne]; omega
    have f16 : ((o : Int) == 16) = false := by rw [beq_eq_false_iff_ne]; omega
    clear h h1 h2
    go_enter Tryd.func27, Tryd.ntmps27
    go_wp2
    go_ret2
    exact ⟨rfl, rfl⟩
/-- is n from lo to hi? -/
def wi (n lo hi : Int) : Bool := decide (lo ≤ n) && decide (n ≤ hi)
set_option maxRecDepth 100000 in
theorem within_any (n lo hi : Int) (w : World) : Calls Tryd.prog 81 #[.int .i64 n, .int .i64 lo, .int .i64 hi] w (fun e w' => e = .returned (.bool (wi n lo hi)) ∧ w = w') := by
  by_cases h : lo ≤ n
  · rw [show wi n lo hi = decide (n ≤ hi) by unfold wi; rw [decide_eq_true h]; rfl]
    go_enter Tryd.func81, Tryd.ntmps81
    go_wp2
    go_ret
    exact ⟨rfl, rfl⟩
  · rw [show wi n lo hi = false by unfold wi; rw [decide_eq_false h]; rfl]
    go_enter Tryd.func81, Tryd.ntmps81
    go_wp2
    go_ret
    exact ⟨rfl, rfl⟩
end Go.Proofs.YtkmcjjoicpgjfaaDoor
