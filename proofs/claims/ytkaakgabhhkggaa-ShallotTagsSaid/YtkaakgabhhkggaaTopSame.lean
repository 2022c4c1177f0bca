/-
  Contracts of shallottop.sameBytes and, at equal parts, shallottop.samePart. Conditions: the sizes that slices can have.
-/
import Derived.Test.YtkaakgabhhkggaaParts
namespace Go.Proofs.Ytkaakgabhhkggaa
open Go Go.RowKit Go.Sh

theorem beq_dec (l r : List UInt8) : (l == r) = decide (l = r) := by by_cases h : l = r <;> simp [h]
set_option maxRecDepth 100000 in
theorem sameBytes_any (A A' : Option Addr) (n n' c c' : Nat) (l r : List UInt8) (w : World) (B B' : Nat) (hl : RB w B A n l) (hr : RB w B' A' n' r) :
    Calls Try.prog 14 #[.slice A n c, .slice A' n' c'] w (fun e w' => e = .returned (.bool (decide (l = r))) ∧ w = w') := by
  have HL := Lib.hid hl
  have HR := Lib.hid hr
  clear hl hr
  go_enter Try.func14, Try.ntmps14
  go_wp2_with (first | (refine wl_str Try.underlying22 Try.underlying5 Try.underlying9 rfl (.tmp 5) rfl A n c rfl B l HL.out ?_) | (refine wl_str Try.underlying22 Try.underlying5 Try.underlying9 rfl (.tmp 7) rfl A' n' c' rfl B' r HR.out ?_))
  go_ret
  exact ⟨by rw [← beq_dec]; rfl, rfl⟩

end Go.Proofs.Ytkaakgabhhkggaa
