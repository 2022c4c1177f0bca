/-
  Contracts of shallottop.sameBytes and, at equal parts, shallottop.samePart. Conditions: the sizes that slices can have.
-/
import Derived.Test.YtobmopjfbgkfbaaParts
namespace Go.Proofs.Ytobmopjfbgkfbaa
open Go Go.RowKit Go.Sh

theorem beq_dec (l r : List UInt8) : (l == r) = decide (l = r) := by by_cases h : l = r <;> simp [h]
set_option maxRecDepth 100000 in
theorem sameBytes_any (A A' : Option Addr) (n n' c c' : Nat) (l r : List UInt8) (w : World) (B B' : Nat) (hl : RB w B A n l) (hr : RB w B' A' n' r) :
    Calls Try.prog 12 #[.slice A n c, .slice A' n' c'] w (fun e w' => e = .returned (.bool (decide (l = r))) ∧ w = w') := by
  have HL := Lib.hid hl
  have HR := Lib.hid hr
  clear hl hr
  go_enter Try.func12, Try.ntmps12
  go_wp2_with (first | (refine wl_str Try.underlying26 Try.underlying5 Try.underlying9 rfl (.tmp 5) rfl A n c rfl B l HL.out ?_) | (refine wl_str Try.underlying26 Try.underlying5 Try.underlying9 rfl (.tmp 7) rfl A' n' c' rfl B' r HR.out ?_))
  go_ret
  exact ⟨by rw [← beq_dec]; rfl, rfl⟩

set_option maxRecDepth 100000 in
set_option maxHeartbeats 1000000 in
theorem samePart_eq (p : Pt) (A A' : Option Addr) (n n' c c' : Nat) (w : World) (B B' : Nat) (hl : RB w B A n p.d) (hr : RB w B' A' n' p.d) (hB : B ≤ w.heap.size) (hB' : B' ≤ w.heap.size) :
    Calls Try.prog 27 #[.agg #[.int .u8 p.k, .int .u64 p.id, .int .i64 p.ix, .int .i64 p.ct, .slice A n c], .agg #[.int .u8 p.k, .int .u64 p.id, .int .i64 p.ix, .int .i64 p.ct, .slice A' n' c']] w (fun e w' => e = .returned (.bool true) ∧ Below w.heap.size w w') := by
  have HL := Lib.hid hl
  have HR := Lib.hid hr
  clear hl hr
  generalize p.k = k at *
  generalize p.id = id at *
  generalize p.ix = ix at *
  generalize p.ct = ct at *
  generalize p.d = d at *
  go_enter Try.func27, Try.ntmps27
  go_wp2_with fail
  refine (sameBytes_any A A' n n' c c' d d _ B B' ((HL.out.alloc hB _).alloc (by simp; omega) _) ((HR.out.alloc hB' _).alloc (by simp; omega) _)).mono ?_
  rintro e w1 ⟨rfl, rfl⟩
  have HB := Lib.hid (((Below.refl w.heap.size w).alloc (Nat.le_refl _) (.cells #[.int .u8 k, .int .u64 id, .int .i64 ix, .int .i64 ct, .slice A n c] 56)).alloc (by simp) (.cells #[.int .u8 k, .int .u64 id, .int .i64 ix, .int .i64 ct, .slice A' n' c'] 56))
  rw [show decide (d = d) = true by simp]
  go_wp2_with fail
  go_ret
  exact ⟨rfl, HB.out⟩
end Go.Proofs.Ytobmopjfbgkfbaa
