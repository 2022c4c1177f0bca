/-
  Contract of shallottop.fewInts. Conditions: the sizes that slices can have.
-/
import Derived.Test.YtobmopjfbgkfbaaCopy
namespace Go.Proofs.Ytobmopjfbgkfbaa
open Go Go.RowKit Go.Sh

set_option maxRecDepth 100000 in
theorem TIx : STy Try.prog 23 3 (.int .i64 0) 1 8 := ⟨Try.underlying23, by kernel_rfl, rfl, by decide⟩
theorem iv_tk (zs : List Int) (k : Nat) : iv (zs.take k) = (iv zs).take k := by simp [iv, List.map_take]
/-- numbers in new memory are handed back -/
def RetIx (w : World) (zs : List Int) (e : Ending) (w' : World) : Prop :=
  ∃ A n c, e = .returned (.slice A n c) ∧ zs.length = n ∧ w'.ownsRow w.heap.size 3 1 (.slice A n c) n (iv zs) ∧ Below w.heap.size w w'
set_option maxRecDepth 100000 in
theorem fewI_any (A : Option Addr) (m c k : Nat) (zs : List Int) (w : World) (B : Nat) (hz : RI w B A m zs) (hB : B ≤ w.heap.size) (hc : m ≤ c) (hk : k ≤ 1000000) (hm : m ≤ 140737488355328) :
    Calls Try.prog 15 #[.slice A m c, .int .i64 (k : Int)] w (RetIx w (zs.take k)) := by
  have HZ := Lib.hid hz
  by_cases hlt : k < m
  · have hi : (k : Int) < (m : Int) := by omega
    have hsl : ∀ W, (Instr.slice 23 (.slice A m c) none (some (.int .i64 (k : Int))) none).run Try.prog W = .ok (.slice A k c) W := fun W => run_sl_hi TIx W A m c .i64 k (by omega)
    have HT := Lib.hid (show Reads w B 1 A k (iv (zs.take k)) from by
      have h := hz.1.take (k := k) (by omega)
      rw [Nat.mul_one] at h
      rw [iv_tk]
      exact h)
    have HL := Lib.hid (show (zs.take k).length = k by rw [List.length_take, hz.len]; omega)
    clear hz
    generalize zs.take k = zt at *
    go_enter Try.func15, Try.ntmps15
    go_wp2_with (at_builtin; refine wl_app TIx rfl (.tmp 12) (.tmp 13) rfl (.slice (some ⟨w.heap.size, 0, none⟩) 0 0) rfl A k c rfl w.heap.size 0 [] ?h1 B (iv zt) ?h2 (iv_one _) (by omega) (by omega) (by simp) ?h6)
    case h1 => exact World.ownsRow_lit w #[] 0 (Nat.le_refl _) (by simp) rfl
    case h2 => exact HT.out.alloc hB _
    case h6 =>
      intro A1 c1 w1 hown hg _
      try simp only [Nat.zero_add, List.nil_append] at hown ⊢
      go_wp2_with fail
      go_ret
      exact ⟨_, _, _, rfl, HL.out, hown, ((Below.refl _ _).alloc (Nat.le_refl _) _).grown hg (by simp) (by simp [Value.ownBlock])⟩
  · have hi : ¬ (k : Int) < (m : Int) := by omega
    have HL := Lib.hid (show (zs.take k).length = m by rw [List.length_take, hz.len]; omega)
    have HT := Lib.hid (show Reads w B 1 A m (iv (zs.take k)) from by
      rw [List.take_of_length_le (by rw [hz.len]; omega)]
      exact hz.1)
    clear hz
    generalize zs.take k = zt at *
    have hmb : (0 + m) * 8 ≤ 140737488355328 := by omega
    go_enter Try.func15, Try.ntmps15
    go_wp2_with (at_builtin; refine wl_app TIx rfl (.tmp 12) (.tmp 13) rfl (.slice (some ⟨w.heap.size, 0, none⟩) 0 0) rfl A m c rfl w.heap.size 0 [] ?h1 B (iv zt) ?h2 (iv_one _) hmb (by omega) (by simp) ?h6)
    case h1 => exact World.ownsRow_lit w #[] 0 (Nat.le_refl _) (by simp) rfl
    case h2 => exact HT.out.alloc hB _
    case h6 =>
      intro A1 c1 w1 hown hg _
      try simp only [Nat.zero_add, List.nil_append] at hown ⊢
      go_wp2_with fail
      go_ret
      exact ⟨_, _, _, rfl, HL.out, hown, ((Below.refl _ _).alloc (Nat.le_refl _) _).grown hg (by simp) (by simp [Value.ownBlock])⟩

end Go.Proofs.Ytobmopjfbgkfbaa
