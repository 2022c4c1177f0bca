/-
  Contracts of shallotref10.marked, Check and Encode: what the document's own code answers of a command. Conditions: the fields fit their types.
-/
import Derived.Test.YtobmopjfbgkfbaaCmdEnc
import Derived.Test.YtobmopjfbgkfbaaMid
namespace Go.Proofs.Ytobmopjfbgkfbaa
open Go Go.RowKit Go.Sh

theorem mark_cell {w : World} {b : Nat} {c : Cmd} (hc : c.OK) (h : CmdAt w b c) {k : Nat} (hk : k < 16) : w.cell? ⟨b, 4 + k, none⟩ = some (.int .u8 (it c.m k)) := by
  have hk' : k < c.m.length := by rw [hc.l]; exact hk
  have := h.r (4 + k) (.int .u8 (it c.m k)) (by simp [Cmd.cells, Nat.add_comm 4 k, it, List.getElem?_eq_getElem hk'])
  rw [Nat.zero_add] at this
  exact this
theorem noMark_rep : noMark = List.replicate 16 0 := rfl
set_option maxRecDepth 100000 in
theorem noMark_of {c : Cmd} (hc : c.OK) (h : ∀ k, k < 16 → it c.m k = 0) : c.m = noMark := by
  rw [noMark_rep]
  refine List.eq_replicate_iff.2 ⟨hc.l, fun y hy => ?_⟩
  obtain ⟨i, hi, rfl⟩ := List.mem_iff_getElem.1 hy
  have := h i (by rw [hc.l] at hi; exact hi)
  rw [it, List.getD_eq_getElem?_getD, List.getElem?_eq_getElem hi] at this
  simpa using this
theorem it_noMark (k : Nat) : it noMark k = 0 := by
  rw [noMark_rep, it, List.getD_eq_getElem?_getD, List.getElem?_replicate]
  split <;> rfl

set_option maxRecDepth 100000 in
theorem marked_any (c : Cmd) (w : World) (hc : c.OK) : Calls Try.prog 69 #[c.v] w (fun e w' => e = .returned (.bool (!decide (c.m = noMark))) ∧ Below w.heap.size w w') := by
  have HN := Lib.hid (cmd_new w c 68)
  have HC := Lib.hid hc
  clear hc
  unfold Cmd.v
  generalize hcs : c.cells.toArray = cs at *
  have HCS := Lib.hid hcs
  clear hcs
  obtain ⟨r, hr⟩ : ∃ r, (!decide (c.m = noMark)) = r := ⟨_, rfl⟩
  rw [hr]
  have HR := Lib.hid hr
  clear hr
  go_enter Try.func69, Try.ntmps69
  go_wp2_with fail
  generalize hw1 : w.alloc (.cells cs 68) = w1 at *
  have HB := Lib.hid (show Below w.heap.size w w1 by rw [← hw1]; exact (Below.refl _ _).alloc (Nat.le_refl _) _)
  clear hw1
  generalize hb : w.heap.size = b at *
  have HH := Lib.hid hb
  clear hb
  go_loop [3] (fun i => ∃ k : Nat, k ≤ 16 ∧ i = .int .i64 k ∧ Hid (∀ j, j < k → it c.m j = 0)) (fun i => 16 - (intOf i).toNat)
  case atStart => exact ⟨0, by omega, rfl, Lib.hid fun j hj => absurd hj (by omega)⟩
  case round =>
    obtain ⟨k, hk, rfl, H0⟩ := hrel
    by_cases hlt : k < 16
    · have hcell := mark_cell HC.out HN.out hlt
      have hi : (0 : Int) ≤ (k : Int) := by omega
      have hi' : (k : Int) < 16 := by omega
      by_cases h0 : it c.m k = 0
      · rw [h0] at hcell
        have HK := Lib.hid (show ∀ j, j < k + 1 → it c.m j = 0 by
          intro j hj
          by_cases hjk : j = k
          · rw [hjk]; exact h0
          · exact H0.out j (by omega))
        clear h0 H0
        go_wp2
        go_round
        case rel => exact ⟨k + 1, by omega, by go_num, HK⟩
        case measure => simp [intOf]; omega
      · have hne : (it c.m k != 0) = true := by rw [bne_iff_ne]; exact h0
        have hr : r = true := by
          rw [← HR.out]
          simp
          intro h
          rw [h] at h0
          exact h0 (it_noMark k)
        have HRT := Lib.hid hr
        generalize it c.m k = y at *
        clear h0 hr H0
        go_wp2
        go_ret
        exact ⟨by rw [HRT.out]; rfl, by rw [HH.out]; exact HB.out⟩
    · obtain rfl : k = 16 := by omega
      have hr : r = false := by
        rw [← HR.out]
        simp
        exact noMark_of HC.out H0.out
      have HRT := Lib.hid hr
      clear hr H0
      go_wp2
      go_ret
      exact ⟨by rw [HRT.out]; rfl, by rw [HH.out]; exact HB.out⟩

end Go.Proofs.Ytobmopjfbgkfbaa
