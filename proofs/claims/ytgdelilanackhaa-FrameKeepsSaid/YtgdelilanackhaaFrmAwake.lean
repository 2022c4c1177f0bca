/-
  Contract of shallotlaw11.awake: true; nothing that was there has turned.
-/
import Derived.Test.YtgdelilanackhaaFrame
namespace Go.Proofs.Ytgdelilanackhaa
open Go Go.RowKit Go.Sh

def awp : Pt := ⟨1, 258, 0, 1, [9]⟩
theorem awp_facts : frmE awp = frmL awp ∧ awp.chk = 0 := by
  have h : awp.chk = 0 := by decide
  exact ⟨by rw [frmE, if_pos h], h⟩
theorem awp_at : (bv (frmL awp))[16]? = some (.int .u8 1) ∧ (bv (frmL awp))[18]? = some (.int .u8 1) ∧ (bv (frmL awp))[26]? = some (.int .u8 1) ∧ (bv (frmL awp))[27]? = some (.int .u8 2) ∧ (bv (frmL awp))[29]? = some (.int .u8 1) ∧ (bv (frmL awp))[30]? = some (.int .u8 9) := by
  refine ⟨?_, ?_, ?_, ?_, ?_, ?_⟩ <;> kernel_rfl

theorem awake_any (w : World) : Calls Try.prog 9 #[] w (LawPost w) := by
  have HF := Lib.hid (show ∀ (A : Option Addr) (n c : Nat) (w : World) (B : Nat), RB w B A n [9] → B ≤ w.heap.size → n ≤ 140737488355328 → Calls Try.prog 23 #[.agg #[.int .u8 1, .int .u64 258, .int .i64 0, .int .i64 1, .slice A n c]] w (RetBE w (frmL awp) 0) from fun A n c w B hr hB hn => by
    have h := Frame_any awp A n c w B ⟨by decide, by decide, by decide, by decide⟩ hr hB hn
    rw [awp_facts.1, awp_facts.2] at h
    exact h)
  have HA := Lib.hid awp_at
  have HLN := Lib.hid (length_frmL awp (by decide))
  generalize frmL awp = fl at *
  go_enter Try.func9, Try.ntmps9
  go_wp2_with fail
  refine (HF.out _ 1 1 _ (w.heap.size + 1) (RB.lit w _ [9] _ rfl _ rfl) (by simp) (by omega)).mono ?_
  rintro e w1 ⟨A1, n1, c1, rfl, hl1, ho1, hb1⟩
  have hn1 : n1 = 480 := by rw [← hl1]; exact HLN.out
  obtain rfl := hn1
  have HB1 := Lib.hid (((Below.refl w.heap.size w).alloc (Nat.le_refl _) _).trans (hb1.mono (by simp)))
  have hA : ∃ g, A1 = some ⟨g, 0, none⟩ := by
    rcases ho1.2 with ⟨_, h⟩ | ⟨g, _, _, h, _⟩
    · omega
    · injection h with h
      exact ⟨g, h⟩
  obtain ⟨g, rfl⟩ := hA
  have r16 := (ho1.cellAt 16 (by omega)).trans HA.out.1
  have r18 := (ho1.cellAt 18 (by omega)).trans HA.out.2.1
  have r26 := (ho1.cellAt 26 (by omega)).trans HA.out.2.2.1
  have r27 := (ho1.cellAt 27 (by omega)).trans HA.out.2.2.2.1
  have r29 := (ho1.cellAt 29 (by omega)).trans HA.out.2.2.2.2.1
  have r30 := (ho1.cellAt 30 (by omega)).trans HA.out.2.2.2.2.2
  have hcnt := Count_any 451 w1
  rw [show cntV 451 = 2 by decide, show cntE 451 = 0 by decide] at hcnt
  have HC := Lib.hid hcnt
  clear ho1 hb1 hl1 hcnt HF
  go_wp2_with fail
  refine HC.out.mono ?_
  rintro e w2 ⟨rfl, rfl⟩
  go_wp2_with fail
  go_ret
  exact ⟨rfl, HB1.out⟩
end Go.Proofs.Ytgdelilanackhaa
