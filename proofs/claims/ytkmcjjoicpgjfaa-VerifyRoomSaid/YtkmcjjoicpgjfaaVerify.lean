/-
  Contract of verify.Verify. Conditions: a program and a list of nodes in memory.
-/
import Derived.Test.YtkmcjjoicpgjfaaVerAna
namespace Go.Proofs.Ytkmcjjoicpgjfaa
open Go Go.RowKit Go.Sh

/-- what Verify answers: an error, or the whole analysis -/
noncomputable def verP (p : Prg) (ns : List Hp) : Int × St := if fitP p ns ≠ 0 then (fitP p ns, st0 0) else if rfP p ≠ 0 then (rfP p, st0 0) else anaS p
theorem fit_formed {p : Prg} {ns : List Hp} (h : fitP p ns = 0) : Formed p := by
  unfold fitP at h
  by_cases hc : ckP p = 0
  · exact formed_of hc
  · rw [if_pos hc] at h
    exact absurd h hc
set_option maxRecDepth 100000 in
set_option maxHeartbeats 8000000 in
theorem Verify_any (d : Pad) (p : Prg) (ns : List Hp) (A : Option Addr) (n c : Nat) (w : World) (B : Nat) (hp : PR w B d p) (hB : B ≤ w.heap.size) (hr : RR w B 66 A n (ns.map Hp.node)) (hok : ∀ h ∈ ns, h.OK) (hn : n ≤ 140737488355328) :
    Calls Try.prog 6 #[.agg (pcs d p), .slice A n c] w (VPost w p.code.length (verP p ns)) := by
  have HV := Lib.hid (show verP p ns = if fitP p ns ≠ 0 then (fitP p ns, st0 0) else if rfP p ≠ 0 then (rfP p, st0 0) else anaS p from rfl)
  have HFF := Lib.hid (fun h : fitP p ns = 0 => fit_formed h)
  have hzr : ∀ W : World, (zeroValue 33).run Try.prog W = .ok (.agg #[.slice none 0 0, .slice none 0 0, .int .i64 0]) W := fun _ => by kernel_rfl
  obtain ⟨hz2, hc2, hrb2, hb2⟩ := two_new w (.cells (pcs d p) 27) (.cells #[.slice none 0 0, .slice none 0 0, .int .i64 0] 33)
  have hz1 : (w.alloc (.cells (pcs d p) 27)).heap.size = w.heap.size + 1 := by simp
  have HC := Lib.hid (show ∀ (k : Nat) v, (pcs d p)[k]? = some v → ((w.alloc (.cells (pcs d p) 27)).alloc (.cells #[.slice none 0 0, .slice none 0 0, .int .i64 0] 33)).cell? ⟨w.heap.size, k, none⟩ = some v from fun k v hv => by rw [blk_cell hc2]; exact hv)
  have HB := Lib.hid hb2
  have HRB := Lib.hid hrb2
  have HPR := Lib.hid (hp.below (hb2.mono hB))
  have HR := Lib.hid (hr.below (hb2.mono hB))
  have HPL := Lib.hid (show (pcs d p).toList.toArray = pcs d p from rfl)
  have HRG := Lib.hid (blk_range (l := (pcs d p).toList) hc2)
  have HI := Lib.hid (show (Try.prog.info? 27).map (·.size) = some (pcs d p).toList.length by
    obtain ⟨A1, n1, k1, A2, n2, k2, A3, n3, k3, A4, n4, k4⟩ := d
    obtain ⟨_, _, _, _, v, st, k, f⟩ := p
    kernel_rfl)
  have HFI := Lib.hid (fun (W : World) (h : PR W B d p) (h2 : RR W B 66 A n (ns.map Hp.node)) (h3 : B ≤ W.heap.size) => fits_is d p ns A n c W B h h3 h2 hok hn)
  have HRE := Lib.hid (fun (W : World) (h : PR W B d p) (h3 : B ≤ W.heap.size) (hf : Formed p) => refers_is d p W B h h3 hf)
  have HAN := Lib.hid (fun (W : World) (h : PR W B d p) (h3 : B ≤ W.heap.size) (hf : Formed p) => analyse_is d p W B h h3 hf)
  have HCB := Lib.hid (show ((w.alloc (.cells (pcs d p) 27)).alloc (.cells #[.slice none 0 0, .slice none 0 0, .int .i64 0] 33)).heap[w.heap.size]? = some (.cells (pcs d p).toList.toArray 27 (0, 0)) from hc2)
  have hps : (pcs d p).size = 8 := rfl
  clear hc2 hb2 hrb2 hp hr
  obtain ⟨X, hX⟩ : ∃ X, pcs d p = X := ⟨_, rfl⟩
  rw [hX] at HB HPR HR HPL HRG HCB HI HFI HRE HAN HRB HC hps hz1 hz2 ⊢
  have hxe : ¬ X = #[] := by intro h; rw [h] at hps; cases hps
  generalize X.toList = L at *
  have HX := Lib.hid hX
  clear hX
  go_enter Try.func6, Try.ntmps6
  go_wp2_with (refine wl_load_mid (by rfl) 27 _ (by rfl) w.heap.size 0 (by rfl) L _ HRG.out Try.underlying27 rfl HI.out ?_; rw [HPL.out])
  generalize (w.alloc (.cells X 27)).alloc (.cells #[.slice none 0 0, .slice none 0 0, .int .i64 0] 33) = w2 at *
  refine (HFI.out w2 HPR.out HR.out (by omega)).mono ?_
  rintro e w3 ⟨rfl, hb3⟩
  rw [hz2] at hb3
  have HB3 := Lib.hid hb3
  have HRB3 := Lib.hid ((hb3.block (w.heap.size + 1) (by omega)).trans HRB.out)
  have HRG3 := Lib.hid (blk_range ((hb3.block w.heap.size (by omega)).trans HCB.out))
  have HPR3 := Lib.hid (HPR.out.below (hb3.mono (by omega)))
  have hs3 := hb3.size
  clear hb3 HRG HR HFI
  have r0 : w3.cell? ⟨w.heap.size + 1, 0, none⟩ = some (.slice none 0 0) := by rw [blk_cell HRB3.out]; rfl
  have r1 : w3.cell? ⟨w.heap.size + 1, 1, none⟩ = some (.slice none 0 0) := by rw [blk_cell HRB3.out]; rfl
  have r2 : w3.cell? ⟨w.heap.size + 1, 2, none⟩ = some (.int .i64 0) := by rw [blk_cell HRB3.out]; rfl
  have g0 : w3.frozen? ⟨w.heap.size + 1, 0, none⟩ = false := frozen_of_row _ _ _ _ _ HRB3.out
  have g1 : w3.frozen? ⟨w.heap.size + 1, 1, none⟩ = false := frozen_of_row _ _ _ _ _ HRB3.out
  have g2 : w3.frozen? ⟨w.heap.size + 1, 2, none⟩ = false := frozen_of_row _ _ _ _ _ HRB3.out
  obtain ⟨e1, he1⟩ : ∃ e1, fitP p ns = e1 := ⟨_, rfl⟩
  rw [he1] at HV HFF
  have HE1 := Lib.hid he1
  rw [he1]
  clear he1
  by_cases h1 : e1 = 0
  · subst h1
    have hv := HV.out
    rw [if_neg (by simp)] at hv
    have HV2 := Lib.hid hv
    have HF := Lib.hid (HFF.out rfl)
    clear hv HV r0 r1 r2 g0 g1 g2
    simp only
    go_wp2_with (refine wl_load_mid (by rfl) 27 _ (by rfl) w.heap.size 0 (by rfl) L _ HRG3.out Try.underlying27 rfl HI.out ?_; rw [HPL.out])
    refine (HRE.out w3 HPR3.out (by omega) HF.out).mono ?_
    rintro e w4 ⟨rfl, hb4⟩
    have HB4 := Lib.hid (HB3.out.trans (hb4.mono (by omega)))
    clear HRG3 HRB3 HPR3
    have hb4 := HB4.out
    have HRB3 := Lib.hid ((hb4.block (w.heap.size + 1) (by omega)).trans HRB.out)
    have HRG3 := Lib.hid (blk_range ((hb4.block w.heap.size (by omega)).trans HCB.out))
    have HPR3 := Lib.hid (HPR.out.below (hb4.mono (by omega)))
    have hs4 := hb4.size
    clear hb4 HRE HB3 hs3
    have r0 : w4.cell? ⟨w.heap.size + 1, 0, none⟩ = some (.slice none 0 0) := by rw [blk_cell HRB3.out]; rfl
    have r1 : w4.cell? ⟨w.heap.size + 1, 1, none⟩ = some (.slice none 0 0) := by rw [blk_cell HRB3.out]; rfl
    have r2 : w4.cell? ⟨w.heap.size + 1, 2, none⟩ = some (.int .i64 0) := by rw [blk_cell HRB3.out]; rfl
    have g0 : w4.frozen? ⟨w.heap.size + 1, 0, none⟩ = false := frozen_of_row _ _ _ _ _ HRB3.out
    have g1 : w4.frozen? ⟨w.heap.size + 1, 1, none⟩ = false := frozen_of_row _ _ _ _ _ HRB3.out
    have g2 : w4.frozen? ⟨w.heap.size + 1, 2, none⟩ = false := frozen_of_row _ _ _ _ _ HRB3.out
    generalize rfP p = e2 at *
    by_cases h2 : e2 = 0
    · subst h2
      have hv := HV2.out
      rw [if_neg (by simp)] at hv
      have HV3 := Lib.hid hv
      clear hv HV2 r0 r1 r2 g0 g1 g2
      simp only
      go_wp2_with (refine wl_load_mid (by rfl) 27 _ (by rfl) w.heap.size 0 (by rfl) L _ HRG3.out Try.underlying27 rfl HI.out ?_; rw [HPL.out])
      refine (HAN.out w4 HPR3.out (by omega) HF.out).mono ?_
      rintro e w5 ⟨hb5, hpost⟩
      have HB5 := Lib.hid (HB4.out.trans (hb5.mono (by omega)))
      have HPO := Lib.hid hpost
      have HRB5 := Lib.hid ((HB5.out.block (w.heap.size + 1) (by omega)).trans HRB.out)
      clear hpost
      have r0 : w5.cell? ⟨w.heap.size + 1, 0, none⟩ = some (.slice none 0 0) := by rw [blk_cell HRB5.out]; rfl
      have r1 : w5.cell? ⟨w.heap.size + 1, 1, none⟩ = some (.slice none 0 0) := by rw [blk_cell HRB5.out]; rfl
      have r2 : w5.cell? ⟨w.heap.size + 1, 2, none⟩ = some (.int .i64 0) := by rw [blk_cell HRB5.out]; rfl
      have g0 : w5.frozen? ⟨w.heap.size + 1, 0, none⟩ = false := frozen_of_row _ _ _ _ _ HRB5.out
      have g1 : w5.frozen? ⟨w.heap.size + 1, 1, none⟩ = false := frozen_of_row _ _ _ _ _ HRB5.out
      have g2 : w5.frozen? ⟨w.heap.size + 1, 2, none⟩ = false := frozen_of_row _ _ _ _ _ HRB5.out
      have HBZ := Lib.hid (fun (a b c : Value) => (((HB.out.trans (HB5.out.mono (by omega))).setCell (p := ⟨w.heap.size + 1, 0, none⟩) (Nat.le_succ _) a).setCell (p := ⟨w.heap.size + 1, 1, none⟩) (Nat.le_succ _) b).setCell (p := ⟨w.heap.size + 1, 2, none⟩) (Nat.le_succ _) c)
      generalize anaS p = R at *
      rcases HPO.out with ⟨hne, rfl⟩ | ⟨hz, gh, gt, k1, k2, k3, rfl, k4, k5, k6, k7⟩
      · simp only
        go_wp2_with fail
        (try simp only [Exit.inBlock, Exit.then])
        refine bodyPost_ret (v := .tuple #[.agg #[.slice none 0 0, .slice none 0 0, .int .i64 0], .int .i64 R.1]) (by rw [results_ct Try.results6 _ _ _ ⟨w.heap.size + 1, 0, none⟩ _ rfl (rep_load _ _ _ _ _ (rep_set _ _ _ _ _ _ _ _ HRB5.out))]; rfl) rfl ?_
        rw [HV3.out]
        exact ⟨HBZ.out _ _ _, .inl ⟨hne, rfl⟩⟩
      · simp only
        have hgh : gh ≠ w.heap.size + 1 := by omega
        have hgt : gt ≠ w.heap.size + 1 := by omega
        have hgh' : w.heap.size ≤ gh := by omega
        have hgt' : w.heap.size ≤ gt := by omega
        clear k1 k2
        go_wp2_with fail
        (try simp only [Exit.inBlock, Exit.then])
        refine bodyPost_ret (v := .tuple #[.agg #[.slice (some ⟨gh, 0, none⟩) p.code.length p.code.length, .slice (some ⟨gt, 0, none⟩) p.code.length p.code.length, .int .i64 R.2.pk], .int .i64 0]) (by rw [results_ct Try.results6 _ _ _ ⟨w.heap.size + 1, 0, none⟩ _ rfl (rep_load _ _ _ _ _ (rep_set _ _ _ _ _ _ _ _ HRB5.out))]; rfl) rfl ?_
        rw [HV3.out]
        exact ⟨HBZ.out _ _ _, .inr ⟨hz, gh, gt, hgh', hgt', k3, rfl, (far_blk hgh).trans ((far_blk hgh).trans ((far_blk hgh).trans k4)), (far_blk hgt).trans ((far_blk hgt).trans ((far_blk hgt).trans k5)), k6, k7⟩⟩
    · have hbe : (e2 == (0 : Int)) = false := by rw [beq_eq_false_iff_ne]; exact h2
      have hv := HV2.out
      rw [if_pos h2] at hv
      have HV3 := Lib.hid hv
      have HBZ := Lib.hid (fun (a b c : Value) => (((HB.out.trans (HB4.out.mono (by omega))).setCell (p := ⟨w.heap.size + 1, 0, none⟩) (Nat.le_succ _) a).setCell (p := ⟨w.heap.size + 1, 1, none⟩) (Nat.le_succ _) b).setCell (p := ⟨w.heap.size + 1, 2, none⟩) (Nat.le_succ _) c)
      clear hv HV2
      simp only
      go_wp2_with fail
      (try simp only [Exit.inBlock, Exit.then])
      refine bodyPost_ret (v := .tuple #[.agg #[.slice none 0 0, .slice none 0 0, .int .i64 0], .int .i64 e2]) (by rw [results_ct Try.results6 _ _ _ ⟨w.heap.size + 1, 0, none⟩ _ rfl (rep_load _ _ _ _ _ (rep_set _ _ _ _ _ _ _ _ HRB3.out))]; rfl) rfl ?_
      exact ⟨HBZ.out _ _ _, .inl ⟨by rw [HV3.out]; exact h2, by rw [HV3.out]⟩⟩
  · have hbe : (e1 == (0 : Int)) = false := by rw [beq_eq_false_iff_ne]; exact h1
    have hv := HV.out
    rw [if_pos h1] at hv
    have HV3 := Lib.hid hv
    have HBZ := Lib.hid (fun (a b c : Value) => (((HB.out.trans (HB3.out.mono (by omega))).setCell (p := ⟨w.heap.size + 1, 0, none⟩) (Nat.le_succ _) a).setCell (p := ⟨w.heap.size + 1, 1, none⟩) (Nat.le_succ _) b).setCell (p := ⟨w.heap.size + 1, 2, none⟩) (Nat.le_succ _) c)
    clear hv HV
    simp only
    go_wp2_with fail
    (try simp only [Exit.inBlock, Exit.then])
    refine bodyPost_ret (v := .tuple #[.agg #[.slice none 0 0, .slice none 0 0, .int .i64 0], .int .i64 e1]) (by rw [results_ct Try.results6 _ _ _ ⟨w.heap.size + 1, 0, none⟩ _ rfl (rep_load _ _ _ _ _ (rep_set _ _ _ _ _ _ _ _ HRB3.out))]; rfl) rfl ?_
    exact ⟨HBZ.out _ _ _, .inl ⟨by rw [HV3.out]; exact h1, by rw [HV3.out]⟩⟩
end Go.Proofs.Ytkmcjjoicpgjfaa
