/-
  The walk of shallotlaw11.FrameFrames: it returns true; nothing that was there has turned. Conditions: the sizes that slices can have; the fields fit their types.
-/
import Derived.Test.YtgdelilanackhaaFrmAwake
import Derived.Test.YtgdelilanackhaaRefFrame
import Derived.Test.YtgdelilanackhaaParsed
import Derived.Test.YtgdelilanackhaaSame
import Derived.Test.YtgdelilanackhaaPartOpen
namespace Go.Proofs.Ytgdelilanackhaa
open Go Go.RowKit Go.Sh

set_option maxHeartbeats 4000000 in
set_option maxRecDepth 100000 in
theorem FrameFrames_walk (p : Pt) (A : Option Addr) (n c : Nat) (w : World) (hp : p.OK) (hr : RB w w.heap.size A n p.d) (hn : n ≤ 140737488351232) :
    Calls Try.prog 6 #[.agg #[.int .u8 p.k, .int .u64 p.id, .int .i64 p.ix, .int .i64 p.ct, .slice A n c]] w (LawPost w) := by
  have HR := Lib.hid hr
  have HLN := Lib.hid hr.len
  have HPO := Lib.hid hp
  have HTW := Lib.hid (fun w B (h : RB w B A n p.d) hB => Twin_any p A n c w B h hB (by omega))
  have HC1 := Lib.hid (show ∀ A' c' (w : World), Calls Try.prog 20 #[.agg #[.int .u8 p.k, .int .u64 p.id, .int .i64 p.ix, .int .i64 p.ct, .slice A' n c']] w (fun e w' => e = .returned (.int .i64 p.chk) ∧ Below w.heap.size w w') from fun A' c' w => by
    rw [show p.chk = chk p.k p.id p.ix p.ct n by unfold Pt.chk; rw [hr.len]]
    exact PCheck_any p.k p.id p.ix p.ct A' n c' w hp.k (by omega))
  have HC2 := Lib.hid (show ∀ A' c' (w : World), Calls Try.prog 22 #[.agg #[.int .u8 p.k, .int .u64 p.id, .int .i64 p.ix, .int .i64 p.ct, .slice A' n c']] w (fun e w' => e = .returned (.int .i64 p.chk) ∧ Below w.heap.size w w') from fun A' c' w => by
    rw [show p.chk = chk p.k p.id p.ix p.ct n by unfold Pt.chk; rw [hr.len]]
    exact RefPCheck_any p.k p.id p.ix p.ct A' n c' w hp.k (by omega))
  have HF1 := Lib.hid (fun A' c' w B (h : RB w B A' n p.d) hB => Frame_any p A' n c' w B hp h hB (by omega))
  have HF2 := Lib.hid (fun A' c' w B (h : RB w B A' n p.d) hB => RefFrame_any p A' n c' w B hp h hB (by omega))
  have HPF := Lib.hid (fun h : p.chk = 0 => parse_frm hp h)
  have HFE := Lib.hid (show p.chk = 0 → frmE p = frmL p ∧ (frmL p).length = 480 from fun h => ⟨by rw [frmE, if_pos h], length_frmL p (chk_ok h).2.1⟩)
  have HCC := Lib.hid (chk_cases p)
  have HFS := Lib.hid (show (frmE p).length ≤ 480 from by
    unfold frmE
    split
    · rename_i h
      rw [length_frmL p (chk_ok h).2.1]
      exact Nat.le_refl _
    · simp)
  have HSM := Lib.hid (fun A' c' A'' c'' w B B' (h1 : RB w B A' n p.d) (h2 : RB w B' A'' n p.d) hB hB' => SamePart_eq p A' A'' n n c' c'' w B B' h1 h2 hB hB' (by omega))
  have hpb := PBlk.new w p (.slice A n c)
  have hb0 := (Below.refl w.heap.size w).alloc (Nat.le_refl _) (.cells (pcell p (.slice A n c)).toArray 47)
  clear hr hp
  go_enter Try.func6, Try.ntmps6
  go_wp2_with fail
  obtain ⟨w1, hw1⟩ : ∃ w1, w.alloc (.cells #[.int .u8 p.k, .int .u64 p.id, .int .i64 p.ix, .int .i64 p.ct, .slice A n c] 47) = w1 := ⟨_, rfl⟩
  have HP1 := Lib.hid (show PBlk w1 w.heap.size p (.slice A n c) from by rw [← hw1]; exact hpb)
  have HB1 := Lib.hid (show Below w.heap.size w w1 from by rw [← hw1]; exact hb0)
  rw [hw1]
  have hz1 : w.heap.size < w1.heap.size := HP1.out.lt
  clear hpb hb0 hw1
  generalize hgb : w.heap.size = b at *
  have HGB := Lib.hid hgb
  clear hgb
  generalize frmE p = fe at *
  generalize p.chk = ck at *
  have a0 := HP1.out.c0
  have a1 := HP1.out.c1
  have a2 := HP1.out.c2
  have a3 := HP1.out.c3
  have a4 := HP1.out.c4
  go_region_held3 (fun w' => w'.cell? ⟨b, 0, none⟩ = some (.int .u8 p.k) ∧ w'.cell? ⟨b, 1, none⟩ = some (.int .u64 p.id) ∧ w'.cell? ⟨b, 2, none⟩ = some (.int .i64 p.ix) ∧ w'.cell? ⟨b, 3, none⟩ = some (.int .i64 p.ct) ∧ w'.cell? ⟨b, 4, none⟩ = some (.slice A n c)) (go_keep) (first
    | (go_at_call 9; refine (awake_any _).mono ?_; rintro e wa ⟨rfl, hba⟩; have hba' := Below.trans ((Below.refl w1.heap.size w1).drew) hba; have ka0 := (hba'.cell (p := ⟨b, 0, none⟩) (by show b < _; omega)).trans a0; have ka1 := (hba'.cell (p := ⟨b, 1, none⟩) (by show b < _; omega)).trans a1; have ka2 := (hba'.cell (p := ⟨b, 2, none⟩) (by show b < _; omega)).trans a2; have ka3 := (hba'.cell (p := ⟨b, 3, none⟩) (by show b < _; omega)).trans a3; have ka4 := (hba'.cell (p := ⟨b, 4, none⟩) (by show b < _; omega)).trans a4; have hza := hba'.size; have HBA := Lib.hid hba'; clear hba hba')
    | (go_at_call 21; refine (HTW.out wa b (by exact HR.out.below (HB1.out.trans (HBA.out.mono (by omega)))) (by omega)).mono ?_; rintro e wt ⟨gt, ct', rfl, hot, hbt⟩; have hbt' := Below.trans HBA.out (hbt.mono (by omega)); have kt0 := (hbt'.cell (p := ⟨b, 0, none⟩) (by show b < _; omega)).trans a0; have kt1 := (hbt'.cell (p := ⟨b, 1, none⟩) (by show b < _; omega)).trans a1; have kt2 := (hbt'.cell (p := ⟨b, 2, none⟩) (by show b < _; omega)).trans a2; have kt3 := (hbt'.cell (p := ⟨b, 3, none⟩) (by show b < _; omega)).trans a3; have kt4 := (hbt'.cell (p := ⟨b, 4, none⟩) (by show b < _; omega)).trans a4; have hzt := hbt.size; have HBT := Lib.hid hbt'; clear hbt hbt' hot)
    | (go_at_call 20; refine (HC1.out _ _ wt).mono ?_; rintro e wc ⟨rfl, hbc⟩; have hbc' := Below.trans HBT.out (hbc.mono (by omega)); have kc0 := (hbc'.cell (p := ⟨b, 0, none⟩) (by show b < _; omega)).trans a0; have kc1 := (hbc'.cell (p := ⟨b, 1, none⟩) (by show b < _; omega)).trans a1; have kc2 := (hbc'.cell (p := ⟨b, 2, none⟩) (by show b < _; omega)).trans a2; have kc3 := (hbc'.cell (p := ⟨b, 3, none⟩) (by show b < _; omega)).trans a3; have kc4 := (hbc'.cell (p := ⟨b, 4, none⟩) (by show b < _; omega)).trans a4; have hzc := hbc.size; have HBC := Lib.hid hbc'; clear hbc hbc')
    | (go_at_call 22; refine (HC2.out _ _ wc).mono ?_; rintro e wr ⟨rfl, hbr⟩; have hbr' := Below.trans HBC.out (hbr.mono (by omega)); have kr0 := (hbr'.cell (p := ⟨b, 0, none⟩) (by show b < _; omega)).trans a0; have kr1 := (hbr'.cell (p := ⟨b, 1, none⟩) (by show b < _; omega)).trans a1; have kr2 := (hbr'.cell (p := ⟨b, 2, none⟩) (by show b < _; omega)).trans a2; have kr3 := (hbr'.cell (p := ⟨b, 3, none⟩) (by show b < _; omega)).trans a3; have kr4 := (hbr'.cell (p := ⟨b, 4, none⟩) (by show b < _; omega)).trans a4; have hzr := hbr.size; have HBR := Lib.hid hbr'; clear hbr hbr'))
  have HPr := Lib.hid (HP1.out.below HBR.out hz1)
  have HBr := Lib.hid (HB1.out.trans (HBR.out.mono (by omega)))
  have hzw : w1.heap.size ≤ wr.heap.size := HBR.out.size
  have e0 : (ck != ck) = false := by simp
  clear a0 a1 a2 a3 a4 ka0 ka1 ka2 ka3 ka4 kt0 kt1 kt2 kt3 kt4 kc0 kc1 kc2 kc3 kc4 kr0 kr1 kr2 kr3 kr4 HBA HBT HBC HBR HP1 HB1 hza hzt hzc hzr
  have hzb : b < wr.heap.size := by omega
  clear hzw hz1
  have a0 := HPr.out.c0
  have a1 := HPr.out.c1
  have a2 := HPr.out.c2
  have a3 := HPr.out.c3
  have a4 := HPr.out.c4
  go_wp2_with fail
  refine (HTW.out wr b (HR.out.below HBr.out) (by omega)).mono ?_
  rintro e w2 ⟨g2, c2, rfl, ho2, hb2⟩
  have HO2 := Lib.hid ho2
  have HP2 := Lib.hid (HPr.out.below hb2 hzb)
  have HB2 := Lib.hid (HBr.out.trans (hb2.mono (by omega)))
  have hz2 := hb2.size
  clear ho2 hb2 HPr HBr a0 a1 a2 a3 a4
  go_wp2_with fail
  refine (HF1.out (some ⟨g2, 0, none⟩) c2 w2 w2.heap.size (RB.of_own HO2.out) (Nat.le_refl _)).mono ?_
  rintro e w3 ⟨A3, n3, c3, rfl, hl3, ho3, hb3⟩
  have HO3 := Lib.hid ho3
  have HL3 := Lib.hid hl3
  have HP3 := Lib.hid (HP2.out.below hb3 HP2.out.lt)
  have HB3 := Lib.hid (HB2.out.trans (hb3.mono (by omega)))
  have hz3 := hb3.size
  have hn3 : n3 ≤ 480 := by rw [← hl3]; exact HFS.out
  clear ho3 hb3 hl3 HP2 HB2 HO2
  have a0 := HP3.out.c0
  have a1 := HP3.out.c1
  have a2 := HP3.out.c2
  have a3 := HP3.out.c3
  have a4 := HP3.out.c4
  go_wp2_with fail
  refine (HF2.out A c w3 b (HR.out.below HB3.out) (by omega)).mono ?_
  rintro e w4 ⟨A4, n4, c4, rfl, hl4, ho4, hb4⟩
  obtain rfl : n3 = n4 := by rw [← HL3.out, hl4]
  have HO4 := Lib.hid (RB.of_own ho4)
  have HO34 := Lib.hid (own_later HO3.out hb4)
  have HP4 := Lib.hid (HP3.out.below hb4 HP3.out.lt)
  have HB4 := Lib.hid (HB3.out.trans (hb4.mono (by omega)))
  have hz4 := hb4.size
  clear ho4 hb4 hl4 HP3 HB3 HO3 a0 a1 a2 a3 a4
  go_wp2_with fail
  refine (Equal_any A3 A4 n3 n3 c3 c4 fe fe w4 _ _ (RB.of_own HO34.out) HO4.out (by omega)).mono ?_
  rintro e w5 h5
  obtain ⟨rfl, hb5⟩ := h5.below
  have HO5 := Lib.hid (own_later HO34.out hb5)
  have HP5 := Lib.hid (HP4.out.below hb5 HP4.out.lt)
  have HB5 := Lib.hid (HB4.out.trans (hb5.mono (by omega)))
  have hz5 := hb5.size
  clear h5 hb5 HO34 HO4 HP4 HB4
  rw [show decide (fe = fe) = true by simp]
  rcases HCC.out with rfl | rfl | rfl | rfl
  · obtain ⟨hfe, hl480⟩ := HFE.out rfl
    obtain ⟨hpe, hpp⟩ := HPF.out rfl
    subst hfe
    have HPA := Lib.hid (show Calls Try.prog 25 #[.slice A3 n3 c3] w5 (RetPt w5 p 0) from by
      have h := Parse_any A3 n3 c3 (frmL p) w5 w5.heap.size (RB.of_own HO5.out) (Nat.le_refl _) (by omega) (own_cap HO5.out)
      rw [hpe, hpp] at h
      exact h)
    clear hpe hpp hl480
    generalize frmL p = fe at *
    go_wp2_with fail
    refine HPA.out.mono ?_
    rintro e w6 ⟨A6, n6, c6, he, ho6, hb6⟩
    have he' : e = .returned (.tuple #[.agg #[.int .u8 p.k, .int .u64 p.id, .int .i64 p.ix, .int .i64 p.ct, .slice A6 n6 c6], .int .i64 0]) := he
    subst he'
    have HO6 := Lib.hid ho6
    have hn6 : n6 = n := by have := ho6.1; rw [length_bv, HLN.out] at this; omega
    subst hn6
    have HP6 := Lib.hid (HP5.out.below hb6 HP5.out.lt)
    have HB6 := Lib.hid (HB5.out.trans (hb6.mono (by omega)))
    have hz6 := hb6.size
    clear he ho6 hb6 HP5 HB5 HO5 HPA
    have hba := (Below.refl w6.heap.size w6).alloc (Nat.le_refl _) (.cells #[.int .u8 p.k, .int .u64 p.id, .int .i64 p.ix, .int .i64 p.ct, .slice A6 n6 c6] 47)
    have HO7 := Lib.hid (RB.of_own (own_later HO6.out hba))
    have HB7 := Lib.hid (HB6.out.trans (hba.mono (by omega)))
    have HP7 := Lib.hid (HP6.out.below hba HP6.out.lt)
    have hlt6 := HP6.out.lt
    clear hba HB6 HP6
    go_wp2_with (refine wl_load_mid rfl 47 (.tmp 1) rfl b 0 rfl (pcell p (.slice A n6 c)) _ (blk_range HP7.out) Try.underlying47 rfl infoP ?_)
    refine (HSM.out A6 c6 A c _ _ b HO7.out (HR.out.below HB7.out) (by simp) (by simp; omega)).mono ?_
    rintro e w8 ⟨rfl, hb8⟩
    have HB8 := Lib.hid (HB7.out.trans (hb8.mono (by simp; omega)))
    clear hb8
    go_wp2_with fail
    go_ret
    exact ⟨rfl, by rw [HGB.out]; exact HB8.out⟩
  · go_wp2_with fail
    go_ret
    exact ⟨rfl, by rw [HGB.out]; exact HB5.out⟩
  · go_wp2_with fail
    go_ret
    exact ⟨rfl, by rw [HGB.out]; exact HB5.out⟩
  · go_wp2_with fail
    go_ret
    exact ⟨rfl, by rw [HGB.out]; exact HB5.out⟩
end Go.Proofs.Ytgdelilanackhaa
