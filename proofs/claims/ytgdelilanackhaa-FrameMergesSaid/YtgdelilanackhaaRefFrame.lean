/-
  Contracts of shallotref11.Frame and shallotref11.Twin: the same frame as the program's; a part of its own. Conditions: the fields fit their types; the sizes that slices can have.
-/
import Derived.Test.YtgdelilanackhaaFrame
namespace Go.Proofs.Ytgdelilanackhaa
open Go Go.RowKit Go.Sh

theorem putB_take {v i : Nat} (h : i < 8) : (putB 2 8 v).take (i + 1) = (putB 2 8 v).take i ++ [pc v (7 - i)] := by
  have hl : i < (putB 2 8 v).length := by rw [length_putB]; exact h
  rw [List.take_succ_eq_append_getElem hl]
  congr 2
  simp [putB, rowf]
theorem id_step (p : Pt) {v i : Nat} (h : i < 8) : (frmH p ++ ((putB 2 8 v).take i ++ zs (460 - i))).set (20 + i) (pc v (7 - i)) = frmH p ++ ((putB 2 8 v).take (i + 1) ++ zs (460 - (i + 1))) := by
  have hl : ((putB 2 8 v).take i).length = i := by rw [List.length_take, length_putB]; omega
  rw [List.set_append_right _ _ (by rw [length_frmH]; omega), length_frmH, Nat.add_sub_cancel_left, List.set_append_right _ _ (by omega), hl, Nat.sub_self, putB_take h, List.append_assoc]
  congr 2
  rw [show 460 - i = (460 - (i + 1)) + 1 by omega]
  rfl
theorem len_step (p : Pt) (v n : Nat) : ((frmH p ++ (putB 2 8 v ++ zs 452)).set 28 (pc n 1)).set 29 (pc n 0) = frmH p ++ (putB 2 8 v ++ (putB 2 2 n ++ zs 450)) := by
  have e : zs 452 = 0 :: 0 :: zs 450 := by
    rw [show (452 : Nat) = 2 + 450 from rfl, zs_add]
    rfl
  have e2 : putB 2 2 n = [pc n 1, pc n 0] := rfl
  rw [List.set_append_right _ _ (by rw [length_frmH]; omega), List.set_append_right _ _ (by rw [length_frmH]; omega), length_frmH, List.set_append_right _ _ (by rw [length_putB]; omega), List.set_append_right _ _ (by rw [length_putB]; omega), length_putB, e, e2]
  rfl

set_option maxHeartbeats 2000000 in
set_option maxRecDepth 100000 in
theorem RefFrame_any (p : Pt) (A : Option Addr) (n c : Nat) (w : World) (B : Nat) (hp : p.OK) (hr : RB w B A n p.d) (hB : B ≤ w.heap.size) (hn : n ≤ 140737488355328) :
    Calls Try.prog 24 #[.agg #[.int .u8 p.k, .int .u64 p.id, .int .i64 p.ix, .int .i64 p.ct, .slice A n c]] w (RetBE w (frmE p) p.chk) := by
  have HL := Lib.hid hr.len
  have HR := Lib.hid hr
  have HCK := Lib.hid (show ∀ w, Calls Try.prog 22 #[.agg #[.int .u8 p.k, .int .u64 p.id, .int .i64 p.ix, .int .i64 p.ct, .slice A n c]] w (fun e w' => e = .returned (.int .i64 p.chk) ∧ Below w.heap.size w w') from fun w => by
    rw [show p.chk = chk p.k p.id p.ix p.ct n by unfold Pt.chk; rw [hr.len]]
    exact RefPCheck_any p.k p.id p.ix p.ct A n c w hp.k hn)
  have hpb := Lib.hid (PBlk.new w p (.slice A n c))
  have hb0 := Lib.hid ((Below.refl w.heap.size w).alloc (Nat.le_refl _) (.cells (pcell p (.slice A n c)).toArray 47))
  have HCC := Lib.hid (chk_cases p)
  have HOK := Lib.hid (fun h : p.chk = 0 => chk_ok h)
  have HFE := Lib.hid (show frmE p = if p.chk = 0 then frmL p else [] from rfl)
  have HPO := Lib.hid hp
  clear hr hp
  generalize frmE p = fe at *
  generalize p.chk = ck at *
  go_enter Try.func24, Try.ntmps24
  go_wp2_with fail
  refine (HCK.out _).mono ?_
  rintro e w1 ⟨rfl, hb⟩
  have hsz0 : w.heap.size < (w.alloc (.cells (pcell p (.slice A n c)).toArray 47)).heap.size := by simp
  have HP1 := Lib.hid (hpb.out.below hb hsz0)
  have HB1 := Lib.hid (hb0.out.trans (hb.mono (Nat.le_of_lt hsz0)))
  have hz1 : w.heap.size < w1.heap.size := HP1.out.lt
  clear hb hpb hb0 hsz0
  by_cases h0 : ck = 0
  · subst h0
    obtain ⟨⟨k1, k2⟩, d1, ⟨c1, c2⟩, x1, x2⟩ := HOK.out rfl
    have HFE' := Lib.hid (show fe = frmL p by rw [HFE.out, if_pos rfl])
    obtain ⟨⟨q1, q2⟩, ⟨i1, i2⟩, _, _⟩ := HPO.out
    obtain ⟨v, hvt⟩ : ∃ v, p.id.toNat = v := ⟨_, rfl⟩
    have hv64 : v < 18446744073709551616 := by omega
    have HID := Lib.hid hvt
    have HV := Lib.hid (show p.id = (v : Int) by omega)
    have hn450 : n ≤ 450 := by have := HL.out; omega
    clear HCC HOK HFE hvt
    go_wp2_with (at_make; refine wl_makeB TB rfl (.const (.int .i64 480)) (.const (.int .i64 480)) rfl .i64 .i64 _ _ rfl rfl 480 rfl rfl (by omega) w1.heap.size (Nat.le_refl _) ?m5)
    case m5 =>
      intro w4 hown hg hlt
      have hbb : Below w1.heap.size w1 w4 := (Below.refl _ _).grown hg (Nat.le_refl _) (by simp)
      have HO4 := Lib.hid hown
      have HP4 := Lib.hid (HP1.out.below hbb HP1.out.lt)
      have HB4 := Lib.hid (HB1.out.trans (hbb.mono (by omega)))
      clear hown hg hbb HP1 HB1
      generalize hgg : w1.heap.size = g at *
      generalize hbg : w.heap.size = b at *
      have HBG := Lib.hid hbg
      clear hgg hbg
      have q0 := HP4.out.c0
      have q2' := HP4.out.c2
      have q3 := HP4.out.c3
      obtain ⟨u16, e16⟩ : ∃ u, (bv (zs 480))[16]? = some u := ⟨_, List.getElem?_eq_getElem (by rw [length_bv, length_zs]; omega)⟩
      obtain ⟨u17, e17⟩ : ∃ u, (bv (zs 480))[17]? = some u := ⟨_, List.getElem?_eq_getElem (by rw [length_bv, length_zs]; omega)⟩
      obtain ⟨u18, e18⟩ : ∃ u, (bv (zs 480))[18]? = some u := ⟨_, List.getElem?_eq_getElem (by rw [length_bv, length_zs]; omega)⟩
      have r16 := (HO4.out.cellAt 16 (by omega)).trans e16
      have r17 := (HO4.out.cellAt 17 (by omega)).trans e17
      have r18 := (HO4.out.cellAt 18 (by omega)).trans e18
      have f16 := HO4.out.frozenAt 16
      have f17 := HO4.out.frozenAt 17
      have f18 := HO4.out.frozenAt 18
      have hne : ¬ b = g := by omega
      have hne' : ¬ g = b := by omega
      clear e16 e17 e18
      have hi16 : p.ix < 256 := by omega
      have hc16 : p.ct < 256 := by omega
      have hw5 : (((w4.setCell ⟨g, 16, none⟩ (.int .u8 p.k)).setCell ⟨g, 17, none⟩ (.int .u8 p.ix)).setCell ⟨g, 18, none⟩ (.int .u8 p.ct)).ownsRow g 5 1 (.slice (some ⟨g, 0, none⟩) 480 480) 480 (bv (frmH p ++ zs 460)) := by
        have h := (((HO4.out.stored 16 (.int .u8 p.k)).1.stored 17 (.int .u8 p.ix)).1.stored 18 (.int .u8 p.ct)).1
        rw [bv_set8 _ 16 ⟨q1, q2⟩, bv_set8 _ 17 ⟨x1, hi16⟩, bv_set8 _ 18 ⟨by omega, hc16⟩] at h
        rw [zs_head] at h
        exact h
      have HW5 := Lib.hid hw5
      have hg5 : w4.grownBy (((w4.setCell ⟨g, 16, none⟩ (.int .u8 p.k)).setCell ⟨g, 17, none⟩ (.int .u8 p.ix)).setCell ⟨g, 18, none⟩ (.int .u8 p.ct)) (some g) := (grown_setCell w4 g 16 _).trans ((grown_setCell _ g 17 _).trans (grown_setCell _ g 18 _))
      have HP5 := Lib.hid (HP4.out.grown hg5 (by simp; omega))
      have HB5 := Lib.hid (HB4.out.grown hg5 (by omega) (fun q hq => by injection hq with hq; omega))
      have hs5 : g < (((w4.setCell ⟨g, 16, none⟩ (.int .u8 p.k)).setCell ⟨g, 17, none⟩ (.int .u8 p.ix)).setCell ⟨g, 18, none⟩ (.int .u8 p.ct)).heap.size := (HW5.out.lt g rfl).2
      clear hw5 hg5 HO4 HP4 HB4
      go_wp2_with fail
      generalize (((w4.setCell ⟨g, 16, none⟩ (.int .u8 p.k)).setCell ⟨g, 17, none⟩ (.int .u8 p.ix)).setCell ⟨g, 18, none⟩ (.int .u8 p.ct)) = w5 at *
      clear q0 q2' q3 r16 r17 r18 f16 f17 f18
      go_loopw [6] (fun i wr => ∃ k : Nat, k ≤ 8 ∧ i = .int .i64 (k : Int) ∧ wr.ownsRow g 5 1 (.slice (some ⟨g, 0, none⟩) 480 480) 480 (bv (frmH p ++ ((putB 2 8 v).take k ++ zs (460 - k)))) ∧ PBlk wr b p (.slice A n c) ∧ Below b w wr) (fun i _ => 8 - (intOf i).toNat)
      case atStart => exact ⟨0, by omega, rfl, HW5.out, HP5.out, HB5.out⟩
      case round =>
        obtain ⟨k, hk, rfl, ho, hpk, hb⟩ := hrel
        have HO := Lib.hid ho
        have HP := Lib.hid hpk
        have HB := Lib.hid hb
        have hgw := (ho.lt g rfl).2
        clear ho hpk hb HW5 HP5 HB5 hs5
        by_cases hlt8 : k < 8
        · have hq1 := HP.out.c1
          rw [HV.out] at hq1
          obtain ⟨u, eu⟩ : ∃ u, (bv (frmH p ++ ((putB 2 8 v).take k ++ zs (460 - k))))[20 + k]? = some u := ⟨_, List.getElem?_eq_getElem (by rw [length_bv]; simp only [List.length_append, length_frmH, List.length_take, length_putB, length_zs]; omega)⟩
          have r := (HO.out.cellAt (20 + k) (by omega)).trans eu
          have fz := HO.out.frozenAt (20 + k)
          have HIS := Lib.hid (id_step p (v := v) hlt8)
          have HST := Lib.hid (HO.out.stored (20 + k) (.int .u8 ((pc v (7 - k)).toNat : Int)))
          have i0 : (0 : Int) ≤ 20 + (k : Int) := by omega
          have i1 : 20 + (k : Int) < 480 := by omega
          have e2 : (20 + (k : Int)).toNat = 20 + k := by omega
          clear eu
          go_wp2_with fail
          have e5 : (v : Int) / 2 ^ (56 - 8 * k) % 256 = ((pc v (7 - k)).toNat : Int) := by
            rw [show 56 - 8 * k = 8 * (7 - k) by omega]
            exact piece_wrap v (7 - k)
          rw [e5]
          refine ⟨⟨k + 1, by omega, by go_num, ?_, HP.out.grown (grown_setCell _ g _ _) (by simp; omega), HB.out.setCell (by show b ≤ g; omega) _⟩, by simp [intOf]; omega⟩
          have h := HST.out.1
          rw [bv_store, HIS.out] at h
          exact h
        · obtain rfl : k = 8 := by omega
          have hfin := HO.out
          rw [List.take_of_length_le (by rw [length_putB]; exact Nat.le_refl _), show 460 - 8 = 452 from rfl] at hfin
          have HF := Lib.hid hfin
          have hq4 := HP.out.c4
          obtain ⟨u28, e28⟩ : ∃ u, (bv (frmH p ++ (putB 2 8 v ++ zs 452)))[28]? = some u := ⟨_, List.getElem?_eq_getElem (by rw [length_bv]; simp only [List.length_append, length_frmH, length_putB, length_zs]; omega)⟩
          obtain ⟨u29, e29⟩ : ∃ u, (bv (frmH p ++ (putB 2 8 v ++ zs 452)))[29]? = some u := ⟨_, List.getElem?_eq_getElem (by rw [length_bv]; simp only [List.length_append, length_frmH, length_putB, length_zs]; omega)⟩
          have r28 := (HF.out.cellAt 28 (by omega)).trans e28
          have r29 := (HF.out.cellAt 29 (by omega)).trans e29
          have f28 := HF.out.frozenAt 28
          have f29 := HF.out.frozenAt 29
          have t1 : (n : Int).tdiv 256 = (n : Int) / 256 := Int.tdiv_eq_ediv_of_nonneg (by omega)
          have t2 : (n : Int).tmod 256 = (n : Int) % 256 := Int.tmod_eq_emod_of_nonneg (by omega)
          have t3 : 0 ≤ (n : Int) / 256 := by omega
          have t4 : (n : Int) / 256 < 256 := by omega
          have t5 : 0 ≤ (n : Int) % 256 := by omega
          have t6 : (n : Int) % 256 < 256 := by omega
          clear hfin e28 e29 HO
          have hw6 : ((wr.setCell ⟨g, 28, none⟩ (.int .u8 ((n : Int) / 256))).setCell ⟨g, 29, none⟩ (.int .u8 ((n : Int) % 256))).ownsRow g 5 1 (.slice (some ⟨g, 0, none⟩) 480 480) 480 (bv (frmH p ++ (putB 2 8 v ++ (putB 2 2 n ++ zs 450)))) := by
            have h := ((HF.out.stored 28 (.int .u8 ((n : Int) / 256))).1.stored 29 (.int .u8 ((n : Int) % 256))).1
            rw [show (n : Int) / 256 = ((pc n 1).toNat : Int) by rw [pc_nat]; omega, show (n : Int) % 256 = ((pc n 0).toNat : Int) by rw [pc_nat]; omega, bv_store, bv_store, len_step] at h
            rw [show (n : Int) / 256 = ((pc n 1).toNat : Int) by rw [pc_nat]; omega, show (n : Int) % 256 = ((pc n 0).toNat : Int) by rw [pc_nat]; omega]
            exact h
          have hg6 : wr.grownBy ((wr.setCell ⟨g, 28, none⟩ (.int .u8 ((n : Int) / 256))).setCell ⟨g, 29, none⟩ (.int .u8 ((n : Int) % 256))) (some g) := (grown_setCell wr g 28 _).trans (grown_setCell _ g 29 _)
          have HP6 := Lib.hid (HP.out.grown hg6 (by simp; omega))
          have hszr : g < ((wr.setCell ⟨g, 28, none⟩ (.int .u8 ((n : Int) / 256))).setCell ⟨g, 29, none⟩ (.int .u8 ((n : Int) % 256))).heap.size := (hw6.lt g rfl).2
          have HB6 := Lib.hid (HB.out.grown hg6 (by omega) (fun q hq => by injection hq with hq; omega))
          have hq6 := HP6.out.c4
          have HW6 := Lib.hid hw6
          clear hw6 hg6 HF HP HB
          go_wp2_with fail
          obtain ⟨w6, hw6⟩ : ∃ w6, ((wr.setCell ⟨g, 28, none⟩ (.int .u8 ((n : Int) / 256))).setCell ⟨g, 29, none⟩ (.int .u8 ((n : Int) % 256))) = w6 := ⟨_, rfl⟩
          rw [hw6] at HW6 HP6 HB6 hszr hq6 ⊢
          clear hw6 r28 r29 f28 f29 hq4
          rw [show putB 2 2 n = putB 2 2 p.d.length by rw [HL.out], ← HID.out] at HW6
          have HW6d := Lib.hid (show w6.drew.ownsRow g 5 1 (.slice (some ⟨g, 0, none⟩) 480 480) 480 (bv (frmH p ++ (putB 2 8 p.id.toNat ++ (putB 2 2 p.d.length ++ zs 450)))) from HW6.out)
          have hs30 : 30 + n ≤ 480 := by omega
          have hb7 : b ≤ w6.drew.heap.size := by show b ≤ w6.heap.size; omega
          have hbg3 : b ≤ g := by omega
          go_still_tail 4, (by kernel_rfl)
          change wpList _ _ _ _ _ (World.drew _)
          go_wp2_with (with_reducible refine wl_copyAt TB rfl (.tmp 57) (.tmp 59) rfl g 30 450 450 rfl A n c rfl g 480 _ HW6d.out hs30 hn450 B (bv p.d) ?k4 (bv_one _) ?k5)
          case k4 => exact (HR.out.below (HB6.out.mono hB)).drew
          case k5 =>
            intro w8 hown hg8
            rw [bv_splice, ← HL.out, frm_data p d1] at hown
            have HW8 := Lib.hid hown
            have HB8 := Lib.hid (HB6.out.drew.grown hg8 hb7 (fun q hq => by injection hq with hq; omega))
            clear hown hg8
            go_wp2_with fail
            go_ret2
            rw [HFE'.out]
            refine ⟨_, 480, 480, rfl, length_frmL p d1, ?_, ?_⟩
            · rw [HBG.out]
              exact own_base HW8.out hbg3
            · rw [HBG.out]
              exact HB8.out
  · have HFE' := Lib.hid (show fe = [] by rw [HFE.out, if_neg h0])
    rcases HCC.out with rfl | rfl | rfl | rfl
    · exact absurd rfl h0
    · clear h0
      go_wp2_with fail
      go_ret2
      rw [HFE'.out]
      exact ⟨none, 0, 0, rfl, rfl, World.ownsRow_nil _ _ _ _, HB1.out⟩
    · clear h0
      go_wp2_with fail
      go_ret2
      rw [HFE'.out]
      exact ⟨none, 0, 0, rfl, rfl, World.ownsRow_nil _ _ _ _, HB1.out⟩
    · clear h0
      go_wp2_with fail
      go_ret2
      rw [HFE'.out]
      exact ⟨none, 0, 0, rfl, rfl, World.ownsRow_nil _ _ _ _, HB1.out⟩
end Go.Proofs.Ytgdelilanackhaa
