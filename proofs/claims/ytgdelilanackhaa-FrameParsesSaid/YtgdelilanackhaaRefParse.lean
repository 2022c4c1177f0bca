/-
  Contract of shallotref11.Parse: the same part, or error's number, as the program's. Conditions: the sizes that slices can have.
-/
import Derived.Test.YtgdelilanackhaaFrmBack
import Derived.Test.YtgdelilanackhaaRefFrame
import Derived.BigQuiet
namespace Go.Proofs.Ytgdelilanackhaa
open Go Go.RowKit Go.Sh

/-- the number that k bytes from place 20 on are, the first the greatest -/
def idTo (l : List UInt8) : Nat → Nat
  | 0 => 0
  | k + 1 => idTo l k * 256 + by8 l (20 + k)
theorem idTo_val (l : List UInt8) : ∀ k, k ≤ 8 → idTo l k = val (fun j => by8 l (20 + k - 1 - j)) k
  | 0, _ => rfl
  | k + 1, h => by
    rw [idTo, idTo_val l k (by omega), val_shift]
    have e : val (fun j => by8 l (20 + (k + 1) - 1 - (j + 1))) k = val (fun j => by8 l (20 + k - 1 - j)) k := val_congr k (fun j hj => by congr 1; omega)
    rw [e, show 20 + (k + 1) - 1 - 0 = 20 + k by omega]
    omega
theorem idTo_8 (l : List UInt8) : idTo l 8 = parI l := by
  rw [idTo_val l 8 (by omega), parI, dig_two]
theorem idTo_lt (l : List UInt8) (k : Nat) : idTo l k < 256 ^ k := by
  induction k with
  | zero => simp [idTo]
  | succ k ih =>
    have := by8_lt l (20 + k)
    rw [idTo, Nat.pow_succ]
    omega
theorem parS_eq (l : List UInt8) : (parS l : Int) = bt l 28 * 256 + bt l 29 := by
  rw [parS, dig_two, bt_by8, bt_by8]
  simp [val]
  omega
/-- the part so far -/
def prQ (l : List UInt8) (k : Nat) : Pt := ⟨bt l 16, (idTo l k : Int), bt l 17, bt l 18, []⟩

set_option maxHeartbeats 4000000 in
set_option maxRecDepth 100000 in
theorem RefParse_any (A : Option Addr) (n c : Nat) (l : List UInt8) (w : World) (B : Nat) (hr : RB w B A n l) (hB : B ≤ w.heap.size) (hn : n ≤ 140737488355328) (hc : n ≤ c) :
    Calls Try.prog 27 #[.slice A n c] w (RetPt w (parP l) (parE l)) := by
  have HL := Lib.hid hr.len
  have HR := Lib.hid hr
  clear hr
  have HZB := Lib.hid (PBlk.new w zp (.slice none 0 0))
  have HB0 := Lib.hid ((Below.refl w.heap.size w).alloc (Nat.le_refl _) (.cells (pcell zp (.slice none 0 0)).toArray 47))
  have HPE := Lib.hid (show parP l = if parE l = 0 then parQ l else zp from rfl)
  have hbad : ∀ er : Int, parE l = er → er ≠ 0 → RetPt w (parP l) (parE l) (.returned (.tuple #[.agg (pcell zp (.slice none 0 0)).toArray, .int .i64 er])) (w.alloc (.cells (pcell zp (.slice none 0 0)).toArray 47)) := by
    intro er h1 h2
    rw [parP, h1, if_neg h2]
    exact ⟨none, 0, 0, rfl, World.ownsRow_nil _ _ _ _, HB0.out⟩
  have HBAD := Lib.hid hbad
  clear hbad
  by_cases h480 : n = 480
  · subst h480
    have HAZ := Lib.hid (allZ_iff (l := l.take 16))
    have HE7 := Lib.hid (show allZ (l.take 16) = false → parE l = 7 from fun h => by rw [parE, if_neg (by rw [HL.out]; decide), if_pos h])
    have HBT := Lib.hid (show ∀ k, k < 16 → bt (l.take 16) k = bt l k from fun k hk => by simp [bt, hk])
    have HTL := Lib.hid (show (l.take 16).length = 16 from by rw [List.length_take, HL.out]; rfl)
    go_enter Try.func27, Try.ntmps27
    go_wp2_with fail
    obtain ⟨w1, hw1⟩ : ∃ w1, w.alloc (.cells #[.int .u8 0, .int .u64 0, .int .i64 0, .int .i64 0, .slice none 0 0] 47) = w1 := ⟨_, rfl⟩
    have HB1 := Lib.hid (show Below w.heap.size w w1 from by rw [← hw1]; exact HB0.out)
    have HP1 := Lib.hid (show PBlk w1 w.heap.size zp (.slice none 0 0) from by rw [← hw1]; exact HZB.out)
    have HBD1 := Lib.hid (show ∀ er : Int, parE l = er → er ≠ 0 → RetPt w (parP l) (parE l) (.returned (.tuple #[.agg (pcell zp (.slice none 0 0)).toArray, .int .i64 er])) w1 from by rw [← hw1]; exact HBAD.out)
    have hz1 : w.heap.size < w1.heap.size := HP1.out.lt
    rw [hw1]
    clear hw1 HBAD HZB HB0
    generalize hg0 : w.heap.size = g0 at *
    have HG0 := Lib.hid hg0
    clear hg0
    go_loop [4] (fun i => ∃ k : Nat, k ≤ 16 ∧ i = .int .i64 (k : Int) ∧ ∀ j, j < k → bt l j = 0) (fun i => 16 - (intOf i).toNat)
    case atStart => exact ⟨0, by omega, rfl, fun j hj => absurd hj (by omega)⟩
    case round =>
      obtain ⟨k, hk, rfl, hall⟩ := hrel
      have HA := Lib.hid hall
      clear hall
      by_cases hlt : k < 16
      · obtain ⟨ad, rfl, hab, hc0⟩ := (HR.out.below (HB1.out.mono hB)).at_ (k := k) (by omega)
        by_cases h0 : bt l k = 0
        · have hb : (bt l k != 0) = false := by simp [h0]
          have H0 := Lib.hid h0
          clear h0
          go_wp2_with fail
          refine ⟨⟨k + 1, by omega, by go_num, fun j hj => ?_⟩, by simp [intOf]; omega⟩
          by_cases hjk : j < k
          · exact HA.out j hjk
          · obtain rfl : j = k := by omega
            exact H0.out
        · have hb : (bt l k != 0) = true := by rw [bne_iff_ne]; exact h0
          have hz : allZ (l.take 16) = false := by
            cases hz : allZ (l.take 16) with
            | false => rfl
            | true => exact absurd ((HBT.out k hlt).symm.trans (HAZ.out.1 hz k (by rw [HTL.out]; exact hlt))) h0
          have HE := Lib.hid (HE7.out hz)
          clear h0 hz
          go_wp2_with (refine wl_store_blk rfl 47 (.tmp 2) (.tmp 23) rfl g0 0 (pcell zp (.slice none 0 0)).toArray rfl rfl (pcell zp (.slice none 0 0)).toArray 47 HP1.out (Nat.le_refl 5) infoP (pcell_one _ _ _ _) ?_)
          refine bodyPost_ret (v := .tuple #[.agg (pcell zp (.slice none 0 0)).toArray, .int .i64 7]) (part_results (by rfl) _ _ g0 zp none 0 0 (PBlk.store HP1.out _ _) _ (by rfl) (by rfl)) rfl ?_
          rw [HPE.out, HE.out, if_neg (by decide)]
          refine ⟨none, 0, 0, rfl, World.ownsRow_nil _ _ _ _, ?_⟩
          rw [HG0.out]
          exact below_setRow HB1.out (Nat.le_refl _) _
      · obtain rfl : k = 16 := by omega
        have hz : allZ (l.take 16) = true := HAZ.out.2 (fun j hj => by rw [HTL.out] at hj; rw [HBT.out j hj]; exact HA.out j hj)
        have hz0 : ¬ allZ (l.take 16) = false := by rw [hz]; decide
        have HZ0 := Lib.hid hz0
        have HZ1 := Lib.hid hz
        obtain ⟨ad, rfl, hab, q16⟩ := HR.out.at_ (k := 16) (by omega)
        obtain ⟨_, hh, _, q17⟩ := HR.out.at_ (k := 17) (by omega)
        obtain rfl := Option.some.inj hh
        obtain ⟨_, hh, _, q18⟩ := HR.out.at_ (k := 18) (by omega)
        obtain rfl := Option.some.inj hh
        have hablt : ad.block < g0 := by omega
        have r16 : w1.cell? ⟨ad.block, ad.off + 16, none⟩ = some (.int .u8 (bt l 16)) := (HB1.out.cell (p := ad.add 16) (by rw [block_of_add]; exact hablt)).trans q16
        have r17 : w1.cell? ⟨ad.block, ad.off + 17, none⟩ = some (.int .u8 (bt l 17)) := (HB1.out.cell (p := ad.add 17) (by rw [block_of_add]; exact hablt)).trans q17
        have r18 : w1.cell? ⟨ad.block, ad.off + 18, none⟩ = some (.int .u8 (bt l 18)) := (HB1.out.cell (p := ad.add 18) (by rw [block_of_add]; exact hablt)).trans q18
        have KK := Lib.hid (show ∀ o : Obj, (w1.alloc o).drew.cell? ⟨ad.block, ad.off + 16, none⟩ = some (.int .u8 (bt l 16)) ∧ (w1.alloc o).drew.cell? ⟨ad.block, ad.off + 17, none⟩ = some (.int .u8 (bt l 17)) ∧ (w1.alloc o).drew.cell? ⟨ad.block, ad.off + 18, none⟩ = some (.int .u8 (bt l 18)) from fun o =>
            ⟨(((Below.refl w1.heap.size w1).alloc (Nat.le_refl _) o).drew.cell (p := ⟨ad.block, ad.off + 16, none⟩) (by show ad.block < _; omega)).trans r16, (((Below.refl w1.heap.size w1).alloc (Nat.le_refl _) o).drew.cell (p := ⟨ad.block, ad.off + 17, none⟩) (by show ad.block < _; omega)).trans r17, (((Below.refl w1.heap.size w1).alloc (Nat.le_refl _) o).drew.cell (p := ⟨ad.block, ad.off + 18, none⟩) (by show ad.block < _; omega)).trans r18⟩)
        have b16 := bt_lo l 16
        have b16' := bt_hi l 16
        have b17 := bt_lo l 17
        have b17' := bt_hi l 17
        have b18 := bt_lo l 18
        have b18' := bt_hi l 18
        clear hz hz0 q16 q17 q18 hh HA HAZ HE7 HBT HTL
        go_wp2_with fail
        go_region_held3 (fun w' => w'.cell? ⟨ad.block, ad.off + 16, none⟩ = some (.int .u8 (bt l 16)) ∧ w'.cell? ⟨ad.block, ad.off + 17, none⟩ = some (.int .u8 (bt l 17)) ∧ w'.cell? ⟨ad.block, ad.off + 18, none⟩ = some (.int .u8 (bt l 18))) (first | (exact ⟨r16, r17, r18⟩) | (exact KK.out _) | (go_keep; done)) (first | fail)
        have e17 : IntKind.i64.wrap (bt l 17) = bt l 17 := by rw [IntKind.wrap_i64]; omega
        have e18 : IntKind.i64.wrap (bt l 18) = bt l 18 := by rw [IntKind.wrap_i64]; omega
        rw [e17, e18]
        obtain ⟨w2, hw2⟩ : ∃ w2, (w1.alloc (.cells #[.int .u8 (bt l 16), .int .u64 0, .int .i64 (bt l 17), .int .i64 (bt l 18), .slice none 0 0] 47)).drew = w2 := ⟨_, rfl⟩
        have hb2 : Below w1.heap.size w1 w2 := by rw [← hw2]; exact ((Below.refl _ _).alloc (Nat.le_refl _) _).drew
        have HP2 := Lib.hid (show PBlk w2 w1.heap.size (prQ l 0) (.slice none 0 0) from by rw [← hw2]; exact heap_alloc_new w1 _)
        have HP02 := Lib.hid (HP1.out.below hb2 hz1)
        have HB2 := Lib.hid (HB1.out.trans (hb2.mono (by omega)))
        rw [hw2]
        generalize hgp : w1.heap.size = gp at *
        clear e17 e18 hw2 hb2 r16 r17 r18 HP1 HB1 KK hgp HBD1
        have hgl := HP2.out.lt
        have d0 : w2.cell? ⟨gp, 0, none⟩ = some (.int .u8 (bt l 16)) := HP2.out.c0
        by_cases hk : bt l 16 < 1 ∨ 3 < bt l 16
        · have HE := Lib.hid (show parE l = 1 by rw [parE, if_neg (by rw [HL.out]; decide), if_neg HZ0.out, if_pos hk])
          have hk' : bt l 16 < 1 ∨ (¬ bt l 16 < 1 ∧ 3 < bt l 16) := by omega
          have HEND := Lib.hid (show RetPt w (parP l) (parE l) (.returned (.tuple #[.agg (pcell zp (.slice none 0 0)).toArray, .int .i64 1])) (w2.setRow g0 ((pcell zp (.slice none 0 0)).toArray.toList.take 0 ++ (pcell zp (.slice none 0 0)).toArray.toList ++ (pcell zp (.slice none 0 0)).toArray.toList.drop (0 + (pcell zp (.slice none 0 0)).toArray.size)).toArray) from by
            rw [HPE.out, HE.out, if_neg (by decide)]
            refine ⟨none, 0, 0, rfl, World.ownsRow_nil _ _ _ _, ?_⟩
            rw [HG0.out]
            exact below_setRow HB2.out (Nat.le_refl _) _)
          generalize bt l 16 = kx at *
          clear hk
          rcases hk' with hk | ⟨hk1, hk⟩
          · go_wp2_with (refine wl_store_blk rfl 47 (.tmp 2) (.tmp 44) rfl g0 0 (pcell zp (.slice none 0 0)).toArray rfl rfl (pcell zp (.slice none 0 0)).toArray 47 HP02.out (Nat.le_refl 5) infoP (pcell_one _ _ _ _) ?_)
            exact bodyPost_ret (v := .tuple #[.agg (pcell zp (.slice none 0 0)).toArray, .int .i64 1]) (part_results (by rfl) _ _ g0 zp none 0 0 (PBlk.store HP02.out _ _) _ (by rfl) (by rfl)) rfl HEND.out
          · go_wp2_with (refine wl_store_blk rfl 47 (.tmp 2) (.tmp 44) rfl g0 0 (pcell zp (.slice none 0 0)).toArray rfl rfl (pcell zp (.slice none 0 0)).toArray 47 HP02.out (Nat.le_refl 5) infoP (pcell_one _ _ _ _) ?_)
            exact bodyPost_ret (v := .tuple #[.agg (pcell zp (.slice none 0 0)).toArray, .int .i64 1]) (part_results (by rfl) _ _ g0 zp none 0 0 (PBlk.store HP02.out _ _) _ (by rfl) (by rfl)) rfl HEND.out
        · have hk1 : ¬ bt l 16 < 1 := by omega
          have hk2 : ¬ 3 < bt l 16 := by omega
          go_wp2_with fail
          go_loopw [6] (fun i wr => ∃ q : Nat, q ≤ 8 ∧ i = .int .i64 ((20 + q : Nat) : Int) ∧ PBlk wr gp (prQ l q) (.slice none 0 0) ∧ PBlk wr g0 zp (.slice none 0 0) ∧ Below g0 w wr) (fun i _ => 28 - (intOf i).toNat)
          case atStart => exact ⟨0, by omega, rfl, HP2.out, HP02.out, HB2.out⟩
          case round =>
            obtain ⟨q, hq, rfl, hp, hp0, hb⟩ := hrel
            have HP := Lib.hid hp
            have HP0 := Lib.hid hp0
            have HBq := Lib.hid hb
            have hszq := hp.lt
            clear hp hp0 hb HP2 HP02 HB2 d0 hgl
            by_cases hlt8 : q < 8
            · obtain ⟨_, hh, _, q20⟩ := HR.out.at_ (k := 20 + q) (by omega)
              obtain rfl := Option.some.inj hh
              have r20 := (HBq.out.cell (p := ad.add (20 + q)) (by rw [block_of_add]; exact hablt)).trans q20
              have d1 : wr.cell? ⟨gp, 1, none⟩ = some (.int .u64 (idTo l q : Int)) := HP.out.c1
              have f1 : wr.frozen? ⟨gp, 1, none⟩ = false := frozen_of_row _ _ 1 _ _ HP.out
              have hid1 := idTo_lt l q
              have hpw : 256 ^ q ≤ 256 ^ 7 := Nat.pow_le_pow_right (by decide) (by omega)
              have hid2 : idTo l q * 256 < 18446744073709551616 - 255 := by
                have : (256 : Nat) ^ 7 * 256 = 18446744073709551616 := by decide
                have h2 : idTo l q + 1 ≤ 256 ^ 7 := by omega
                omega
              have bx := bt_lo l (20 + q)
              have bx' := bt_hi l (20 + q)
              have HST := Lib.hid (show idTo l (q + 1) = idTo l q * 256 + by8 l (20 + q) from rfl)
              have HBY := Lib.hid (bt_by8 l (20 + q))
              clear hid1 hpw q20 hh
              generalize idTo l q = iq at *
              have i0 : (0 : Int) ≤ 20 + (q : Int) := by omega
              have i1 : 20 + (q : Int) < 480 := by omega
              have e2 : (20 + (q : Int)).toNat = 20 + q := by omega
              have hm1 : 0 ≤ (iq : Int) * 256 := by omega
              have hm2 : (iq : Int) * 256 < 18446744073709551616 - 255 := by omega
              have hm3 : (iq : Int) * 256 + bt l (20 + q) < 18446744073709551616 := by omega
              have v1 : IntKind.u64.wrap ((iq : Int) * 256) = (iq : Int) * 256 := by rw [IntKind.wrap_u64]; omega
              have v2 : IntKind.u64.wrap ((iq : Int) * 256 + bt l (20 + q)) = (iq : Int) * 256 + bt l (20 + q) := by rw [IntKind.wrap_u64]; omega
              clear hid2 hm2 hm3
              go_wp2_with fail
              go_still_tail 10, (by kernel_rfl)
              change wpList _ _ _ _ _ (World.drew _)
              go_wp2
              have e9 : (iq : Int) * 256 + bt l (20 + q) = ((idTo l (q + 1) : Nat) : Int) := by
                rw [HST.out, HBY.out]
                omega
              rw [e9]
              refine ⟨⟨q + 1, by omega, by rw [show ((20 + (q + 1) : Nat) : Int) = 20 + (q : Int) + 1 by omega], ?_, (show PBlk (wr.setCell ⟨gp, 1, none⟩ (.int .u64 ((idTo l (q + 1) : Nat) : Int))) g0 zp (.slice none 0 0) from HP0.out.grown (grown_setCell wr gp 1 _) (by simp; omega)), (HBq.out.setCell (by show g0 ≤ gp; omega) _).drew⟩, by simp [intOf]; omega⟩
              show (wr.setCell ⟨gp, 1, none⟩ (.int .u64 ((idTo l (q + 1) : Nat) : Int))).heap[gp]? = _
              rw [blk_set HP.out]
              rfl
            · obtain rfl : q = 8 := by omega
              obtain ⟨_, hh, _, q28⟩ := HR.out.at_ (k := 28) (by omega)
              obtain rfl := Option.some.inj hh
              obtain ⟨_, hh, _, q29⟩ := HR.out.at_ (k := 29) (by omega)
              obtain rfl := Option.some.inj hh
              have r28 : wr.cell? ⟨ad.block, ad.off + 28, none⟩ = some (.int .u8 (bt l 28)) := (HBq.out.cell (p := ad.add 28) (by rw [block_of_add]; exact hablt)).trans q28
              have r29 : wr.cell? ⟨ad.block, ad.off + 29, none⟩ = some (.int .u8 (bt l 29)) := (HBq.out.cell (p := ad.add 29) (by rw [block_of_add]; exact hablt)).trans q29
              have b28 := bt_lo l 28
              have b28' := bt_hi l 28
              have b29 := bt_lo l 29
              have b29' := bt_hi l 29
              have HSE := Lib.hid (parS_eq l)
              have v0 : IntKind.i64.wrap (bt l 28) = bt l 28 := by rw [IntKind.wrap_i64]; omega
              have v1 : IntKind.i64.wrap (bt l 28 * 256) = bt l 28 * 256 := by rw [IntKind.wrap_i64]; omega
              have v2 : IntKind.i64.wrap (bt l 29) = bt l 29 := by rw [IntKind.wrap_i64]; omega
              have v3 : IntKind.i64.wrap (bt l 28 * 256 + bt l 29) = bt l 28 * 256 + bt l 29 := by rw [IntKind.wrap_i64]; omega
              clear q28 q29 hh
              go_wp2_with fail
              go_quiet (fail)
              rw [← HSE.out]
              have HPw := Lib.hid (show PBlk (wr.drewN nq) gp ⟨bt l 16, (parI l : Int), bt l 17, bt l 18, []⟩ (.slice none 0 0) from by
                have h := HP.out
                unfold prQ at h
                rw [idTo_8] at h
                exact h)
              have HP0w := Lib.hid (show PBlk (wr.drewN nq) g0 zp (.slice none 0 0) from HP0.out)
              have HBw := Lib.hid (below_drewN HBq.out nq)
              have hszw : gp < (wr.drewN nq).heap.size := hszq
              have HBE := Lib.hid (show ∀ w', Below g0 w w' → parE l = 3 → RetPt w (parP l) (parE l) (.returned (.tuple #[.agg (pcell zp (.slice none 0 0)).toArray, .int .i64 3])) w' from fun w' hb he => by
                rw [HPE.out, he, if_neg (by decide)]
                exact ⟨none, 0, 0, rfl, World.ownsRow_nil _ _ _ _, by rw [HG0.out]; exact hb⟩)
              have HEX := Lib.hid (show parE l = if bt l 19 ≠ 0 ∨ 450 < parS l then 3 else if (parQ l).chk ≠ 0 ∨ allZ (l.drop (30 + parS l)) = false then 3 else 0 by rw [parE, if_neg (by rw [HL.out]; decide), if_neg HZ0.out, if_neg hk])
              clear HP HP0 HBq hszq r28 r29 v0 v1 v2 v3 HSE
              generalize wr.drewN nq = wq at *
              by_cases hS : 450 < parS l
              · have hS' : (450 : Int) < (parS l : Int) := by omega
                have HE := Lib.hid (show parE l = 3 by rw [HEX.out, if_pos (Or.inr hS)])
                clear hS
                go_wp2_with (refine wl_store_blk rfl 47 (.tmp 2) (.tmp 71) rfl g0 0 (pcell zp (.slice none 0 0)).toArray rfl rfl (pcell zp (.slice none 0 0)).toArray 47 HP0w.out (Nat.le_refl 5) infoP (pcell_one _ _ _ _) ?_)
                exact bodyPost_ret (v := .tuple #[.agg (pcell zp (.slice none 0 0)).toArray, .int .i64 3]) (part_results (by rfl) _ _ g0 zp none 0 0 (PBlk.store HP0w.out _ _) _ (by rfl) (by rfl)) rfl (HBE.out _ (below_setRow HBw.out (Nat.le_refl _) _) HE.out)
              · have hS' : ¬ (450 : Int) < (parS l : Int) := by omega
                have hS2 : parS l ≤ 450 := by omega
                have HBK := Lib.hid (frm_back HL.out HZ1.out hS2)
                have HD := Lib.hid (show ((l.drop 30).take (parS l)).length = parS l by rw [List.length_take, List.length_drop, HL.out]; omega)
                have HOK := Lib.hid (show (parQ l).OK from ⟨⟨b16, by show bt l 16 < 256; omega⟩, ⟨by show (0 : Int) ≤ (parI l : Int); omega, by have := parI_lt l; show (parI l : Int) < 18446744073709551616; omega⟩, ⟨by show -9223372036854775808 ≤ bt l 17; omega, by show bt l 17 ≤ 9223372036854775807; omega⟩, ⟨by show -9223372036854775808 ≤ bt l 18; omega, by show bt l 18 ≤ 9223372036854775807; omega⟩⟩)
                have HHI := Lib.hid (show (30 : Int) + (parS l : Int) = ((30 + parS l : Nat) : Int) by omega)
                clear hS
                go_wp2_with (refine wl_sliceB TB rfl (.tmp 72) (.const (.int .i64 30)) (.tmp 74) rfl (some ad) 480 c rfl .i64 .i64 _ _ rfl rfl 30 (parS l) rfl HHI.out B l (HR.out.below (HBw.out.mono hB)) (by omega) hc ?_; intro A5 hr5)
                refine (Copy_any A5 (parS l) _ _ wq B hr5 (by omega) (by omega)).mono ?_
                rintro e w3 ⟨g3, c3, rfl, ho3, hb3⟩
                have HO3 := Lib.hid ho3
                have HP3 := Lib.hid (HPw.out.below hb3 HPw.out.lt)
                have HP03 := Lib.hid (HP0w.out.below hb3 HP0w.out.lt)
                have HB3 := Lib.hid (HBw.out.trans (hb3.mono (by omega)))
                have hz3 := hb3.size
                have hc4 := HP3.out.c4
                have hf4 : w3.frozen? ⟨gp, 4, none⟩ = false := frozen_of_row _ _ 4 _ _ HP3.out
                have hg3 := (ho3.lt g3 rfl).1
                clear ho3 hb3 hr5 HPw HP0w HBw
                have HP4 := Lib.hid (show PBlk (w3.setCell ⟨gp, 4, none⟩ (.slice (some ⟨g3, 0, none⟩) (parS l) c3)) gp (parQ l) (.slice (some ⟨g3, 0, none⟩) (parS l) c3) from by
                  unfold PBlk
                  rw [blk_set HP3.out]
                  rfl)
                have hg4 := grown_setCell w3 gp 4 (.slice (some ⟨g3, 0, none⟩) (parS l) c3)
                have HP04 := Lib.hid (HP03.out.grown hg4 (by simp; omega))
                have HO4 := Lib.hid (HO3.out.kept hg4 (far_own HO3.out (by omega)))
                have HB4 := Lib.hid (HB3.out.grown hg4 (by omega) (fun q hq => by injection hq with hq; omega))
                have hz4 := hg4.size
                clear hg4 HP3 HP03 HB3 HO3
                have HFR := Lib.hid (fun w B hr hB => RefFrame_any (parQ l) (some ⟨g3, 0, none⟩) (parS l) c3 w B HOK.out hr hB (by omega))
                have HFE := Lib.hid (show frmE (parQ l) = if (parQ l).chk = 0 then frmL (parQ l) else [] from rfl)
                have HCC := Lib.hid (chk_cases (parQ l))
                have HF4 := Lib.hid (show (parQ l).chk = 0 → (frmL (parQ l)).length = 480 from fun h => length_frmL _ (chk_ok h).2.1)
                go_wp2_with (refine wl_load_mid rfl 47 (.tmp 5) rfl gp 0 rfl (pcell (parQ l) (.slice (some ⟨g3, 0, none⟩) (parS l) c3)) _ (blk_range HP4.out) Try.underlying47 rfl infoP ?_)
                generalize frmE (parQ l) = fe at *
                generalize (parQ l).chk = ck at *
                refine (HFR.out _ _ (RB.of_own HO4.out) (Nat.le_refl _)).mono ?_
                rintro e w5 ⟨A6, n6, c6, rfl, hl6, ho6, hb6⟩
                have HO6 := Lib.hid ho6
                have HL6 := Lib.hid hl6
                have HP5 := Lib.hid (HP4.out.below hb6 HP4.out.lt)
                have HP05 := Lib.hid (HP04.out.below hb6 HP04.out.lt)
                have HO5 := Lib.hid (own_later HO4.out hb6)
                have HB5 := Lib.hid (HB4.out.trans (hb6.mono (by omega)))
                have hz5 := hb6.size
                clear ho6 hl6 hb6 HP4 HP04 HO4 HB4 HFR hc4 hf4
                by_cases hck : ck = 0
                · subst hck
                  have hfe : fe = frmL (parQ l) := by rw [HFE.out, if_pos rfl]
                  have hn6 : n6 ≤ 480 := by rw [← HL6.out, hfe, HF4.out rfl]; exact Nat.le_refl _
                  have HFQ := Lib.hid hfe
                  clear hfe
                  go_wp2_with fail
                  refine (Equal_any A6 (some ad) n6 480 c6 c fe l w5 _ B (RB.of_own HO6.out) (HR.out.below (HB5.out.mono hB)) (by omega)).mono ?_
                  rintro e w7 h7
                  obtain ⟨rfl, hb7⟩ := h7.below
                  have HP7 := Lib.hid (HP5.out.below hb7 HP5.out.lt)
                  have HP07 := Lib.hid (HP05.out.below hb7 HP05.out.lt)
                  have HO7 := Lib.hid (own_later HO5.out hb7)
                  have HB7 := Lib.hid (HB5.out.trans (hb7.mono (by omega)))
                  clear h7 hb7 HP5 HP05 HO5 HB5 HO6
                  by_cases hq : fe = l
                  · obtain ⟨h19, hzt⟩ := HBK.out.1 (HFQ.out.symm.trans hq)
                    have HE := Lib.hid (show parE l = 0 by rw [HEX.out, h19, hzt, if_neg (by omega), if_neg (by simp)])
                    rw [show decide (fe = l) = true from decide_eq_true hq]
                    clear hq h19 hzt
                    go_wp2_with (first | (refine wl_load_mid rfl 47 (.tmp 5) rfl gp 0 rfl (pcell (parQ l) (.slice (some ⟨g3, 0, none⟩) (parS l) c3)) _ (blk_range HP7.out) Try.underlying47 rfl infoP ?_) | (refine wl_store_blk rfl 47 (.tmp 2) (.tmp 92) rfl g0 0 (pcell (parQ l) (.slice (some ⟨g3, 0, none⟩) (parS l) c3)).toArray rfl rfl (pcell zp (.slice none 0 0)).toArray 47 HP07.out (Nat.le_refl 5) infoP (pcell_one _ _ _ _) ?_))
                    refine bodyPost_ret (v := .tuple #[.agg (pcell (parQ l) (.slice (some ⟨g3, 0, none⟩) (parS l) c3)).toArray, .int .i64 0]) (part_results (by rfl) _ _ g0 (parQ l) (some ⟨g3, 0, none⟩) (parS l) c3 (PBlk.store HP07.out _ _) _ (by rfl) (by rfl)) rfl ?_
                    rw [HPE.out, HE.out, if_pos rfl]
                    refine ⟨_, parS l, c3, rfl, ?_, ?_⟩
                    · rw [HG0.out]
                      exact own_base (HO7.out.kept (grown_setRow w7 g0 _) (far_own HO7.out (by omega))) (by omega)
                    · rw [HG0.out]
                      exact below_setRow HB7.out (Nat.le_refl _) _
                  · have HE := Lib.hid (show parE l = 3 by
                      rw [HEX.out]
                      split
                      · rfl
                      · rename_i h
                        rw [if_pos]
                        right
                        cases hz : allZ (l.drop (30 + parS l)) with
                        | false => rfl
                        | true => exact absurd (HFQ.out.trans (HBK.out.2 ⟨by omega, hz⟩)) hq)
                    rw [show decide (fe = l) = false from decide_eq_false hq]
                    clear hq
                    go_wp2_with (refine wl_store_blk rfl 47 (.tmp 2) (.tmp 91) rfl g0 0 (pcell zp (.slice none 0 0)).toArray rfl rfl (pcell zp (.slice none 0 0)).toArray 47 HP07.out (Nat.le_refl 5) infoP (pcell_one _ _ _ _) ?_)
                    exact bodyPost_ret (v := .tuple #[.agg (pcell zp (.slice none 0 0)).toArray, .int .i64 3]) (part_results (by rfl) _ _ g0 zp none 0 0 (PBlk.store HP07.out _ _) _ (by rfl) (by rfl)) rfl (HBE.out _ (below_setRow HB7.out (Nat.le_refl _) _) HE.out)
                · have hck' : (ck != 0) = true := by rw [bne_iff_ne]; exact hck
                  have HE := Lib.hid (show parE l = 3 by
                    rw [HEX.out]
                    split
                    · rfl
                    · rw [if_pos (Or.inl hck)])
                  clear hck
                  go_wp2_with (refine wl_store_blk rfl 47 (.tmp 2) (.tmp 91) rfl g0 0 (pcell zp (.slice none 0 0)).toArray rfl rfl (pcell zp (.slice none 0 0)).toArray 47 HP05.out (Nat.le_refl 5) infoP (pcell_one _ _ _ _) ?_)
                  exact bodyPost_ret (v := .tuple #[.agg (pcell zp (.slice none 0 0)).toArray, .int .i64 3]) (part_results (by rfl) _ _ g0 zp none 0 0 (PBlk.store HP05.out _ _) _ (by rfl) (by rfl)) rfl (HBE.out _ (below_setRow HB5.out (Nat.le_refl _) _) HE.out)
  · have hne : ((n : Int) != 480) = true := by rw [bne_iff_ne]; omega
    have HE := Lib.hid (show parE l = 2 by rw [parE, if_pos (by rw [HL.out]; exact h480)])
    clear h480
    go_enter Try.func27, Try.ntmps27
    go_wp2_with fail
    exact bodyPost_ret (v := .tuple #[.agg (pcell zp (.slice none 0 0)).toArray, .int .i64 2]) (part_results (by rfl) _ _ w.heap.size zp none 0 0 HZB.out _ (by rfl) (by rfl)) rfl (HBAD.out 2 HE.out (by decide))
end Go.Proofs.Ytgdelilanackhaa
