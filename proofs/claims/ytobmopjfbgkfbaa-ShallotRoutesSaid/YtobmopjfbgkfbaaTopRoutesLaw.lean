/-
  The walk of shallottop.ShallotRoutes: for every directory, every list of stops and every kind the law returns true and writes nothing that was there. Conditions: the fields fit their types; the sizes that slices can have.
-/
import Derived.Test.YtobmopjfbgkfbaaRoutesPlain
import Derived.Test.YtobmopjfbgkfbaaCmdEq
namespace Go.Proofs.Ytobmopjfbgkfbaa
open Go Go.RowKit Go.Sh

theorem range_under {w w' : World} {B b o : Nat} {cs : List Value} (h : w.rangeAt b o cs) (hb : Below B w w') (hl : b < B) : w'.rangeAt b o cs := fun j v hv => (hb.cell (p := ⟨b, o + j, none⟩) hl).trans (h j v hv)
set_option maxRecDepth 100000 in
theorem last_built (k : Int) : Try.prog.built 68 [(0, .int .u8 k)] = some (lastC k).cells.toArray := by kernel_rfl
set_option maxRecDepth 100000 in
theorem node_lit : Try.prog.built 92 [] = some zHop.node.toArray := by kernel_rfl

set_option maxHeartbeats 8000000 in
set_option maxRecDepth 100000 in
theorem ShallotRoutes_walk (A : Option Addr) (n c : Nat) (ns : List Hp) (A' : Option Addr) (m c' : Nat) (ss : List Sp) (kd : Int) (w : World) (hr : RR w w.heap.size 66 A n (ns.map Hp.node)) (hok : ∀ h ∈ ns, h.OK) (hs : RR w w.heap.size 3 A' m (ss.map Sp.cells)) (hsk : ∀ s ∈ ss, s.OK) (hn : n * 88 ≤ 140737488355328) (hm : m ≤ 140737488355328) (hkd : 0 ≤ kd ∧ kd < 256) :
    Calls Try.prog 7 #[.slice A n c, .slice A' m c', .int .u8 kd] w (LawPost w) := by
  have HL := Lib.hid (show ns.length = n by rw [← hr.len, List.length_map])
  have HSL := Lib.hid (show ss.length = m by rw [← hs.len, List.length_map])
  have HR := Lib.hid hr
  have HOK := Lib.hid hok
  have HS := Lib.hid hs
  have HSK := Lib.hid hsk
  have HND := Lib.hid node_lit
  have HZS := Lib.hid (show zHop.node.toArray.size = 66 by rw [List.size_toArray, Hp.node_len zHop_ok])
  have HW1 := Lib.hid ((Below.refl w.heap.size w).alloc (Nat.le_refl _) (.cells zHop.node.toArray 92))
  have HZR := Lib.hid (show RR (w.alloc (.cells zHop.node.toArray 92)) (w.heap.size + 1) 66 (some ⟨w.heap.size, 0, none⟩) 1 ([zHop].map Hp.node) from
    ⟨rfl, fun cs hcs => by rw [List.mem_singleton.1 hcs]; exact Hp.node_len zHop_ok, .inr ⟨_, 0, rfl, Nat.lt_succ_self _, fun i cs hc => by
      cases i with
      | zero => obtain rfl : zHop.node = cs := by simpa using hc
                exact blk_range (heap_alloc_new w _)
      | succ i => simp at hc⟩⟩)
  clear hr hok hs hsk
  obtain ⟨zc, hzc⟩ : ∃ zc, zHop.node.toArray = zc := ⟨_, rfl⟩
  have HZC := Lib.hid hzc
  rw [hzc] at HND HZS HW1 HZR
  clear hzc
  go_enter Try.func7, Try.ntmps7
  go_wp2_with (first | (refine wl_lit (by rfl) 92 [] rfl [] rfl zc HND.out ?_) | (refine wl_bs1 TND rfl (.tmp 19) rfl zc rfl HZS.out (by decide) ?_))
  refine (DirCheck_any _ 1 1 [zHop] _ _ HZR.out (fun h hh => by rw [List.mem_singleton.1 hh]; exact zHop_ok) (by decide)).mono ?_
  rw [chk_zero_node]
  rintro e w2 ⟨rfl, md, rfl⟩
  have HB2 := Lib.hid (below_drewN HW1.out md)
  clear HW1 HZR
  generalize (w.alloc (.cells zc 92)).drewN md = w2 at *
  go_wp2_with fail
  refine (nodes_any A n c ns w2 w.heap.size (HR.out.below HB2.out) HOK.out HB2.out.size hn).mono ?_
  rintro e w3 ⟨A3, c3, rfl, hr3, hb⟩
  have HR3 := Lib.hid hr3
  have HB3 := Lib.hid (HB2.out.trans (hb.mono HB2.out.size))
  have hz3 := HB3.out.size
  clear hr3 hb HB2
  go_wp2_with fail
  refine (Route_any A3 n c3 ns A' m c' ss w3 w3.heap.size HR3.out HOK.out ((HS.out.below HB3.out).more hz3) HSK.out (Nat.le_refl _) (by omega) hm).mono ?_
  rintro e w4 ⟨hb, hres⟩
  have HB4 := Lib.hid (HB3.out.trans (hb.mono hz3))
  have hz4 := hb.size
  clear hb HR3 HB3
  rcases hres with ⟨er, hne, rfl⟩ | ⟨h15, hck, hin, gh, hs, hlen, hmet, hhok, hrr, rfl⟩
  · have hne' : (er != 0) = true := by rw [bne_iff_ne]; exact hne
    clear hne
    go_wp2_with fail
    go_ret
    exact ⟨rfl, HB4.out⟩
  have HCK := Lib.hid hck
  have HIN := Lib.hid hin
  have HMT := Lib.hid hmet
  have HHK := Lib.hid hhok
  have HLN := Lib.hid hlen
  have HHR := Lib.hid hrr
  have H15 := Lib.hid h15
  clear hck hin hmet hhok hlen hrr h15
  rw [HSL.out] at HHR H15 ⊢
  have HLC := Lib.hid (last_built kd)
  have HPA := Lib.hid (fun W (h : RR W w4.heap.size 68 (some ⟨gh, 0, none⟩) m (hs.map Hp.cells)) hB => Path_any (lastC kd) (some ⟨gh, 0, none⟩) m m hs W w4.heap.size (lastC_ok hkd) h HHK.out hB (by omega))
  unfold Cmd.v at *
  obtain ⟨lc, hlc⟩ : ∃ lc, (lastC kd).cells.toArray = lc := ⟨_, rfl⟩
  rw [hlc] at HLC HPA
  clear hlc
  go_wp2_with (refine wl_lit (by rfl) 68 [(0, .tmp 36)] rfl [(0, .int .u8 kd)] rfl lc HLC.out ?_)
  refine (HPA.out w4 HHR.out (Nat.le_refl _)).mono ?_
  rintro e w5 ⟨A5, m5, c5, rfl, hm5, ho5, hb⟩
  have HB5 := Lib.hid (HB4.out.trans (hb.mono HB4.out.size))
  have HHR5 := Lib.hid (HHR.out.below hb)
  have hz5 := hb.size
  clear hb HB4 HHR HPA HLC
  by_cases hk : kd < 2 ∨ 4 < kd
  · have e1 := pthE_out hk hs
    have e2 : pthL (lastC kd) hs = [] := by unfold pthL; rw [e1]; rfl
    rw [e1]
    rw [e2] at hm5
    obtain rfl : m5 = 0 := hm5.symm
    clear ho5
    rcases hk with hk | hk
    · go_wp2_with fail
      go_ret
      exact ⟨rfl, HB5.out⟩
    · have hk2 : ¬ kd < 2 := by omega
      go_wp2_with fail
      go_ret
      exact ⟨rfl, HB5.out⟩
  have hk1 : ¬ kd < 2 := by omega
  have hk2 : ¬ 4 < kd := by omega
  have HK := Lib.hid (show 2 ≤ kd ∧ kd ≤ 4 by omega)
  clear hk
  have e1 := pthE_in HK.out HCK.out HLN.out (by rw [HSL.out]; exact H15.out) HIN.out HMT.out
  have e2 : pthL (lastC kd) hs = (List.range m).map (pcmd (lastC kd) hs) := by unfold pthL; rw [if_pos e1, HLN.out, HSL.out]
  rw [e1]
  rw [e2] at hm5 ho5
  have hmm : m = m5 := by simpa using hm5
  subst hmm
  have HCO := Lib.hid (show ∀ d ∈ (List.range m).map (pcmd (lastC kd) hs), d.OK from fun d hd => by
    obtain ⟨i, hi, rfl⟩ := List.mem_map.1 hd
    have hi' := List.mem_range.1 hi
    exact pcmd_ok (lastC_ok hkd) HHK.out (fun i hi => met_bad (HMT.out i (by rw [← HLN.out]; exact hi)) (HIN.out i (by rw [← HLN.out]; exact hi))) (by rw [HLN.out, HSL.out]; exact hi'))
  have HRC := Lib.hid (RC.of_own ho5 (by simp) HCO.out)
  have HCA := Lib.hid (show ∀ i, i < m → ((List.range m).map (pcmd (lastC kd) hs))[i]? = some (pcmd (lastC kd) hs i) from fun i hi => by simp [hi])
  clear e1 e2 hm5 ho5
  obtain ⟨cl, hcl⟩ : ∃ cl, (List.range m).map (pcmd (lastC kd) hs) = cl := ⟨_, rfl⟩
  rw [hcl] at HCO HRC HCA
  have dmm : ((m : Int) != (m : Int)) = false := by simp
  go_wp2_with fail
  refine (Tell_any A5 m c5 cl w5 w5.heap.size HRC.out (Nat.le_refl _) (by have := H15.out.2; omega)).mono ?_
  rintro e w6 ⟨gt, rfl, ho6, hb⟩
  have HT6 := Lib.hid (RC.of_own ho6 (by rw [← hcl]; simp) HCO.out)
  have HB6 := Lib.hid (HB5.out.trans (hb.mono HB5.out.size))
  have HHR6 := Lib.hid (HHR5.out.below (hb.mono hz5))
  have HRC6 := Lib.hid (HRC.out.below hb)
  have hz6 := hb.size
  clear ho6 hb HB5 HHR5 HRC hcl
  go_wp2_with fail
  have HK1 := Lib.hid hk1
  have HK2 := Lib.hid hk2
  clear hk1 hk2 dmm
  have HDS := Lib.hid (show ∀ k, dlSum hs (k + 1) = dlSum hs k + (hat hs k).dl from fun k => rfl)
  have HDL := Lib.hid (show ∀ k, k ≤ m → 0 ≤ dlSum hs k ∧ dlSum hs k ≤ 1000000 * (k : Int) from fun k hk => dlSum_le hs (fun i hi => (badHop_false.1 (met_bad (HMT.out i (by rw [← HLN.out]; exact hi)) (HIN.out i (by rw [← HLN.out]; exact hi)))).1) k (by rw [HLN.out, HSL.out]; exact hk))
  have HS0 := Lib.hid (show dlSum hs 0 = 0 from rfl)
  have HTOT := Lib.hid (fun W (h : RR W w4.heap.size 68 (some ⟨gh, 0, none⟩) m (hs.map Hp.cells)) => Total_any (some ⟨gh, 0, none⟩) m m hs W w4.heap.size h HHK.out (fun i hi => (badHop_false.1 (met_bad (HMT.out i (by rw [← HLN.out]; exact hi)) (HIN.out i (by rw [← HLN.out]; exact hi)))).1) H15.out.2)
  obtain ⟨ds, hds⟩ : ∃ ds, dlSum hs = ds := ⟨_, rfl⟩
  rw [hds] at HDS HDL HS0 HTOT
  clear hds
  have h5m := H15.out.2
  go_loopw [10, 11, 12, 13, 14, 15, 16, 17, 18, 74] (fun sm _ _ _ _ _ _ _ _ i wr => ∃ k : Nat, k ≤ m ∧ i = .int .i64 (k : Int) ∧ sm = .int .i64 (ds k) ∧ Below w6.heap.size w6 wr) (fun _ _ _ _ _ _ _ _ _ i _ => m - (intOf i).toNat)
  case atStart => exact ⟨0, Nat.zero_le _, rfl, by rw [HS0.out], Below.refl _ _⟩
  case round =>
    obtain ⟨k, hk, rfl, rfl, hb⟩ := hrel
    have HW := Lib.hid hb
    have hzr := hb.size
    clear hb
    by_cases hlt : k < m
    · have hks : k < ss.length := by rw [HSL.out]; exact hlt
      obtain ⟨bc, offc, d, rfl, hbc, hcd, hok, hrgc⟩ := (HRC6.out.below (HW.out.mono hz6)).at_ hlt
      have hd : d = pcmd (lastC kd) hs k := by rw [HCA.out k hlt] at hcd; exact (Option.some.inj hcd).symm
      obtain ⟨b, off, d', hgt, hbt, hcd', _, hrgt⟩ := (HT6.out.below HW.out).at_ hlt
      simp only [Option.some.injEq, Addr.mk.injEq, and_true] at hgt
      obtain ⟨rfl, rfl⟩ := hgt
      rw [hcd] at hcd'
      obtain rfl := Option.some.inj hcd'
      rw [Nat.zero_add] at hrgt
      have hB6 := HB6.out.size
      have HRA := Lib.hid (HS.out.below ((HB6.out.trans (HW.out.mono hB6))))
      have HRH := Lib.hid (HHR6.out.below (HW.out.mono (by omega)))
      have hmt := HMT.out k hks
      have hdf : d.d = (sat ss k).dl ∧ d.f = (sat ss k).fl := by
        rw [hd]
        unfold pcmd
        split <;> exact met_dl hmt
      have hchk : checkN d = 0 := by rw [hd]; exact pcmd_check HK.out HCK.out HLN.out HIN.out HMT.out hks
      have HDE := Lib.hid (decode_encode d hok hchk)
      have HE := Lib.hid (fun W => Encode_any d W hok)
      have hel : (encE d).length = 32 := by unfold encE; rw [if_pos hchk]; exact length_encL hok
      have HWA := Lib.hid (fun W => Wait_any d W hok)
      have HLA := Lib.hid (fun W => Last_any d W)
      have heq := fun W => cmd_same d hok W
      have HI := Lib.hid (show (Try.prog.info? 68).map (·.size) = some d.cells.length by rw [hok.size]; kernel_rfl)
      have HIT := Lib.hid (show (Try.prog.info? 99).map (·.size) = some d.cells.length by rw [hok.size]; kernel_rfl)
      have hzT : ∀ w : World, (zeroValue 99).run Try.prog w = .ok (.agg zeroC.cells.toArray) w := fun _ => by kernel_rfl
      have hzC := zeroCmd
      have HST := Lib.hid (show ∀ (W : World) (ty : TypeId), (storeCells ⟨W.heap.size, 0, none⟩ d.cells.toArray.toList).run Try.prog (W.alloc (.cells zeroC.cells.toArray ty)) = .ok () (W.alloc (.cells d.cells.toArray ty)) from fun W ty => run_cells_new W _ _ _ (by rw [cmd_size hok, cmd_size zeroC_ok]) (cmd_one d))
      have HNR := Lib.hid (show ∀ (W : World) (ty : TypeId), (W.alloc (.cells d.cells.toArray ty)).rangeAt W.heap.size 0 d.cells from fun W ty => blk_range (heap_alloc_new W _))
      have hdb := hok.d
      have hfb := hok.f
      have HFF := Lib.hid (show ∀ (W : World) (b : Nat), W.rangeAt b 0 d.cells → W.cell? ⟨b, 0, none⟩ = some (.int .u8 d.k) ∧ W.cell? ⟨b, 1, none⟩ = some (.int .u8 d.f) ∧ W.cell? ⟨b, 3, none⟩ = some (.int .u64 d.x) from fun W b h => ⟨h 0 _ rfl, h 1 _ rfl, h 3 _ rfl⟩)
      have hzs : zeroC.cells.toArray.size = 20 := cmd_size zeroC_ok
      have hcsz : d.cells.toArray.size = 20 := cmd_size hok
      unfold Cmd.v at HE
      rw [hchk] at HE
      obtain ⟨zt, hzt⟩ : ∃ zt, zeroC.cells.toArray = zt := ⟨_, rfl⟩
      obtain ⟨cs, hcs⟩ : ∃ cs, d.cells.toArray = cs := ⟨_, rfl⟩
      have HCS := Lib.hid hcs
      rw [show zeroC.cells.toArray = zt from hzt] at hzT hzC hzs HST
      rw [hcs] at HE HWA HLA heq HST HNR hcsz
      have hzte : ¬ zt = #[] := by intro h; rw [h] at hzs; cases hzs
      have hcse : ¬ cs = #[] := by intro h; rw [h] at hcsz; cases hcsz
      have hst1 : (storeCells ⟨wr.heap.size, 0, none⟩ cs.toList).run Try.prog (wr.alloc (.cells zt 99)) = .ok () (wr.alloc (.cells cs 99)) := by
        exact HST.out wr 99
      have HST2 := Lib.hid (show ∀ W : World, (storeCells ⟨W.heap.size, 0, none⟩ cs.toList).run Try.prog (W.alloc (.cells zt 68)) = .ok () (W.alloc (.cells cs 68)) from fun W => by
        exact HST.out W 68)
      clear hzt hcs hcd HST
      obtain ⟨K, hK⟩ : ∃ K, d.k = K := ⟨_, rfl⟩
      obtain ⟨D, hD⟩ : ∃ D, d.d = D := ⟨_, rfl⟩
      obtain ⟨F, hF⟩ : ∃ F, d.f = F := ⟨_, rfl⟩
      obtain ⟨XX, hXX⟩ : ∃ XX, d.x = XX := ⟨_, rfl⟩
      rw [hK] at HLA HFF
      rw [hD] at HWA hdf hdb
      rw [hF] at HFF hdf hfb
      rw [hXX] at HFF
      have HKF := Lib.hid (show (k + 1 = m → K = kd ∧ XX = 0) ∧ (k + 1 ≠ m → K = 1 ∧ XX = (hat hs (k + 1)).id) by
        rw [← hK, ← hXX, hd]
        unfold pcmd
        refine ⟨fun h => ?_, fun h => ?_⟩
        · rw [if_neg (by rw [HLN.out, HSL.out]; omega)]
          exact ⟨rfl, rfl⟩
        · rw [if_pos (by rw [HLN.out, HSL.out]; omega)]
          exact ⟨rfl, rfl⟩)
      have HDN := Lib.hid (show ds (k + 1) = ds k + D by rw [HDS.out, ← hD, hd]; unfold pcmd; split <;> rfl)
      have HDD := Lib.hid (show (0 ≤ D ∧ D ≤ 1000000) by rw [hdf.1]; exact (HIN.out k hks).1)
      obtain ⟨bs, offs, hAe, hbs, c0, c1, c2⟩ := stop_at HRA.out hlt
      rw [← hdf.1] at c1
      rw [← hdf.2] at c2
      obtain ⟨sn, hsn⟩ : ∃ sn, (sat ss k).nm = sn := ⟨_, rfl⟩
      obtain ⟨hpn, hhn⟩ : ∃ hpn, (hat hs k).nm = hpn := ⟨_, rfl⟩
      have hnn : hpn.toList = sn.toList := by rw [← hsn, ← hhn]; exact met_name hmt
      rw [hsn] at c0
      have h0 : wr.cell? ⟨gt, k * 68, none⟩ = wr.cell? ⟨gt, k * 68, none⟩ := rfl
      obtain ⟨bh, offh, ch, hbhe, _, hch, _, hrh⟩ := HRH.out.at_ hlt
      simp only [Option.some.injEq, Addr.mk.injEq, and_true] at hbhe
      obtain ⟨rfl, rfl⟩ := hbhe
      have hch' : ch = (hat hs k).cells := by
        rw [List.getElem?_map, hat_eq (by rw [HLN.out]; exact hks)] at hch
        exact (Option.some.inj hch).symm
      have ch0 : wr.cell? ⟨gh, k * 68, none⟩ = some (.string hpn) := by
        have h := hrh 0 _ (by rw [hch']; rfl)
        rw [hhn] at h
        simpa using h
      have hgh : gh < w6.heap.size := by omega
      subst hAe
      have u1 : IntKind.i64.wrap F = F := by rw [IntKind.wrap_i64]; omega
      have hDD : (D != D) = false := by simp
      have hFF : (F != F) = false := by simp
      have hnm1 : (hpn.toList == sn.toList) = true := by rw [beq_iff_eq]; exact hnn
      have hnm2 : (hpn.toList != sn.toList) = false := by simp [bne, hnm1]
      have HRGC := Lib.hid hrgc
      have HRGT := Lib.hid hrgt
      have HWB := Lib.hid (HW.out.alloc hzr (.cells cs 99))
      have HB5r := Lib.hid (HNR.out wr 99)
      have hbw := (Below.refl wr.heap.size wr).alloc (Nat.le_refl _) (.cells cs 99)
      have HBW := Lib.hid hbw
      have hz7 : (wr.alloc (.cells cs 99)).heap.size = wr.heap.size + 1 := by simp
      have i2 : (k : Int) < (m : Int) := by omega
      have HEL := Lib.hid hel
      clear hbw hrgc hrgt hmt hd hK hD hF hXX hsn hhn hnn hch hch' hrh hel hchk hdf h0
      go_wp2_with (first | (refine wl_load_mid (by rfl) 99 (.tmp 77) rfl gt (k * 20) rfl d.cells _ HRGT.out Try.underlying99 rfl HIT.out ?_; rw [HCS.out]) | (refine wl_load_mid (by rfl) 68 (.tmp 80) rfl wr.heap.size 0 rfl d.cells _ HB5r.out Try.underlying68 rfl HI.out ?_; rw [HCS.out]))
      clear hst1
      generalize wr.alloc (.cells cs 99) = w7 at *
      refine (HE.out w7).mono ?_
      rintro e w8 ⟨A8, n8, c8, rfl, hn8, ho8, hb⟩
      obtain rfl : n8 = 32 := by rw [← hn8]; exact HEL.out
      have HR8 := Lib.hid (RB.of_own ho8)
      have hc8 := own_cap ho8
      have HB8 := Lib.hid hb
      have hz8 := hb.size
      clear hb ho8 hn8
      go_wp2_with fail
      refine (Decode_any A8 32 c8 (encE d) w8 w8.heap.size HR8.out (Nat.le_refl _) (by decide) hc8).mono ?_
      rw [(HDE.out).1, (HDE.out).2]
      unfold RetC Cmd.v
      rw [HCS.out]
      rintro e w9 ⟨rfl, hb⟩
      have HB9 := Lib.hid (HB8.out.trans (hb.mono hz8))
      have hz9 := hb.size
      have hst2 := HST2.out w9
      have HB6b := Lib.hid (HNR.out w9 68)
      have HB10 := Lib.hid (HB9.out.alloc (by omega) (.cells cs 68))
      have hz10 : (w9.alloc (.cells cs 68)).heap.size = w9.heap.size + 1 := by simp
      clear hb
      go_wp2_with fail
      clear hst2
      generalize w9.alloc (.cells cs 68) = w10 at *
      generalize hb6 : w9.heap.size = b6 at *
      generalize hb5 : wr.heap.size = b5 at *
      have HW10 := Lib.hid (HBW.out.trans (HB10.out.mono (by omega)))
      have HC10 := Lib.hid (range_under HRGC.out HW10.out (by omega))
      have HT10 := Lib.hid (range_under HB5r.out HB10.out (by omega))
      have HWW := Lib.hid (HW.out.trans (HW10.out.mono (by omega)))
      have c0' := (HW10.out.cell (p := ⟨bs, offs + k * 3, none⟩) (by show bs < _; omega)).trans c0
      have c1' := (HW10.out.cell (p := ⟨bs, offs + k * 3 + 1, none⟩) (by show bs < _; omega)).trans c1
      have c2' := (HW10.out.cell (p := ⟨bs, offs + k * 3 + 2, none⟩) (by show bs < _; omega)).trans c2
      have ch0' := (HW10.out.cell (p := ⟨gh, k * 68, none⟩) (by show gh < _; omega)).trans ch0
      obtain ⟨_, f1, f3⟩ := HFF.out w10 b5 HT10.out
      clear hb6 hb5 HB5r HBW HB8 HB9 HB10 HRGT HRGC HWB HR8 HE HDE HST2 HNR c0 c1 c2 ch0 HRA HRH HW
      go_wp2_with fail
      refine wp_region_noPanic ?_
      refine wp_region_held_drew (S := (fun w' => w'.rangeAt b6 0 d.cells ∧ w'.rangeAt bc (offc + k * 20) d.cells)) (by kernel_rfl) ?_ (fun hHeld => ?_)
      · (try dsimp only)
        exact ⟨HB6b.out, HC10.out⟩
      refine wpAnyH_take (i := 0) (v := ?v1) rfl (by kernel_rfl) (by kernel_rfl) (by kernel_rfl) (fun _ _ _ h => h) (Or.inl ⟨by rfl, ?y1⟩) (by assumption) ?r1
      case y1 => (intro w hSw; (try dsimp only at hSw); first | (go_simp; done) | (go_simp; with_reducible rfl))
      (try simp only [List.getElem_toArray, List.getElem_cons_zero, Act.put, List.setIfInBounds_toArray, List.set_cons_zero, List.set_cons_succ])
      refine wpAnyH_take (i := 1) (v := ?v2) rfl (by kernel_rfl) (by kernel_rfl) (by kernel_rfl) (fun _ _ _ h => h) (Or.inl ⟨by rfl, ?y2⟩) (by assumption) ?r2
      case y2 => (intro w hSw; (try dsimp only at hSw); first | (go_simp; done) | (go_simp; with_reducible rfl))
      (try simp only [List.getElem_toArray, List.getElem_cons_zero, List.getElem_cons_succ, Act.put, List.setIfInBounds_toArray, List.set_cons_zero, List.set_cons_succ])
      refine wpAnyH_take (i := 2) (v := ?v3) rfl (by kernel_rfl) (by kernel_rfl) (by kernel_rfl) (fun _ _ _ h => h) (Or.inl ⟨by rfl, ?y3⟩) (by assumption) ?r3
      case y3 => (intro w hSw; (try dsimp only at hSw); first | (go_simp; done) | (go_simp; with_reducible rfl))
      (try simp only [List.getElem_toArray, List.getElem_cons_zero, List.getElem_cons_succ, Act.put, List.setIfInBounds_toArray, List.set_cons_zero, List.set_cons_succ])
      refine wpAnyH_take (i := 3) (v := ?v4) rfl (by kernel_rfl) (by kernel_rfl) (by kernel_rfl) (fun _ _ _ h => h) (Or.inl ⟨by rfl, ?y4⟩) (by assumption) ?r4
      case y4 => (intro w hSw; (try dsimp only at hSw); first | (go_simp; done) | (go_simp; with_reducible rfl))
      (try simp only [List.getElem_toArray, List.getElem_cons_zero, List.getElem_cons_succ, Act.put, List.setIfInBounds_toArray, List.set_cons_zero, List.set_cons_succ])
      refine wpAnyH_take (i := 4) (v := ?v5) rfl (by kernel_rfl) (by kernel_rfl) (by kernel_rfl) (fun _ _ _ h => h) (Or.inl ⟨by rfl, ?y5⟩) (by assumption) ?r5
      case y5 => (intro w hSw; (try dsimp only at hSw); first | (go_simp; done) | (go_simp; with_reducible rfl))
      (try simp only [List.getElem_toArray, List.getElem_cons_zero, List.getElem_cons_succ, Act.put, List.setIfInBounds_toArray, List.set_cons_zero, List.set_cons_succ])
      refine wpAnyH_take (i := 5) (v := ?v6) rfl (by kernel_rfl) (by kernel_rfl) (by kernel_rfl) (fun _ _ _ h => h) (Or.inl ⟨by rfl, ?y6⟩) (by assumption) ?r6
      case y6 => (intro w hSw; (try dsimp only at hSw); first | (go_simp; done) | (go_simp; with_reducible rfl))
      (try simp only [List.getElem_toArray, List.getElem_cons_zero, List.getElem_cons_succ, Act.put, List.setIfInBounds_toArray, List.set_cons_zero, List.set_cons_succ])
      refine wpAnyH_take (i := 6) (v := ?v7) rfl (by kernel_rfl) (by kernel_rfl) (by kernel_rfl) (fun _ _ _ h => h) (Or.inl ⟨by rfl, ?y7⟩) (by assumption) ?r7
      case y7 => (intro w hSw; (try dsimp only at hSw); first | (go_simp; done) | (go_simp; with_reducible rfl))
      (try simp only [List.getElem_toArray, List.getElem_cons_zero, List.getElem_cons_succ, Act.put, List.setIfInBounds_toArray, List.set_cons_zero, List.set_cons_succ])
      refine wpAnyH_take (i := 7) (v := ?v8) rfl (by kernel_rfl) (by kernel_rfl) (by kernel_rfl) (fun _ _ _ h => h) (Or.inl ⟨by rfl, ?y8⟩) (by assumption) ?r8
      case y8 => (intro w hSw; (try dsimp only at hSw); first | (go_simp; done) | (go_simp; with_reducible rfl))
      (try simp only [List.getElem_toArray, List.getElem_cons_zero, List.getElem_cons_succ, Act.put, List.setIfInBounds_toArray, List.set_cons_zero, List.set_cons_succ])
      refine wpAnyH_take (i := 8) (v := ?v9) rfl (by kernel_rfl) (by kernel_rfl) (by kernel_rfl) (fun _ _ _ h => h) (Or.inl ⟨by rfl, ?y9⟩) (by assumption) ?r9
      case y9 => (intro w hSw; (try dsimp only at hSw); first | (go_simp; done) | (go_simp; with_reducible rfl))
      (try simp only [List.getElem_toArray, List.getElem_cons_zero, List.getElem_cons_succ, Act.put, List.setIfInBounds_toArray, List.set_cons_zero, List.set_cons_succ])
      refine wpAnyH_take (i := 9) (v := ?v10) rfl (by kernel_rfl) (by kernel_rfl) (by kernel_rfl) (fun _ _ _ h => h) (Or.inl ⟨by rfl, ?y10⟩) (by assumption) ?r10
      case y10 => (intro w hSw; (try dsimp only at hSw); first | (go_simp; done) | (go_simp; with_reducible rfl))
      (try simp only [List.getElem_toArray, List.getElem_cons_zero, List.getElem_cons_succ, Act.put, List.setIfInBounds_toArray, List.set_cons_zero, List.set_cons_succ])
      refine wpAnyH_take (i := 10) (v := ?v11) rfl (by kernel_rfl) (by kernel_rfl) (by kernel_rfl) (fun _ _ _ h => h) (Or.inl ⟨by rfl, ?y11⟩) (by assumption) ?r11
      case y11 => (intro w hSw; (try dsimp only at hSw); first | (go_simp; done) | (go_simp; with_reducible rfl))
      (try simp only [List.getElem_toArray, List.getElem_cons_zero, List.getElem_cons_succ, Act.put, List.setIfInBounds_toArray, List.set_cons_zero, List.set_cons_succ])
      refine wpAnyH_take (i := 11) (v := ?v12) rfl (by kernel_rfl) (by kernel_rfl) (by kernel_rfl) (fun _ _ _ h => h) (Or.inl ⟨by rfl, ?y12⟩) (by assumption) ?r12
      case y12 => (intro w hSw; (try dsimp only at hSw); first | (go_simp; done) | (go_simp; with_reducible rfl))
      (try simp only [List.getElem_toArray, List.getElem_cons_zero, List.getElem_cons_succ, Act.put, List.setIfInBounds_toArray, List.set_cons_zero, List.set_cons_succ])
      refine wpAnyH_take (i := 12) rfl (by kernel_rfl) (by kernel_rfl) (by kernel_rfl) (fun _ _ _ h => h) (yieldsIf_load_mid (by rfl) 68 _ rfl b6 0 rfl d.cells _ (fun w hSw => hSw.1) Try.underlying68 rfl HI.out) (by assumption) ?_
      (try simp only [List.getElem_toArray, List.getElem_cons_zero, List.getElem_cons_succ, Act.put, List.setIfInBounds_toArray, List.set_cons_zero, List.set_cons_succ])
      refine wpAnyH_take (i := 13) (v := ?v14) rfl (by kernel_rfl) (by kernel_rfl) (by kernel_rfl) (fun _ _ _ h => h) (Or.inl ⟨by rfl, ?y14⟩) (by assumption) ?r14
      case y14 => (intro w hSw; (try dsimp only at hSw); first | (go_simp; done) | (go_simp; with_reducible rfl))
      (try simp only [List.getElem_toArray, List.getElem_cons_zero, List.getElem_cons_succ, Act.put, List.setIfInBounds_toArray, List.set_cons_zero, List.set_cons_succ])
      refine wpAnyH_take (i := 14) (v := ?v15) rfl (by kernel_rfl) (by kernel_rfl) (by kernel_rfl) (fun _ _ _ h => h) (Or.inl ⟨by rfl, ?y15⟩) (by assumption) ?r15
      case y15 => (intro w hSw; (try dsimp only at hSw); first | (go_simp; done) | (go_simp; with_reducible rfl))
      (try simp only [List.getElem_toArray, List.getElem_cons_zero, List.getElem_cons_succ, Act.put, List.setIfInBounds_toArray, List.set_cons_zero, List.set_cons_succ])
      refine wpAnyH_take (i := 15) (v := ?v16) rfl (by kernel_rfl) (by kernel_rfl) (by kernel_rfl) (fun _ _ _ h => h) (Or.inl ⟨by rfl, ?y16⟩) (by assumption) ?r16
      case y16 => (intro w hSw; (try dsimp only at hSw); first | (go_simp; done) | (go_simp; with_reducible rfl))
      (try simp only [List.getElem_toArray, List.getElem_cons_zero, List.getElem_cons_succ, Act.put, List.setIfInBounds_toArray, List.set_cons_zero, List.set_cons_succ])
      refine wpAnyH_take (i := 16) rfl (by kernel_rfl) (by kernel_rfl) (by kernel_rfl) (fun _ _ _ h => h) (yieldsIf_load_mid (by rfl) 68 _ rfl bc (offc + k * 20) rfl d.cells _ (fun w hSw => hSw.2) Try.underlying68 rfl HI.out) (by assumption) ?_
      (try simp only [List.getElem_toArray, List.getElem_cons_zero, List.getElem_cons_succ, Act.put, List.setIfInBounds_toArray, List.set_cons_zero, List.set_cons_succ])
      rw [HCS.out]
      refine wpAnyH_take (i := 17) (v := ?v19) rfl (by kernel_rfl) (by kernel_rfl) (by kernel_rfl) (fun _ _ _ h => h) (Or.inl ⟨by rfl, ?y19⟩) (by assumption) ?r19
      case y19 => (intro w hSw; (try dsimp only at hSw); first | (go_simp; done) | (go_simp; with_reducible rfl))
      (try simp only [List.getElem_toArray, List.getElem_cons_zero, List.getElem_cons_succ, Act.put, List.setIfInBounds_toArray, List.set_cons_zero, List.set_cons_succ])
      refine wpAnyH_take (i := 18) (v := ?v20) rfl (by kernel_rfl) (by kernel_rfl) (by kernel_rfl) (fun _ _ _ h => h) (Or.inl ⟨by rfl, ?y20⟩) (by assumption) ?r20
      case y20 => (intro w hSw; (try dsimp only at hSw); first | (go_simp; done) | (go_simp; with_reducible rfl))
      (try simp only [List.getElem_toArray, List.getElem_cons_zero, List.getElem_cons_succ, Act.put, List.setIfInBounds_toArray, List.set_cons_zero, List.set_cons_succ])
      refine wpAnyH_done (by kernel_rfl) ?_ _
      refine NoPanic.normal ?_
      have HW11 := Lib.hid (show Below w10.heap.size w10 w10.drew.drew from ((Below.refl _ _).drew).drew)
      go_wp2_with fail
      obtain ⟨bl, hbl⟩ : ∃ bl, (K != 1) = bl := ⟨_, rfl⟩
      rw [hbl] at HLA
      have hq1 : ((k : Int) + 1 == (m : Int)) = bl := by
        rw [← hbl]
        by_cases h : k + 1 = m
        · rw [(HKF.out.1 h).1, show ((k : Int) + 1 == (m : Int)) = true by rw [beq_iff_eq]; omega]
          symm
          rw [bne_iff_ne]
          have := HK.out
          omega
        · rw [(HKF.out.2 h).1, show ((k : Int) + 1 == (m : Int)) = false by rw [beq_eq_false_iff_ne]; omega]
          rfl
      have hq2 : decide ((k : Int) + 1 = (m : Int)) = bl := by rw [← hq1]; rfl
      have hq3 : decide (k + 1 = m) = bl := by rw [← hq2]; exact decide_eq_decide.2 (by omega)
      have hq4 : (k + 1 == m) = bl := by rw [← hq3]; rfl
      have hbb : (bl != bl) = false := by simp
      have u2 : IntKind.i64.wrap ((k : Int) + 1) = (k : Int) + 1 := by rw [IntKind.wrap_i64]; omega
      have HBL := Lib.hid hbl
      clear hbl
      have HS19 := Lib.hid (show ∀ W : World, Below w10.heap.size w10 W → W.rangeAt b5 0 d.cells ∧ W.cell? ⟨b5, 1, none⟩ = some (.int .u8 F) ∧ W.cell? ⟨bs, offs + k * 3, none⟩ = some (.string sn) ∧ W.cell? ⟨bs, offs + k * 3 + 1, none⟩ = some (.int .i64 D) ∧ W.cell? ⟨bs, offs + k * 3 + 2, none⟩ = some (.int .i64 F) ∧ W.cell? ⟨gh, k * 68, none⟩ = some (.string hpn) from fun W hb =>
        ⟨range_under HT10.out hb (by omega), (hb.cell (p := ⟨b5, 1, none⟩) (by show b5 < _; omega)).trans f1, (hb.cell (p := ⟨bs, offs + k * 3, none⟩) (by show bs < _; omega)).trans c0', (hb.cell (p := ⟨bs, offs + k * 3 + 1, none⟩) (by show bs < _; omega)).trans c1', (hb.cell (p := ⟨bs, offs + k * 3 + 2, none⟩) (by show bs < _; omega)).trans c2', (hb.cell (p := ⟨gh, k * 68, none⟩) (by show gh < _; omega)).trans ch0'⟩)
      clear f1 c0' c1' c2' ch0'
      refine wp_region_noPanic ?_
      refine wp_region_held_drew (S := (fun W => W.rangeAt b5 0 d.cells ∧ W.cell? ⟨b5, 1, none⟩ = some (.int .u8 F) ∧ W.cell? ⟨bs, offs + k * 3, none⟩ = some (.string sn) ∧ W.cell? ⟨bs, offs + k * 3 + 1, none⟩ = some (.int .i64 D) ∧ W.cell? ⟨bs, offs + k * 3 + 2, none⟩ = some (.int .i64 F) ∧ W.cell? ⟨gh, k * 68, none⟩ = some (.string hpn))) (by kernel_rfl) ?_ (fun hHeld => ?_)
      · (try dsimp only)
        exact HS19.out _ HW11.out
      refine wpAnyH_take (i := 0) rfl (by kernel_rfl) (by kernel_rfl) (by kernel_rfl) (fun _ _ _ h => h) (yieldsIf_load_mid (by rfl) 99 _ rfl b5 0 rfl d.cells _ (fun w hSw => hSw.1) Try.underlying99 rfl HIT.out) (by assumption) ?_
      (try simp only [List.getElem_toArray, List.getElem_cons_zero, Act.put, List.setIfInBounds_toArray, List.set_cons_zero, List.set_cons_succ])
      rw [HCS.out]
      refine wpAnyH_take (i := 2) (v := ?v23) rfl (by kernel_rfl) (by kernel_rfl) (by kernel_rfl) (fun _ _ _ h => h) (Or.inl ⟨by rfl, ?y23⟩) (by assumption) ?r23
      case y23 => (intro w hSw; (try dsimp only at hSw); first | (go_simp; done) | (go_simp; with_reducible rfl))
      (try simp only [List.getElem_toArray, List.getElem_cons_zero, List.getElem_cons_succ, Act.put, List.setIfInBounds_toArray, List.set_cons_zero, List.set_cons_succ])
      refine wpAnyH_take (i := 3) (v := ?v24) rfl (by kernel_rfl) (by kernel_rfl) (by kernel_rfl) (fun _ _ _ h => h) (Or.inl ⟨by rfl, ?y24⟩) (by assumption) ?r24
      case y24 => (intro w hSw; (try dsimp only at hSw); first | (go_simp; done) | (go_simp; with_reducible rfl))
      (try simp only [List.getElem_toArray, List.getElem_cons_zero, List.getElem_cons_succ, Act.put, List.setIfInBounds_toArray, List.set_cons_zero, List.set_cons_succ])
      refine wpAnyH_take (i := 4) (v := ?v25) rfl (by kernel_rfl) (by kernel_rfl) (by kernel_rfl) (fun _ _ _ h => h) (Or.inl ⟨by rfl, ?y25⟩) (by assumption) ?r25
      case y25 => (intro w hSw; (try dsimp only at hSw); first | (go_simp; done) | (go_simp; with_reducible rfl))
      (try simp only [List.getElem_toArray, List.getElem_cons_zero, List.getElem_cons_succ, Act.put, List.setIfInBounds_toArray, List.set_cons_zero, List.set_cons_succ])
      refine wpAnyH_take (i := 5) (v := ?v26) rfl (by kernel_rfl) (by kernel_rfl) (by kernel_rfl) (fun _ _ _ h => h) (Or.inl ⟨by rfl, ?y26⟩) (by assumption) ?r26
      case y26 => (intro w hSw; (try dsimp only at hSw); first | (go_simp; done) | (go_simp; with_reducible rfl))
      (try simp only [List.getElem_toArray, List.getElem_cons_zero, List.getElem_cons_succ, Act.put, List.setIfInBounds_toArray, List.set_cons_zero, List.set_cons_succ])
      refine wpAnyH_take (i := 6) (v := ?v27) rfl (by kernel_rfl) (by kernel_rfl) (by kernel_rfl) (fun _ _ _ h => h) (Or.inl ⟨by rfl, ?y27⟩) (by assumption) ?r27
      case y27 => (intro w hSw; (try dsimp only at hSw); first | (go_simp; done) | (go_simp; with_reducible rfl))
      (try simp only [List.getElem_toArray, List.getElem_cons_zero, List.getElem_cons_succ, Act.put, List.setIfInBounds_toArray, List.set_cons_zero, List.set_cons_succ])
      refine wpAnyH_ready (rs := [1]) (by kernel_rfl) (by simp) ?_
      refine AllReadyH.cons rfl (fun K hK => ?_) AllReadyH.nil
      go_simp
      go_at_call 52
      refine (HWA.out _).mono ?_
      rintro e w12 ⟨rfl, hb⟩
      have HW12 := Lib.hid (show Below w10.heap.size w10 w12 from HW11.out.trans hb)
      clear hb
      first | (refine hK.out _ _ ?_ (fun hHeld => ?_)) | (go_wp2_with fail; refine hK.out _ _ ?_ (fun hHeld => ?_))
      · (try dsimp only)
        exact HS19.out _ HW12.out
      clear hK K
      (try simp only [List.getElem_toArray, List.getElem_cons_zero, List.getElem_cons_succ, Act.put, List.setIfInBounds_toArray, List.set_cons_zero, List.set_cons_succ])
      refine wpAnyH_take (i := 7) (v := ?v29) rfl (by kernel_rfl) (by kernel_rfl) (by kernel_rfl) (fun _ _ _ h => h) (Or.inl ⟨by rfl, ?y29⟩) (by assumption) ?r29
      case y29 => (intro w hSw; (try dsimp only at hSw); first | (go_simp; done) | (go_simp; with_reducible rfl))
      (try simp only [List.getElem_toArray, List.getElem_cons_zero, List.getElem_cons_succ, Act.put, List.setIfInBounds_toArray, List.set_cons_zero, List.set_cons_succ])
      refine wpAnyH_take (i := 8) (v := ?v30) rfl (by kernel_rfl) (by kernel_rfl) (by kernel_rfl) (fun _ _ _ h => h) (Or.inl ⟨by rfl, ?y30⟩) (by assumption) ?r30
      case y30 => (intro w hSw; (try dsimp only at hSw); first | (go_simp; done) | (go_simp; with_reducible rfl))
      (try simp only [List.getElem_toArray, List.getElem_cons_zero, List.getElem_cons_succ, Act.put, List.setIfInBounds_toArray, List.set_cons_zero, List.set_cons_succ])
      refine wpAnyH_take (i := 9) (v := ?v31) rfl (by kernel_rfl) (by kernel_rfl) (by kernel_rfl) (fun _ _ _ h => h) (Or.inl ⟨by rfl, ?y31⟩) (by assumption) ?r31
      case y31 => (intro w hSw; (try dsimp only at hSw); first | (go_simp; done) | (go_simp; with_reducible rfl))
      (try simp only [List.getElem_toArray, List.getElem_cons_zero, List.getElem_cons_succ, Act.put, List.setIfInBounds_toArray, List.set_cons_zero, List.set_cons_succ])
      refine wpAnyH_take (i := 10) (v := ?v32) rfl (by kernel_rfl) (by kernel_rfl) (by kernel_rfl) (fun _ _ _ h => h) (Or.inl ⟨by rfl, ?y32⟩) (by assumption) ?r32
      case y32 => (intro w hSw; (try dsimp only at hSw); first | (go_simp; done) | (go_simp; with_reducible rfl))
      (try simp only [List.getElem_toArray, List.getElem_cons_zero, List.getElem_cons_succ, Act.put, List.setIfInBounds_toArray, List.set_cons_zero, List.set_cons_succ])
      refine wpAnyH_take (i := 11) (v := ?v33) rfl (by kernel_rfl) (by kernel_rfl) (by kernel_rfl) (fun _ _ _ h => h) (Or.inl ⟨by rfl, ?y33⟩) (by assumption) ?r33
      case y33 => (intro w hSw; (try dsimp only at hSw); first | (go_simp; done) | (go_simp; with_reducible rfl))
      (try simp only [List.getElem_toArray, List.getElem_cons_zero, List.getElem_cons_succ, Act.put, List.setIfInBounds_toArray, List.set_cons_zero, List.set_cons_succ])
      refine wpAnyH_take (i := 12) (v := ?v34) rfl (by kernel_rfl) (by kernel_rfl) (by kernel_rfl) (fun _ _ _ h => h) (Or.inl ⟨by rfl, ?y34⟩) (by assumption) ?r34
      case y34 => (intro w hSw; (try dsimp only at hSw); first | (go_simp; done) | (go_simp; with_reducible rfl))
      (try simp only [List.getElem_toArray, List.getElem_cons_zero, List.getElem_cons_succ, Act.put, List.setIfInBounds_toArray, List.set_cons_zero, List.set_cons_succ])
      refine wpAnyH_take (i := 13) (v := ?v35) rfl (by kernel_rfl) (by kernel_rfl) (by kernel_rfl) (fun _ _ _ h => h) (Or.inl ⟨by rfl, ?y35⟩) (by assumption) ?r35
      case y35 => (intro w hSw; (try dsimp only at hSw); first | (go_simp; done) | (go_simp; with_reducible rfl))
      (try simp only [List.getElem_toArray, List.getElem_cons_zero, List.getElem_cons_succ, Act.put, List.setIfInBounds_toArray, List.set_cons_zero, List.set_cons_succ])
      refine wpAnyH_take (i := 14) (v := ?v36) rfl (by kernel_rfl) (by kernel_rfl) (by kernel_rfl) (fun _ _ _ h => h) (Or.inl ⟨by rfl, ?y36⟩) (by assumption) ?r36
      case y36 => (intro w hSw; (try dsimp only at hSw); first | (go_simp; done) | (go_simp; with_reducible rfl))
      (try simp only [List.getElem_toArray, List.getElem_cons_zero, List.getElem_cons_succ, Act.put, List.setIfInBounds_toArray, List.set_cons_zero, List.set_cons_succ])
      refine wpAnyH_take (i := 15) (v := ?v37) rfl (by kernel_rfl) (by kernel_rfl) (by kernel_rfl) (fun _ _ _ h => h) (Or.inl ⟨by rfl, ?y37⟩) (by assumption) ?r37
      case y37 => (intro w hSw; (try dsimp only at hSw); first | (go_simp; done) | (go_simp; with_reducible rfl))
      (try simp only [List.getElem_toArray, List.getElem_cons_zero, List.getElem_cons_succ, Act.put, List.setIfInBounds_toArray, List.set_cons_zero, List.set_cons_succ])
      refine wpAnyH_take (i := 16) (v := ?v38) rfl (by kernel_rfl) (by kernel_rfl) (by kernel_rfl) (fun _ _ _ h => h) (Or.inl ⟨by rfl, ?y38⟩) (by assumption) ?r38
      case y38 => (intro w hSw; (try dsimp only at hSw); first | (go_simp; done) | (go_simp; with_reducible rfl))
      (try simp only [List.getElem_toArray, List.getElem_cons_zero, List.getElem_cons_succ, Act.put, List.setIfInBounds_toArray, List.set_cons_zero, List.set_cons_succ])
      refine wpAnyH_take (i := 17) (v := ?v39) rfl (by kernel_rfl) (by kernel_rfl) (by kernel_rfl) (fun _ _ _ h => h) (Or.inl ⟨by rfl, ?y39⟩) (by assumption) ?r39
      case y39 => (intro w hSw; (try dsimp only at hSw); first | (go_simp; done) | (go_simp; with_reducible rfl))
      (try simp only [List.getElem_toArray, List.getElem_cons_zero, List.getElem_cons_succ, Act.put, List.setIfInBounds_toArray, List.set_cons_zero, List.set_cons_succ])
      refine wpAnyH_take (i := 18) (v := ?v40) rfl (by kernel_rfl) (by kernel_rfl) (by kernel_rfl) (fun _ _ _ h => h) (Or.inl ⟨by rfl, ?y40⟩) (by assumption) ?r40
      case y40 => (intro w hSw; (try dsimp only at hSw); first | (go_simp; done) | (go_simp; with_reducible rfl))
      (try simp only [List.getElem_toArray, List.getElem_cons_zero, List.getElem_cons_succ, Act.put, List.setIfInBounds_toArray, List.set_cons_zero, List.set_cons_succ])
      refine wpAnyH_take (i := 19) (v := ?v41) rfl (by kernel_rfl) (by kernel_rfl) (by kernel_rfl) (fun _ _ _ h => h) (Or.inl ⟨by rfl, ?y41⟩) (by assumption) ?r41
      case y41 => (intro w hSw; (try dsimp only at hSw); first | (go_simp; done) | (go_simp; with_reducible rfl))
      (try simp only [List.getElem_toArray, List.getElem_cons_zero, List.getElem_cons_succ, Act.put, List.setIfInBounds_toArray, List.set_cons_zero, List.set_cons_succ])
      refine wpAnyH_take (i := 20) (v := ?v42) rfl (by kernel_rfl) (by kernel_rfl) (by kernel_rfl) (fun _ _ _ h => h) (Or.inl ⟨by rfl, ?y42⟩) (by assumption) ?r42
      case y42 => (intro w hSw; (try dsimp only at hSw); first | (go_simp; done) | (go_simp; with_reducible rfl))
      (try simp only [List.getElem_toArray, List.getElem_cons_zero, List.getElem_cons_succ, Act.put, List.setIfInBounds_toArray, List.set_cons_zero, List.set_cons_succ])
      refine wpAnyH_take (i := 21) rfl (by kernel_rfl) (by kernel_rfl) (by kernel_rfl) (fun _ _ _ h => h) (yieldsIf_load_mid (by rfl) 99 _ rfl b5 0 rfl d.cells _ (fun w hSw => hSw.1) Try.underlying99 rfl HIT.out) (by assumption) ?_
      (try simp only [List.getElem_toArray, List.getElem_cons_zero, List.getElem_cons_succ, Act.put, List.setIfInBounds_toArray, List.set_cons_zero, List.set_cons_succ])
      rw [HCS.out]
      refine wpAnyH_take (i := 23) (v := ?v45) rfl (by kernel_rfl) (by kernel_rfl) (by kernel_rfl) (fun _ _ _ h => h) (Or.inl ⟨by rfl, ?y45⟩) (by assumption) ?r45
      case y45 => (intro w hSw; (try dsimp only at hSw); first | (go_simp; done) | (go_simp; with_reducible rfl))
      (try simp only [List.getElem_toArray, List.getElem_cons_zero, List.getElem_cons_succ, Act.put, List.setIfInBounds_toArray, List.set_cons_zero, List.set_cons_succ])
      refine wpAnyH_take (i := 24) (v := ?v46) rfl (by kernel_rfl) (by kernel_rfl) (by kernel_rfl) (fun _ _ _ h => h) (Or.inl ⟨by rfl, ?y46⟩) (by assumption) ?r46
      case y46 => (intro w hSw; (try dsimp only at hSw); first | (go_simp; done) | (go_simp; with_reducible rfl))
      (try simp only [List.getElem_toArray, List.getElem_cons_zero, List.getElem_cons_succ, Act.put, List.setIfInBounds_toArray, List.set_cons_zero, List.set_cons_succ])
      refine wpAnyH_take (i := 25) (v := ?v47) rfl (by kernel_rfl) (by kernel_rfl) (by kernel_rfl) (fun _ _ _ h => h) (Or.inl ⟨by rfl, ?y47⟩) (by assumption) ?r47
      case y47 => (intro w hSw; (try dsimp only at hSw); first | (go_simp; done) | (go_simp; with_reducible rfl))
      (try simp only [List.getElem_toArray, List.getElem_cons_zero, List.getElem_cons_succ, Act.put, List.setIfInBounds_toArray, List.set_cons_zero, List.set_cons_succ])
      refine wpAnyH_take (i := 26) (v := ?v48) rfl (by kernel_rfl) (by kernel_rfl) (by kernel_rfl) (fun _ _ _ h => h) (Or.inl ⟨by rfl, ?y48⟩) (by assumption) ?r48
      case y48 => (intro w hSw; (try dsimp only at hSw); first | (go_simp; done) | (go_simp; with_reducible rfl))
      (try simp only [List.getElem_toArray, List.getElem_cons_zero, List.getElem_cons_succ, Act.put, List.setIfInBounds_toArray, List.set_cons_zero, List.set_cons_succ])
      refine wpAnyH_take (i := 27) (v := ?v49) rfl (by kernel_rfl) (by kernel_rfl) (by kernel_rfl) (fun _ _ _ h => h) (Or.inl ⟨by rfl, ?y49⟩) (by assumption) ?r49
      case y49 => (intro w hSw; (try dsimp only at hSw); first | (go_simp; done) | (go_simp; with_reducible rfl))
      (try simp only [List.getElem_toArray, List.getElem_cons_zero, List.getElem_cons_succ, Act.put, List.setIfInBounds_toArray, List.set_cons_zero, List.set_cons_succ])
      refine wpAnyH_ready (rs := [22]) (by kernel_rfl) (by simp) ?_
      refine AllReadyH.cons rfl (fun K hK => ?_) AllReadyH.nil
      go_simp
      go_at_call 53
      refine (HLA.out _).mono ?_
      rintro e w13 ⟨rfl, hb⟩
      have HW13 := Lib.hid (show Below w10.heap.size w10 w13 from HW12.out.trans (hb.mono HW12.out.size))
      clear hb
      first | (refine hK.out _ _ ?_ (fun hHeld => ?_)) | (go_wp2_with fail; refine hK.out _ _ ?_ (fun hHeld => ?_))
      · (try dsimp only)
        exact HS19.out _ HW13.out
      clear hK K
      (try simp only [List.getElem_toArray, List.getElem_cons_zero, List.getElem_cons_succ, Act.put, List.setIfInBounds_toArray, List.set_cons_zero, List.set_cons_succ])
      refine wpAnyH_take (i := 28) (v := ?v51) rfl (by kernel_rfl) (by kernel_rfl) (by kernel_rfl) (fun _ _ _ h => h) (Or.inl ⟨by rfl, ?y51⟩) (by assumption) ?r51
      case y51 => (intro w hSw; (try dsimp only at hSw); first | (go_simp; done) | (go_simp; with_reducible rfl))
      (try simp only [List.getElem_toArray, List.getElem_cons_zero, List.getElem_cons_succ, Act.put, List.setIfInBounds_toArray, List.set_cons_zero, List.set_cons_succ])
      refine wpAnyH_take (i := 29) (v := ?v52) rfl (by kernel_rfl) (by kernel_rfl) (by kernel_rfl) (fun _ _ _ h => h) (Or.inl ⟨by rfl, ?y52⟩) (by assumption) ?r52
      case y52 => (intro w hSw; (try dsimp only at hSw); first | (go_simp; done) | (go_simp; with_reducible rfl))
      (try simp only [List.getElem_toArray, List.getElem_cons_zero, List.getElem_cons_succ, Act.put, List.setIfInBounds_toArray, List.set_cons_zero, List.set_cons_succ])
      refine wpAnyH_take (i := 30) (v := ?v53) rfl (by kernel_rfl) (by kernel_rfl) (by kernel_rfl) (fun _ _ _ h => h) (Or.inl ⟨by rfl, ?y53⟩) (by assumption) ?r53
      case y53 => (intro w hSw; (try dsimp only at hSw); first | (go_simp; done) | (go_simp; with_reducible rfl))
      (try simp only [List.getElem_toArray, List.getElem_cons_zero, List.getElem_cons_succ, Act.put, List.setIfInBounds_toArray, List.set_cons_zero, List.set_cons_succ])
      refine wpAnyH_take (i := 31) (v := ?v54) rfl (by kernel_rfl) (by kernel_rfl) (by kernel_rfl) (fun _ _ _ h => h) (Or.inl ⟨by rfl, ?y54⟩) (by assumption) ?r54
      case y54 => (intro w hSw; (try dsimp only at hSw); first | (go_simp; done) | (go_simp; with_reducible rfl))
      (try simp only [List.getElem_toArray, List.getElem_cons_zero, List.getElem_cons_succ, Act.put, List.setIfInBounds_toArray, List.set_cons_zero, List.set_cons_succ])
      refine wpAnyH_take (i := 32) (v := ?v55) rfl (by kernel_rfl) (by kernel_rfl) (by kernel_rfl) (fun _ _ _ h => h) (Or.inl ⟨by rfl, ?y55⟩) (by assumption) ?r55
      case y55 => (intro w hSw; (try dsimp only at hSw); first | (go_simp; done) | (go_simp; with_reducible rfl))
      (try simp only [List.getElem_toArray, List.getElem_cons_zero, List.getElem_cons_succ, Act.put, List.setIfInBounds_toArray, List.set_cons_zero, List.set_cons_succ])
      refine wpAnyH_take (i := 33) (v := ?v56) rfl (by kernel_rfl) (by kernel_rfl) (by kernel_rfl) (fun _ _ _ h => h) (Or.inl ⟨by rfl, ?y56⟩) (by assumption) ?r56
      case y56 => (intro w hSw; (try dsimp only at hSw); first | (go_simp; done) | (go_simp; with_reducible rfl))
      (try simp only [List.getElem_toArray, List.getElem_cons_zero, List.getElem_cons_succ, Act.put, List.setIfInBounds_toArray, List.set_cons_zero, List.set_cons_succ])
      refine wpAnyH_take (i := 34) (v := ?v57) rfl (by kernel_rfl) (by kernel_rfl) (by kernel_rfl) (fun _ _ _ h => h) (Or.inl ⟨by rfl, ?y57⟩) (by assumption) ?r57
      case y57 => (intro w hSw; (try dsimp only at hSw); first | (go_simp; done) | (go_simp; with_reducible rfl))
      (try simp only [List.getElem_toArray, List.getElem_cons_zero, List.getElem_cons_succ, Act.put, List.setIfInBounds_toArray, List.set_cons_zero, List.set_cons_succ])
      refine wpAnyH_take (i := 35) (v := ?v58) rfl (by kernel_rfl) (by kernel_rfl) (by kernel_rfl) (fun _ _ _ h => h) (Or.inl ⟨by rfl, ?y58⟩) (by assumption) ?r58
      case y58 => (intro w hSw; (try dsimp only at hSw); first | (go_simp; done) | (go_simp; with_reducible rfl))
      (try simp only [List.getElem_toArray, List.getElem_cons_zero, List.getElem_cons_succ, Act.put, List.setIfInBounds_toArray, List.set_cons_zero, List.set_cons_succ])
      refine wpAnyH_take (i := 36) (v := ?v59) rfl (by kernel_rfl) (by kernel_rfl) (by kernel_rfl) (fun _ _ _ h => h) (Or.inl ⟨by rfl, ?y59⟩) (by assumption) ?r59
      case y59 => (intro w hSw; (try dsimp only at hSw); first | (go_simp; done) | (go_simp; with_reducible rfl))
      (try simp only [List.getElem_toArray, List.getElem_cons_zero, List.getElem_cons_succ, Act.put, List.setIfInBounds_toArray, List.set_cons_zero, List.set_cons_succ])
      refine wpAnyH_take (i := 37) (v := ?v60) rfl (by kernel_rfl) (by kernel_rfl) (by kernel_rfl) (fun _ _ _ h => h) (Or.inl ⟨by rfl, ?y60⟩) (by assumption) ?r60
      case y60 => (intro w hSw; (try dsimp only at hSw); first | (go_simp; done) | (go_simp; with_reducible rfl))
      (try simp only [List.getElem_toArray, List.getElem_cons_zero, List.getElem_cons_succ, Act.put, List.setIfInBounds_toArray, List.set_cons_zero, List.set_cons_succ])
      refine wpAnyH_take (i := 38) (v := ?v61) rfl (by kernel_rfl) (by kernel_rfl) (by kernel_rfl) (fun _ _ _ h => h) (Or.inl ⟨by rfl, ?y61⟩) (by assumption) ?r61
      case y61 => (intro w hSw; (try dsimp only at hSw); first | (go_simp; done) | (go_simp; with_reducible rfl))
      (try simp only [List.getElem_toArray, List.getElem_cons_zero, List.getElem_cons_succ, Act.put, List.setIfInBounds_toArray, List.set_cons_zero, List.set_cons_succ])
      refine wpAnyH_take (i := 39) (v := ?v62) rfl (by kernel_rfl) (by kernel_rfl) (by kernel_rfl) (fun _ _ _ h => h) (Or.inl ⟨by rfl, ?y62⟩) (by assumption) ?r62
      case y62 => (intro w hSw; (try dsimp only at hSw); first | (go_simp; done) | (go_simp; with_reducible rfl))
      (try simp only [List.getElem_toArray, List.getElem_cons_zero, List.getElem_cons_succ, Act.put, List.setIfInBounds_toArray, List.set_cons_zero, List.set_cons_succ])
      refine wpAnyH_take (i := 40) (v := ?v63) rfl (by kernel_rfl) (by kernel_rfl) (by kernel_rfl) (fun _ _ _ h => h) (Or.inl ⟨by rfl, ?y63⟩) (by assumption) ?r63
      case y63 => (intro w hSw; (try dsimp only at hSw); first | (go_simp; done) | (go_simp; with_reducible rfl))
      (try simp only [List.getElem_toArray, List.getElem_cons_zero, List.getElem_cons_succ, Act.put, List.setIfInBounds_toArray, List.set_cons_zero, List.set_cons_succ])
      refine wpAnyH_take (i := 41) (v := ?v64) rfl (by kernel_rfl) (by kernel_rfl) (by kernel_rfl) (fun _ _ _ h => h) (Or.inl ⟨by rfl, ?y64⟩) (by assumption) ?r64
      case y64 => (intro w hSw; (try dsimp only at hSw); first | (go_simp; done) | (go_simp; with_reducible rfl))
      (try simp only [List.getElem_toArray, List.getElem_cons_zero, List.getElem_cons_succ, Act.put, List.setIfInBounds_toArray, List.set_cons_zero, List.set_cons_succ])
      refine wpAnyH_take (i := 42) (v := ?v65) rfl (by kernel_rfl) (by kernel_rfl) (by kernel_rfl) (fun _ _ _ h => h) (Or.inl ⟨by rfl, ?y65⟩) (by assumption) ?r65
      case y65 => (intro w hSw; (try dsimp only at hSw); first | (go_simp; done) | (go_simp; with_reducible rfl))
      (try simp only [List.getElem_toArray, List.getElem_cons_zero, List.getElem_cons_succ, Act.put, List.setIfInBounds_toArray, List.set_cons_zero, List.set_cons_succ])
      refine wpAnyH_take (i := 43) (v := ?v66) rfl (by kernel_rfl) (by kernel_rfl) (by kernel_rfl) (fun _ _ _ h => h) (Or.inl ⟨by rfl, ?y66⟩) (by assumption) ?r66
      case y66 => (intro w hSw; (try dsimp only at hSw); first | (go_simp; done) | (go_simp; with_reducible rfl))
      (try simp only [List.getElem_toArray, List.getElem_cons_zero, List.getElem_cons_succ, Act.put, List.setIfInBounds_toArray, List.set_cons_zero, List.set_cons_succ])
      refine wpAnyH_take (i := 44) (v := ?v67) rfl (by kernel_rfl) (by kernel_rfl) (by kernel_rfl) (fun _ _ _ h => h) (Or.inl ⟨by rfl, ?y67⟩) (by assumption) ?r67
      case y67 => (intro w hSw; (try dsimp only at hSw); first | (go_simp; done) | (go_simp; with_reducible rfl))
      (try simp only [List.getElem_toArray, List.getElem_cons_zero, List.getElem_cons_succ, Act.put, List.setIfInBounds_toArray, List.set_cons_zero, List.set_cons_succ])
      refine wpAnyH_done (by kernel_rfl) ?_ _
      refine NoPanic.normal ?_
      have HT13 := Lib.hid (range_under HT10.out HW13.out (by omega))
      have hz13 := HW13.out.size
      have HWW13 := Lib.hid (HWW.out.trans (HW13.out.mono (by omega)))
      clear HS19 HW11 HW12 HT10 HW13 HC10 HB6b HW10 HWW
      go_wp2_with (refine wl_load_mid (by rfl) 99 (.tmp 12) rfl b5 0 rfl d.cells _ HT13.out Try.underlying99 rfl HIT.out ?_; rw [HCS.out])
      refine (HLA.out w13).mono ?_
      rintro e w14 ⟨rfl, hb14⟩
      have HT14 := Lib.hid (range_under HT13.out hb14 (by omega))
      have HWW14 := Lib.hid (HWW13.out.trans (hb14.mono (by omega)))
      have hz14 := hb14.size
      have hb5z : b5 < w14.heap.size := by omega
      obtain ⟨f0, _, f3⟩ := HFF.out w14 b5 HT14.out
      have hdl := HDL.out k hk
      have hds := HDN.out
      obtain ⟨s0, hs0⟩ : ∃ s0, ds k = s0 := ⟨_, rfl⟩
      rw [hs0] at hdl hds ⊢
      obtain ⟨hdl1, hdl2⟩ := hdl
      have hdl3 : s0 ≤ 5000000 := by omega
      have hDD1 := HDD.out.1
      have hDD2 := HDD.out.2
      have u3 : IntKind.i64.wrap (s0 + D) = s0 + D := by rw [IntKind.wrap_i64]; omega
      have HSM := Lib.hid hds
      clear hb14 HT13 HWW13 hdl2 hs0 hds HLA
      by_cases hl : k + 1 = m
      · obtain ⟨hKk, hXk⟩ := HKF.out.1 hl
        have hbt : bl = true := by rw [← hq3]; simpa using hl
        subst hKk hXk hbt
        have hKK : (K != K) = false := by simp
        clear hq1 hq2 hq3 hq4 hbb
        go_wp2_with (refine wl_load_mid (by rfl) 99 (.tmp 12) rfl b5 0 rfl d.cells _ HT14.out Try.underlying99 rfl HIT.out ?_; rw [HCS.out])
        refine (HWA.out w14).mono ?_
        rintro e w15 ⟨rfl, hb15⟩
        have HWW15 := Lib.hid (HWW14.out.trans (hb15.mono (by omega)))
        clear hb15
        go_wp2_with fail
        exact ⟨⟨k + 1, by omega, by go_num, by rw [HSM.out], HWW15.out⟩, by simp [intOf]; omega⟩
      · have hm1 : k + 1 < m := by omega
        obtain ⟨hKk, hXk⟩ := HKF.out.2 hl
        have hbt : bl = false := by rw [← hq3]; simpa using hl
        subst hKk hbt
        have hks1 : k + 1 < ss.length := by rw [HSL.out]; exact hm1
        have hmt1 := HMT.out (k + 1) hks1
        have HB14 := Lib.hid (HB6.out.trans (HWW14.out.mono hB6))
        obtain ⟨bs', offs', hAe', hbs', c0n, _, _⟩ := stop_at (HS.out.below HB14.out) hm1
        simp only [Option.some.injEq, Addr.mk.injEq, and_true] at hAe'
        obtain ⟨rfl, rfl⟩ := hAe'
        obtain ⟨sn1, hsn1⟩ : ∃ sn1, (sat ss (k + 1)).nm = sn1 := ⟨_, rfl⟩
        rw [hsn1] at c0n
        have HAT := Lib.hid (show ∀ (W : World) (A : Option Addr) (c B : Nat), RR W B 66 A n (ns.map Hp.node) → B ≤ W.heap.size → Calls Try.prog 54 #[.slice A n c, .int .u64 XX] W (fun e w' => Below W.heap.size W w' ∧ ∃ na nmj, e = .returned (.tuple #[.agg na, .int .i64 0]) ∧ na.size = 66 ∧ na[0]? = some (.string nmj) ∧ nmj.toList = sn1.toList ∧ ∀ v ∈ na.toList, v.oneCell' = true) from fun W A c B h hB => by
          refine (At_any A n c ns XX W B h HOK.out hB (by omega) HCK.out).mono ?_
          rintro e w' ⟨hb, hres⟩
          rw [HL.out] at hres
          rcases hres with ⟨j, hj, hid, _, rfl⟩ | ⟨hno, rfl⟩
          · have hnj := HOK.out _ (hat_mem (hs := ns) (k := j) (by rw [HL.out]; exact hj))
            exact ⟨hb, (hat ns j).node.toArray, (hat ns j).nm, rfl, by rw [List.size_toArray, Hp.node_len hnj], rfl, by rw [← hsn1]; exact met_at HCK.out hmt1 (by rw [HL.out]; exact hj) (hid.trans hXk), by simpa using Hp.node_one hnj⟩
          · obtain ⟨j, hj, hid⟩ := met_found hmt1
            exact absurd (hid.trans hXk.symm) (hno j (by rw [← HL.out]; exact hj)))
        have HNO := Lib.hid (show ∀ W : World, Below w.heap.size w W → Calls Try.prog 48 #[.slice A n c] W (fun e w' => ∃ A' c', e = .returned (.slice A' n c') ∧ RR w' w'.heap.size 66 A' n (ns.map Hp.node) ∧ Below W.heap.size W w') from fun W hb => nodes_any A n c ns W w.heap.size (HR.out.below hb) HOK.out hb.size hn)
        have hzN : ∀ w : World, (zeroValue 106).run Try.prog w = .ok (.agg zc) w := fun w => by rw [← HZC.out]; exact zero_node w
        have hzs6 := HZS.out
        have hze6 : ¬ zc = #[] := by intro h; rw [h] at hzs6; cases hzs6
        have hbsz : bs < w14.heap.size := by omega
        have i3 : (k : Int) + 1 < (m : Int) := by omega
        have i4 : 0 ≤ (k : Int) + 1 := by omega
        have i5 : ((k : Int) + 1).toNat = k + 1 := by omega
        clear hq1 hq2 hq3 hq4 hbb hsn1 hmt1 hXk f0
        go_wp2_with fail
        refine wp_region_noPanic ?_
        refine wp_region_held_drew (S := (fun W => W.cell? ⟨b5, 3, none⟩ = some (.int .u64 XX))) (by kernel_rfl) ?_ (fun hHeld => ?_)
        · (try dsimp only)
          exact f3
        refine wpAnyH_take (i := 0) (v := ?v68) rfl (by kernel_rfl) (by kernel_rfl) (by kernel_rfl) (fun _ _ _ h => h) (Or.inl ⟨by rfl, ?y68⟩) (by assumption) ?r68
        case y68 => (intro w hSw; (try dsimp only at hSw); first | (go_simp; done) | (go_simp; with_reducible rfl))
        (try simp only [List.getElem_toArray, List.getElem_cons_zero, Act.put, List.setIfInBounds_toArray, List.set_cons_zero, List.set_cons_succ])
        refine wpAnyH_take (i := 2) (v := ?v69) rfl (by kernel_rfl) (by kernel_rfl) (by kernel_rfl) (fun _ _ _ h => h) (Or.inl ⟨by rfl, ?y69⟩) (by assumption) ?r69
        case y69 => (intro w hSw; (try dsimp only at hSw); first | (go_simp; done) | (go_simp; with_reducible rfl))
        (try simp only [List.getElem_toArray, List.getElem_cons_zero, List.getElem_cons_succ, Act.put, List.setIfInBounds_toArray, List.set_cons_zero, List.set_cons_succ])
        refine wpAnyH_take (i := 3) (v := ?v70) rfl (by kernel_rfl) (by kernel_rfl) (by kernel_rfl) (fun _ _ _ h => h) (Or.inl ⟨by rfl, ?y70⟩) (by assumption) ?r70
        case y70 => (intro w hSw; (try dsimp only at hSw); first | (go_simp; done) | (go_simp; with_reducible rfl))
        (try simp only [List.getElem_toArray, List.getElem_cons_zero, List.getElem_cons_succ, Act.put, List.setIfInBounds_toArray, List.set_cons_zero, List.set_cons_succ])
        refine wpAnyH_take (i := 4) (v := ?v71) rfl (by kernel_rfl) (by kernel_rfl) (by kernel_rfl) (fun _ _ _ h => h) (Or.inl ⟨by rfl, ?y71⟩) (by assumption) ?r71
        case y71 => (intro w hSw; (try dsimp only at hSw); first | (go_simp; done) | (go_simp; with_reducible rfl))
        (try simp only [List.getElem_toArray, List.getElem_cons_zero, List.getElem_cons_succ, Act.put, List.setIfInBounds_toArray, List.set_cons_zero, List.set_cons_succ])
        refine wpAnyH_ready (rs := [1, 9]) (by kernel_rfl) (by simp) ?_
        refine AllReadyH.cons rfl (fun K hK => ?_) ?_
        · skip
          go_simp
          go_at_call 48
          refine (HNO.out w14.drew (HB14.out.drew)).mono ?_
          rintro e w15 ⟨A7, c7, rfl, hr7, hbn⟩
          have hbn' : Below w14.heap.size w14 w15 := ((Below.refl _ _).drew).trans hbn
          have hz15 := hbn'.size
          have s15 : w15.cell? ⟨b5, 3, none⟩ = some (.int .u64 XX) := (hbn'.cell (p := ⟨b5, 3, none⟩) hb5z).trans f3
          clear hbn
          first | (refine hK.out _ _ ?_ (fun hHeld => ?_)) | (go_wp2_with fail; refine hK.out _ _ ?_ (fun hHeld => ?_))
          · (try dsimp only)
            exact s15
          clear hK K
          (try simp only [List.getElem_toArray, List.getElem_cons_zero, List.getElem_cons_succ, Act.put, List.setIfInBounds_toArray, List.set_cons_zero, List.set_cons_succ])
          refine wpAnyH_ready (rs := [5, 9]) (by kernel_rfl) (by simp) ?_
          refine AllReadyH.cons rfl (fun K hK => ?_) ?_
          · skip
            go_simp
            go_at_call 54
            refine (HAT.out w15 A7 c7 _ (hr7) (Nat.le_refl _)).mono ?_
            rintro e w16 ⟨hba, na, nmj, rfl, hns, hn0, hnn6, hone⟩
            have hnae : ¬ na = #[] := by intro h; rw [h] at hns; cases hns
            have hb16 : Below w14.heap.size w14 w16 := hbn'.trans (hba.mono hz15)
            have hz16 := hb16.size
            have s16 := (hb16.cell (p := ⟨b5, 3, none⟩) hb5z).trans f3
            have hb17 := hb16.alloc hz16 (.cells zc 106)
            have s17 := (hb17.cell (p := ⟨b5, 3, none⟩) hb5z).trans f3
            have hnew := heap_alloc_new w16 (.cells zc 106)
            have hst : (storeCells ⟨w16.heap.size, 0, none⟩ na.toList).run Try.prog (w16.alloc (.cells zc 106)) = .ok () ((w16.alloc (.cells zc 106)).setRow w16.heap.size na) := run_cells_whole (w16.alloc (.cells zc 106)) _ _ _ _ hnew (by omega) hone
            have hxz : ((w16.alloc (.cells zc 106)).setRow w16.heap.size na).heap[w16.heap.size]? = some (.cells na 106 (0, 0)) := setRow_heap _ _ _ _ _ _ hnew
            have hbz : Below w14.heap.size w14 ((w16.alloc (.cells zc 106)).setRow w16.heap.size na) := below_setRow (hb17) (by show w14.heap.size ≤ _; first | exact Nat.le_refl _ | omega) na
            have s18 := (hbz.cell (p := ⟨b5, 3, none⟩) hb5z).trans f3
            clear hba hb16 hb17 s15 hr7
            first | (refine hK.out _ _ ?_ (fun hHeld => ?_)) | (go_wp2_with fail; refine hK.out _ _ ?_ (fun hHeld => ?_))
            · (try dsimp only)
              exact s16
            clear hK K
            (try simp only [List.getElem_toArray, List.getElem_cons_zero, List.getElem_cons_succ, Act.put, List.setIfInBounds_toArray, List.set_cons_zero, List.set_cons_succ])
            refine wpAnyH_take (i := 6) (v := ?v72) rfl (by kernel_rfl) (by kernel_rfl) (by kernel_rfl) (fun _ _ _ h => h) (Or.inl ⟨by rfl, ?y72⟩) (by assumption) ?r72
            case y72 => (intro w hSw; (try dsimp only at hSw); first | (go_simp; done) | (go_simp; with_reducible rfl))
            (try simp only [List.getElem_toArray, List.getElem_cons_zero, List.getElem_cons_succ, Act.put, List.setIfInBounds_toArray, List.set_cons_zero, List.set_cons_succ])
            refine wpAnyH_take (i := 7) (v := ?v73) rfl (by kernel_rfl) (by kernel_rfl) (by kernel_rfl) (fun _ _ _ h => h) (Or.inl ⟨by rfl, ?y73⟩) (by assumption) ?r73
            case y73 => (intro w hSw; (try dsimp only at hSw); first | (go_simp; done) | (go_simp; with_reducible rfl))
            (try simp only [List.getElem_toArray, List.getElem_cons_zero, List.getElem_cons_succ, Act.put, List.setIfInBounds_toArray, List.set_cons_zero, List.set_cons_succ])
            refine wpAnyH_take (i := 8) (v := ?v74) rfl (by kernel_rfl) (by kernel_rfl) (by kernel_rfl) (fun _ _ _ h => h) (Or.inl ⟨by rfl, ?y74⟩) (by assumption) ?r74
            case y74 => (intro w hSw; (try dsimp only at hSw); first | (go_simp; done) | (go_simp; with_reducible rfl))
            (try simp only [List.getElem_toArray, List.getElem_cons_zero, List.getElem_cons_succ, Act.put, List.setIfInBounds_toArray, List.set_cons_zero, List.set_cons_succ])
            refine wpAnyH_ready (rs := [9]) (by kernel_rfl) (by simp) ?_
            refine AllReadyH.cons rfl (fun K hK => ?_) AllReadyH.nil
            go_simp
            first | (refine hK.out _ _ ?_ (fun hHeld => ?_)) | (go_wp2_with fail; refine hK.out _ _ ?_ (fun hHeld => ?_))
            · (try dsimp only)
              exact s17
            clear hK K
            (try simp only [List.getElem_toArray, List.getElem_cons_zero, List.getElem_cons_succ, Act.put, List.setIfInBounds_toArray, List.set_cons_zero, List.set_cons_succ])
            refine wpAnyH_ready (rs := [10]) (by kernel_rfl) (by simp) ?_
            refine AllReadyH.cons rfl (fun K hK => ?_) AllReadyH.nil
            go_simp
            first | (refine hK.out _ _ ?_ (fun hHeld => ?_)) | (go_wp2_with fail; refine hK.out _ _ ?_ (fun hHeld => ?_))
            · (try dsimp only)
              exact s18
            clear hK K
            (try simp only [List.getElem_toArray, List.getElem_cons_zero, List.getElem_cons_succ, Act.put, List.setIfInBounds_toArray, List.set_cons_zero, List.set_cons_succ])
            refine wpAnyH_take (i := 11) (v := ?v75) rfl (by kernel_rfl) (by kernel_rfl) (by kernel_rfl) (fun _ _ _ h => h) (Or.inl ⟨by rfl, ?y75⟩) (by assumption) ?r75
            case y75 => (intro w hSw; (try dsimp only at hSw); first | (go_simp; done) | (go_simp; with_reducible rfl))
            (try simp only [List.getElem_toArray, List.getElem_cons_zero, List.getElem_cons_succ, Act.put, List.setIfInBounds_toArray, List.set_cons_zero, List.set_cons_succ])
            refine wpAnyH_done (by kernel_rfl) ?_ _
            refine NoPanic.normal ?_
            have HTZ := Lib.hid (range_under HT14.out hbz hb5z)
            have HWZ := Lib.hid (HWW14.out.trans (hbz.mono (by omega)))
            have hzz : w14.heap.size ≤ ((w16.alloc (.cells zc 106)).setRow w16.heap.size na).heap.size := hbz.size
            have c0z := (hbz.cell (p := ⟨bs, offs + (k + 1) * 3, none⟩) hbsz).trans c0n
            have hx0 : ((w16.alloc (.cells zc 106)).setRow w16.heap.size na).cell? ⟨w16.heap.size, 0, none⟩ = some (.string nmj) := by rw [blk_cell hxz]; exact hn0
            have hnm3 : (nmj.toList == sn1.toList) = true := by rw [beq_iff_eq]; exact hnn6
            have hnm4 : (nmj.toList != sn1.toList) = false := by simp [bne, hnm3]
            clear hst hxz hbz hn0 hnn6 hone c0n f3
            generalize (w16.alloc (.cells zc 106)).setRow w16.heap.size na = wz at *
            generalize w16.heap.size = gx at *
            go_wp2_with fail
            go_quiet (fail)
            have HTZ' := Lib.hid (show (wz.drewN nq).rangeAt b5 0 d.cells from HTZ.out)
            have HWZ' := Lib.hid (below_drewN HWZ.out nq)
            have hzz' : w14.heap.size ≤ (wz.drewN nq).heap.size := hzz
            clear HTZ HWZ hzz hx0 c0z
            generalize wz.drewN nq = wy at *
            go_wp2_with (refine wl_load_mid (by rfl) 99 (.tmp 12) rfl b5 0 rfl d.cells _ HTZ'.out Try.underlying99 rfl HIT.out ?_; rw [HCS.out])
            refine (HWA.out wy).mono ?_
            rintro e wx ⟨rfl, hbx⟩
            have HWX := Lib.hid (HWZ'.out.trans (hbx.mono (by omega)))
            clear hbx
            go_wp2_with fail
            exact ⟨⟨k + 1, by omega, by go_num, by rw [HSM.out], HWX.out⟩, by simp [intOf]; omega⟩
          · refine AllReadyH.cons rfl (fun K hK => ?_) AllReadyH.nil
            go_simp
            have hb17 := hbn'.alloc hz15 (.cells zc 106)
            have s17 := (hb17.cell (p := ⟨b5, 3, none⟩) hb5z).trans f3
            have hnew := heap_alloc_new w15 (.cells zc 106)
            have hr17 := hr7.below ((Below.refl w15.heap.size w15).alloc (Nat.le_refl _) (.cells zc 106))
            have hz17 : (w15.alloc (.cells zc 106)).heap.size = w15.heap.size + 1 := by simp
            first | (refine hK.out _ _ ?_ (fun hHeld => ?_)) | (go_wp2_with fail; refine hK.out _ _ ?_ (fun hHeld => ?_))
            · (try dsimp only)
              exact s17
            clear hK K
            (try simp only [List.getElem_toArray, List.getElem_cons_zero, List.getElem_cons_succ, Act.put, List.setIfInBounds_toArray, List.set_cons_zero, List.set_cons_succ])
            refine wpAnyH_ready (rs := [5]) (by kernel_rfl) (by simp) ?_
            refine AllReadyH.cons rfl (fun K hK => ?_) AllReadyH.nil
            go_simp
            go_at_call 54
            refine (HAT.out (w15.alloc (.cells zc 106)) A7 c7 _ (hr17) (by rw [hz17]; omega)).mono ?_
            rintro e w16 ⟨hba, na, nmj, rfl, hns, hn0, hnn6, hone⟩
            have hnae : ¬ na = #[] := by intro h; rw [h] at hns; cases hns
            have hb16 : Below w14.heap.size w14 w16 := hb17.trans (hba.mono (by rw [hz17]; omega))
            have s16 := (hb16.cell (p := ⟨b5, 3, none⟩) hb5z).trans f3
            have hnew' := (hba.block w15.heap.size (by rw [hz17]; omega)).trans hnew
            have hst : (storeCells ⟨w15.heap.size, 0, none⟩ na.toList).run Try.prog w16 = .ok () (w16.setRow w15.heap.size na) := run_cells_whole w16 _ _ _ _ hnew' (by omega) hone
            have hxz : (w16.setRow w15.heap.size na).heap[w15.heap.size]? = some (.cells na 106 (0, 0)) := setRow_heap _ _ _ _ _ _ hnew'
            have hbz : Below w14.heap.size w14 (w16.setRow w15.heap.size na) := below_setRow (hb16) (by show w14.heap.size ≤ _; first | exact Nat.le_refl _ | omega) na
            have s18 := (hbz.cell (p := ⟨b5, 3, none⟩) hb5z).trans f3
            have hz16 := hb16.size
            clear hba hb16 hb17 hr7 hr17 s15 s17 hnew hnew'
            first | (refine hK.out _ _ ?_ (fun hHeld => ?_)) | (go_wp2_with fail; refine hK.out _ _ ?_ (fun hHeld => ?_))
            · (try dsimp only)
              exact s16
            clear hK K
            (try simp only [List.getElem_toArray, List.getElem_cons_zero, List.getElem_cons_succ, Act.put, List.setIfInBounds_toArray, List.set_cons_zero, List.set_cons_succ])
            refine wpAnyH_take (i := 6) (v := ?v76) rfl (by kernel_rfl) (by kernel_rfl) (by kernel_rfl) (fun _ _ _ h => h) (Or.inl ⟨by rfl, ?y76⟩) (by assumption) ?r76
            case y76 => (intro w hSw; (try dsimp only at hSw); first | (go_simp; done) | (go_simp; with_reducible rfl))
            (try simp only [List.getElem_toArray, List.getElem_cons_zero, List.getElem_cons_succ, Act.put, List.setIfInBounds_toArray, List.set_cons_zero, List.set_cons_succ])
            refine wpAnyH_take (i := 7) (v := ?v77) rfl (by kernel_rfl) (by kernel_rfl) (by kernel_rfl) (fun _ _ _ h => h) (Or.inl ⟨by rfl, ?y77⟩) (by assumption) ?r77
            case y77 => (intro w hSw; (try dsimp only at hSw); first | (go_simp; done) | (go_simp; with_reducible rfl))
            (try simp only [List.getElem_toArray, List.getElem_cons_zero, List.getElem_cons_succ, Act.put, List.setIfInBounds_toArray, List.set_cons_zero, List.set_cons_succ])
            refine wpAnyH_take (i := 8) (v := ?v78) rfl (by kernel_rfl) (by kernel_rfl) (by kernel_rfl) (fun _ _ _ h => h) (Or.inl ⟨by rfl, ?y78⟩) (by assumption) ?r78
            case y78 => (intro w hSw; (try dsimp only at hSw); first | (go_simp; done) | (go_simp; with_reducible rfl))
            (try simp only [List.getElem_toArray, List.getElem_cons_zero, List.getElem_cons_succ, Act.put, List.setIfInBounds_toArray, List.set_cons_zero, List.set_cons_succ])
            refine wpAnyH_ready (rs := [10]) (by kernel_rfl) (by simp) ?_
            refine AllReadyH.cons rfl (fun K hK => ?_) AllReadyH.nil
            go_simp
            first | (refine hK.out _ _ ?_ (fun hHeld => ?_)) | (go_wp2_with fail; refine hK.out _ _ ?_ (fun hHeld => ?_))
            · (try dsimp only)
              exact s18
            clear hK K
            (try simp only [List.getElem_toArray, List.getElem_cons_zero, List.getElem_cons_succ, Act.put, List.setIfInBounds_toArray, List.set_cons_zero, List.set_cons_succ])
            refine wpAnyH_take (i := 11) (v := ?v79) rfl (by kernel_rfl) (by kernel_rfl) (by kernel_rfl) (fun _ _ _ h => h) (Or.inl ⟨by rfl, ?y79⟩) (by assumption) ?r79
            case y79 => (intro w hSw; (try dsimp only at hSw); first | (go_simp; done) | (go_simp; with_reducible rfl))
            (try simp only [List.getElem_toArray, List.getElem_cons_zero, List.getElem_cons_succ, Act.put, List.setIfInBounds_toArray, List.set_cons_zero, List.set_cons_succ])
            refine wpAnyH_done (by kernel_rfl) ?_ _
            refine NoPanic.normal ?_
            have HTZ := Lib.hid (range_under HT14.out hbz hb5z)
            have HWZ := Lib.hid (HWW14.out.trans (hbz.mono (by omega)))
            have hzz : w14.heap.size ≤ (w16.setRow w15.heap.size na).heap.size := hbz.size
            have c0z := (hbz.cell (p := ⟨bs, offs + (k + 1) * 3, none⟩) hbsz).trans c0n
            have hx0 : (w16.setRow w15.heap.size na).cell? ⟨w15.heap.size, 0, none⟩ = some (.string nmj) := by rw [blk_cell hxz]; exact hn0
            have hnm3 : (nmj.toList == sn1.toList) = true := by rw [beq_iff_eq]; exact hnn6
            have hnm4 : (nmj.toList != sn1.toList) = false := by simp [bne, hnm3]
            clear hst hxz hbz hn0 hnn6 hone c0n f3
            generalize w16.setRow w15.heap.size na = wz at *
            generalize w15.heap.size = gx at *
            go_wp2_with fail
            go_quiet (fail)
            have HTZ' := Lib.hid (show (wz.drewN nq).rangeAt b5 0 d.cells from HTZ.out)
            have HWZ' := Lib.hid (below_drewN HWZ.out nq)
            have hzz' : w14.heap.size ≤ (wz.drewN nq).heap.size := hzz
            clear HTZ HWZ hzz hx0 c0z
            generalize wz.drewN nq = wy at *
            go_wp2_with (refine wl_load_mid (by rfl) 99 (.tmp 12) rfl b5 0 rfl d.cells _ HTZ'.out Try.underlying99 rfl HIT.out ?_; rw [HCS.out])
            refine (HWA.out wy).mono ?_
            rintro e wx ⟨rfl, hbx⟩
            have HWX := Lib.hid (HWZ'.out.trans (hbx.mono (by omega)))
            clear hbx
            go_wp2_with fail
            exact ⟨⟨k + 1, by omega, by go_num, by rw [HSM.out], HWX.out⟩, by simp [intOf]; omega⟩
        · refine AllReadyH.cons rfl (fun K hK => ?_) AllReadyH.nil
          go_simp
          have hb17 := ((Below.refl w14.heap.size w14).drew).alloc (show w14.heap.size ≤ w14.drew.heap.size from Nat.le_refl _) (.cells zc 106)
          have s17 := (hb17.cell (p := ⟨b5, 3, none⟩) hb5z).trans f3
          have hnew := heap_alloc_new w14.drew (.cells zc 106)
          have hz17 : (w14.drew.alloc (.cells zc 106)).heap.size = w14.heap.size + 1 := by simp
          first | (refine hK.out _ _ ?_ (fun hHeld => ?_)) | (go_wp2_with fail; refine hK.out _ _ ?_ (fun hHeld => ?_))
          · (try dsimp only)
            exact s17
          clear hK K
          (try simp only [List.getElem_toArray, List.getElem_cons_zero, List.getElem_cons_succ, Act.put, List.setIfInBounds_toArray, List.set_cons_zero, List.set_cons_succ])
          refine wpAnyH_ready (rs := [1]) (by kernel_rfl) (by simp) ?_
          refine AllReadyH.cons rfl (fun K hK => ?_) AllReadyH.nil
          go_simp
          go_at_call 48
          refine (HNO.out (w14.drew.alloc (.cells zc 106)) (HB14.out.trans (hb17.mono HB14.out.size))).mono ?_
          rintro e w15 ⟨A7, c7, rfl, hr7, hbn⟩
          have hbn' : Below w14.heap.size w14 w15 := hb17.trans (hbn.mono (by rw [hz17]; omega))
          have s15 := (hbn'.cell (p := ⟨b5, 3, none⟩) hb5z).trans f3
          have hnew2 := (hbn.block w14.heap.size (by rw [hz17]; omega)).trans hnew
          have hz15 : w14.heap.size < w15.heap.size := by have := hbn.size; rw [hz17] at this; omega
          first | (refine hK.out _ _ ?_ (fun hHeld => ?_)) | (go_wp2_with fail; refine hK.out _ _ ?_ (fun hHeld => ?_))
          · (try dsimp only)
            exact s15
          clear hK K
          (try simp only [List.getElem_toArray, List.getElem_cons_zero, List.getElem_cons_succ, Act.put, List.setIfInBounds_toArray, List.set_cons_zero, List.set_cons_succ])
          refine wpAnyH_ready (rs := [5]) (by kernel_rfl) (by simp) ?_
          refine AllReadyH.cons rfl (fun K hK => ?_) AllReadyH.nil
          go_simp
          go_at_call 54
          refine (HAT.out w15 A7 c7 _ (hr7) (Nat.le_refl _)).mono ?_
          rintro e w16 ⟨hba, na, nmj, rfl, hns, hn0, hnn6, hone⟩
          have hnae : ¬ na = #[] := by intro h; rw [h] at hns; cases hns
          have hb16 : Below w14.heap.size w14 w16 := hbn'.trans (hba.mono (by omega))
          have s16 := (hb16.cell (p := ⟨b5, 3, none⟩) hb5z).trans f3
          have hnew' := (hba.block w14.heap.size (by omega)).trans hnew2
          have hst : (storeCells ⟨w14.heap.size, 0, none⟩ na.toList).run Try.prog w16 = .ok () (w16.setRow w14.heap.size na) := run_cells_whole w16 _ _ _ _ hnew' (by omega) hone
          have hxz : (w16.setRow w14.heap.size na).heap[w14.heap.size]? = some (.cells na 106 (0, 0)) := setRow_heap _ _ _ _ _ _ hnew'
          have hbz : Below w14.heap.size w14 (w16.setRow w14.heap.size na) := below_setRow (hb16) (by show w14.heap.size ≤ _; first | exact Nat.le_refl _ | omega) na
          have s18 := (hbz.cell (p := ⟨b5, 3, none⟩) hb5z).trans f3
          have hz16 := hb16.size
          clear hba hb16 hb17 hr7 s15 s17 hnew hnew' hnew2
          first | (refine hK.out _ _ ?_ (fun hHeld => ?_)) | (go_wp2_with fail; refine hK.out _ _ ?_ (fun hHeld => ?_))
          · (try dsimp only)
            exact s16
          clear hK K
          (try simp only [List.getElem_toArray, List.getElem_cons_zero, List.getElem_cons_succ, Act.put, List.setIfInBounds_toArray, List.set_cons_zero, List.set_cons_succ])
          refine wpAnyH_take (i := 6) (v := ?v80) rfl (by kernel_rfl) (by kernel_rfl) (by kernel_rfl) (fun _ _ _ h => h) (Or.inl ⟨by rfl, ?y80⟩) (by assumption) ?r80
          case y80 => (intro w hSw; (try dsimp only at hSw); first | (go_simp; done) | (go_simp; with_reducible rfl))
          (try simp only [List.getElem_toArray, List.getElem_cons_zero, List.getElem_cons_succ, Act.put, List.setIfInBounds_toArray, List.set_cons_zero, List.set_cons_succ])
          refine wpAnyH_take (i := 7) (v := ?v81) rfl (by kernel_rfl) (by kernel_rfl) (by kernel_rfl) (fun _ _ _ h => h) (Or.inl ⟨by rfl, ?y81⟩) (by assumption) ?r81
          case y81 => (intro w hSw; (try dsimp only at hSw); first | (go_simp; done) | (go_simp; with_reducible rfl))
          (try simp only [List.getElem_toArray, List.getElem_cons_zero, List.getElem_cons_succ, Act.put, List.setIfInBounds_toArray, List.set_cons_zero, List.set_cons_succ])
          refine wpAnyH_take (i := 8) (v := ?v82) rfl (by kernel_rfl) (by kernel_rfl) (by kernel_rfl) (fun _ _ _ h => h) (Or.inl ⟨by rfl, ?y82⟩) (by assumption) ?r82
          case y82 => (intro w hSw; (try dsimp only at hSw); first | (go_simp; done) | (go_simp; with_reducible rfl))
          (try simp only [List.getElem_toArray, List.getElem_cons_zero, List.getElem_cons_succ, Act.put, List.setIfInBounds_toArray, List.set_cons_zero, List.set_cons_succ])
          refine wpAnyH_ready (rs := [10]) (by kernel_rfl) (by simp) ?_
          refine AllReadyH.cons rfl (fun K hK => ?_) AllReadyH.nil
          go_simp
          first | (refine hK.out _ _ ?_ (fun hHeld => ?_)) | (go_wp2_with fail; refine hK.out _ _ ?_ (fun hHeld => ?_))
          · (try dsimp only)
            exact s18
          clear hK K
          (try simp only [List.getElem_toArray, List.getElem_cons_zero, List.getElem_cons_succ, Act.put, List.setIfInBounds_toArray, List.set_cons_zero, List.set_cons_succ])
          refine wpAnyH_take (i := 11) (v := ?v83) rfl (by kernel_rfl) (by kernel_rfl) (by kernel_rfl) (fun _ _ _ h => h) (Or.inl ⟨by rfl, ?y83⟩) (by assumption) ?r83
          case y83 => (intro w hSw; (try dsimp only at hSw); first | (go_simp; done) | (go_simp; with_reducible rfl))
          (try simp only [List.getElem_toArray, List.getElem_cons_zero, List.getElem_cons_succ, Act.put, List.setIfInBounds_toArray, List.set_cons_zero, List.set_cons_succ])
          refine wpAnyH_done (by kernel_rfl) ?_ _
          refine NoPanic.normal ?_
          have HTZ := Lib.hid (range_under HT14.out hbz hb5z)
          have HWZ := Lib.hid (HWW14.out.trans (hbz.mono (by omega)))
          have hzz : w14.heap.size ≤ (w16.setRow w14.heap.size na).heap.size := hbz.size
          have c0z := (hbz.cell (p := ⟨bs, offs + (k + 1) * 3, none⟩) hbsz).trans c0n
          have hx0 : (w16.setRow w14.heap.size na).cell? ⟨w14.heap.size, 0, none⟩ = some (.string nmj) := by rw [blk_cell hxz]; exact hn0
          have hnm3 : (nmj.toList == sn1.toList) = true := by rw [beq_iff_eq]; exact hnn6
          have hnm4 : (nmj.toList != sn1.toList) = false := by simp [bne, hnm3]
          clear hst hxz hbz hn0 hnn6 hone c0n f3
          generalize w16.setRow w14.heap.size na = wz at *
          go_wp2_with fail
          go_quiet (fail)
          have HTZ' := Lib.hid (show (wz.drewN nq).rangeAt b5 0 d.cells from HTZ.out)
          have HWZ' := Lib.hid (below_drewN HWZ.out nq)
          have hzz' : w14.heap.size ≤ (wz.drewN nq).heap.size := hzz
          clear HTZ HWZ hzz hx0 c0z
          generalize wz.drewN nq = wy at *
          go_wp2_with (refine wl_load_mid (by rfl) 99 (.tmp 12) rfl b5 0 rfl d.cells _ HTZ'.out Try.underlying99 rfl HIT.out ?_; rw [HCS.out])
          refine (HWA.out wy).mono ?_
          rintro e wx ⟨rfl, hbx⟩
          have HWX := Lib.hid (HWZ'.out.trans (hbx.mono (by omega)))
          clear hbx
          go_wp2_with fail
          exact ⟨⟨k + 1, by omega, by go_num, by rw [HSM.out], HWX.out⟩, by simp [intOf]; omega⟩
    · obtain rfl : k = m := by omega
      go_wp2_with fail
      refine (HTOT.out wr (HHR6.out.below (HW.out.mono (by omega)))).mono ?_
      rintro e w7 ⟨rfl, md', rfl⟩
      have HBF := Lib.hid (below_drewN (HB6.out.trans (HW.out.mono HB6.out.size)) md')
      generalize wr.drewN md' = w7 at *
      go_wp2_with fail
      go_ret
      exact ⟨rfl, HBF.out⟩
end Go.Proofs.Ytobmopjfbgkfbaa
