/-
  The walk of shallotlaw04.ChachaKeeps: it returns true; nothing that was there has turned. Conditions: the sizes that slices can have.
-/
import Derived.Test.YtbnlpahgpphpjaaChaLaw
import Derived.Test.YtbnlpahgpphpjaaChaLists
import Derived.Test.YtbnlpahgpphpjaaOver
import Derived.Test.YtbnlpahgpphpjaaApart
namespace Go.Proofs.Ytbnlpahgpphpjaa
open Go Go.RowKit Go.Sh

theorem clist_length (key : List UInt8) (kl : Nat) (l : List UInt8) : (clist key kl l).length ≤ 5 := by
  unfold clist
  split <;> simp
theorem clist_small (key : List UInt8) (kl : Nat) (l : List UInt8) : ∀ x ∈ clist key kl l, x.length ≤ 65536 := by
  intro x hx
  have h1 : (strL key kl 70).length ≤ 65536 := by
    unfold strL
    split
    · rw [length_sbytes]; decide
    · simp
  unfold clist at hx
  rw [List.mem_append] at hx
  rcases hx with hx | hx
  · simp only [List.mem_cons, List.not_mem_nil, or_false] at hx
    rcases hx with rfl | rfl | rfl
    · exact h1
    · exact length_cturnL _ _ _
    · exact length_cturnL _ _ _
  · split at hx
    · simp only [List.mem_cons, List.not_mem_nil, or_false] at hx
      rcases hx with rfl | rfl
      · rw [length_sbytes]; decide
      · exact length_trnL _ _ _
    · simp at hx

set_option maxHeartbeats 4000000 in
theorem ChachaKeeps_walk (A : Option Addr) (kl c : Nat) (key : List UInt8) (A' : Option Addr) (n c' : Nat) (l : List UInt8) (w : World) (hk : RB w w.heap.size A kl key) (hkl : kl ≤ 140737488351232) (hl : RB w w.heap.size A' n l) (hn : n ≤ 140737488351232) :
    Calls Try.prog 7 #[.slice A kl c, .slice A' n c'] w (LawPost w) := by
  have HKL := Lib.hid hk.len
  have HNL := Lib.hid hl.len
  have HK := Lib.hid hk
  have HL := Lib.hid hl
  have hclen := clist_length key kl l
  have HCS := Lib.hid (clist_small key kl l)
  have HLI := Lib.hid (fun (A : Option Addr) (c : Nat) (A' : Option Addr) (c' : Nat) (w : World) (hk : RB w w.heap.size A kl key) (hl : RB w w.heap.size A' n l) (hc : n ≤ c') => Lists_any A kl c key A' n c' l w hk hl hc)
  generalize clist key kl l = cl at *
  have HCL := Lib.hid hclen
  clear hk hl hclen
  go_enter Try.func7, Try.ntmps7
  go_wp2_with fail
  refine (awake_any w).mono ?_
  rintro e w1 ⟨rfl, hb⟩
  have HB1 := Lib.hid hb
  have hz1 := hb.size
  clear hb
  go_wp2_with fail
  refine (Spare_any A kl c key w1 w.heap.size (HK.out.below HB1.out) hz1 (by omega)).mono ?_
  rintro e w2 ⟨gx, rfl, hx2, hb⟩
  have HX2 := Lib.hid hx2
  have HB2 := Lib.hid (HB1.out.trans (hb.mono hz1))
  have hgx := hx2.lt gx rfl
  clear hx2 hb HB1
  go_wp2_with fail
  refine (Spare_any A' n c' l w2 w.heap.size (HL.out.below HB2.out) (by omega) (by omega)).mono ?_
  rintro e w3 ⟨gy, rfl, hy3, hb⟩
  have HX3 := Lib.hid (own_later HX2.out hb)
  have HY3 := Lib.hid hy3
  have HB3 := Lib.hid (HB2.out.trans (hb.mono (by omega)))
  have hgy := hy3.lt gy rfl
  clear hy3 hb HB2 HX2
  have hpre : ∀ (g m : Nat) (ll : List UInt8) (base : Nat) (W : World), ll.length = m → W.ownsRow base 5 1 (.slice (some ⟨g, 0, none⟩) (m + 40) (m + 40)) (m + 40) (bv (spared ll)) → RB W W.heap.size (some ⟨g, 0, none⟩) m ll := by
    intro g m ll base W hm ho
    have h := (RB.of_own ho).take (k := m) (by omega)
    rw [show (spared ll).take m = ll by rw [← hm]; simp [spared]] at h
    exact h
  have HPRE := Lib.hid hpre
  clear hpre
  go_wp2_with fail
  refine (HLI.out (some ⟨gx, 0, none⟩) (kl + 40) (some ⟨gy, 0, none⟩) (n + 40) w3 (HPRE.out gx kl key _ w3 HKL.out HX3.out) (HPRE.out gy n l _ w3 HNL.out HY3.out) (by omega)).mono ?_
  rintro e w4 ⟨A4, m4, c4, vs4, rfl, hv, hb⟩
  have HV4 := Lib.hid hv
  have HX4 := Lib.hid (own_later HX3.out hb)
  have HY4 := Lib.hid (own_later HY3.out hb)
  have HB4 := Lib.hid (HB3.out.trans (hb.mono (by omega)))
  have hz4 := hb.size
  have hm4 : m4 ≤ 5 := by rw [← hv.1]; exact HCL.out
  have HT4 := Lib.hid hv.lt
  have HQ4 := Lib.hid (fun k hk => hv.2.1.lt k hk)
  clear hv hb HB3 HX3 HY3
  go_wp2_with fail
  refine (Copies_any A4 m4 c4 cl w4 w4.heap.size (RBB.of_own HV4.out.obb) (Nat.le_refl _) (by omega) (fun x hx => Nat.le_trans (HCS.out x hx) (by omega))).mono ?_
  rintro e w5 ⟨g5, c5, rfl, hw5, hb⟩
  have HW5 := Lib.hid hw5
  have HV5 := Lib.hid (HV4.out.later hb)
  have HX5 := Lib.hid (own_later HX4.out hb)
  have HY5 := Lib.hid (own_later HY4.out hb)
  have HB5 := Lib.hid (HB4.out.trans (hb.mono (by omega)))
  have hz5 := hb.size
  clear hw5 hb HB4 HX4 HY4 HV4
  go_wp2_with fail
  refine (HLI.out (some ⟨gx, 0, none⟩) (kl + 40) (some ⟨gy, 0, none⟩) (n + 40) w5 (HPRE.out gx kl key _ w5 HKL.out HX5.out) (HPRE.out gy n l _ w5 HNL.out HY5.out) (by omega)).mono ?_
  rintro e w6 ⟨A6, m6, c6, vs6, rfl, hv, hb⟩
  have HV6 := Lib.hid hv
  have HW6 := Lib.hid (HW5.out.later hb)
  have HV46 := Lib.hid (HV5.out.later hb)
  have HX6 := Lib.hid (own_later HX5.out hb)
  have HY6 := Lib.hid (own_later HY5.out hb)
  have HB6 := Lib.hid (HB5.out.trans (hb.mono (by omega)))
  have hz6 := hb.size
  have hm6 : m6 ≤ 5 := by rw [← hv.1]; exact HCL.out
  have HT6 := Lib.hid hv.lt
  have HQ6 := Lib.hid (fun k hk => hv.2.1.lt k hk)
  have HSZ := Lib.hid (show ∀ x ∈ cl, x.length ≤ 140737488355328 from fun x hx => Nat.le_trans (HCS.out x hx) (by omega))
  clear hv hb HB5 HX5 HY5 HV5 HW5
  go_wp2_with fail
  refine (Equals_any A6 (some ⟨g5, 0, none⟩) m6 m4 c6 c5 cl cl w6 _ _ (RBB.of_own HV6.out.obb) (RBB.of_own HW6.out) (by omega) HSZ.out).mono ?_
  rintro e w7 ⟨rfl, k7, rfl⟩
  rw [show decide (cl = cl) = true by simp]
  go_wp2_with fail
  refine (Kept_any (some ⟨gx, 0, none⟩) A kl (kl + 40) c key (w6.drewN k7) w6.heap.size w.heap.size ((RB.of_own HX6.out).drewN k7) ((HK.out.below HB6.out).drewN k7) (by omega)).mono ?_
  rintro e w8 ⟨rfl, k8, rfl⟩
  go_wp2_with fail
  refine (Kept_any (some ⟨gy, 0, none⟩) A' n (n + 40) c' l (w6.drewN (k7 + k8)) w6.heap.size w.heap.size ((RB.of_own HY6.out).drewN (k7 + k8)) ((HL.out.below HB6.out).drewN (k7 + k8)) (by omega)).mono ?_
  rintro e w9 ⟨rfl, k9, rfl⟩
  have HV9 := Lib.hid (show OBV ((w6.drewN (k7 + k8)).drewN k9) w5.heap.size 5 28 (.slice A6 m6 c6) m6 cl vs6 from HV6.out)
  have HW9 := Lib.hid (show OBB ((w6.drewN (k7 + k8)).drewN k9) w4.heap.size 5 28 (.slice (some ⟨g5, 0, none⟩) m4 c5) m4 cl from HW6.out)
  have HV49 := Lib.hid (show OBV ((w6.drewN (k7 + k8)).drewN k9) w3.heap.size 5 28 (.slice A4 m4 c4) m4 cl vs4 from HV46.out)
  have HX9 := Lib.hid (show ((w6.drewN (k7 + k8)).drewN k9).ownsRow w1.heap.size 5 1 (.slice (some ⟨gx, 0, none⟩) (kl + 40) (kl + 40)) (kl + 40) (bv (key ++ spareTo key.length 40)) from HX6.out)
  have HY9 := Lib.hid (show ((w6.drewN (k7 + k8)).drewN k9).ownsRow w2.heap.size 5 1 (.slice (some ⟨gy, 0, none⟩) (n + 40) (n + 40)) (n + 40) (bv (l ++ spareTo l.length 40)) from HY6.out)
  have HB9 := Lib.hid (below_drewN (below_drewN HB6.out (k7 + k8)) k9)
  have hz9 : w6.heap.size = ((w6.drewN (k7 + k8)).drewN k9).heap.size := rfl
  clear HV6 HW6 HV46 HX6 HY6 HB6
  generalize (w6.drewN (k7 + k8)).drewN k9 = w9 at *
  go_wp2_with fail
  refine (OverAt_any gx kl 40 (kl + 40) (kl + 40) _ key _ w9 HX9.out HKL.out (by omega)).mono ?_
  rintro e w10 ⟨rfl, hx, hg⟩
  have HX10 := Lib.hid hx
  have HY10 := Lib.hid (HY9.out.kept hg (far_own HY9.out (by omega)))
  have HV10 := Lib.hid (HV9.out.kept hg (by omega))
  have HV410 := Lib.hid (HV49.out.kept hg (by omega))
  have HW10 := Lib.hid (show OBB w10 w4.heap.size 5 28 (.slice (some ⟨g5, 0, none⟩) m4 c5) m4 cl from by
    obtain ⟨h1, us, h2, h3⟩ := HW9.out
    refine ⟨h1, us, h2.kept hg (far_own h2 (by omega)), fun i hi => ?_⟩
    obtain ⟨Ai, ni, ci, h4, h5⟩ := h3 i hi
    exact ⟨Ai, ni, ci, h4, h5.kept hg (far_own h5 (by omega))⟩)
  have HB10 := Lib.hid (HB9.out.grown hg (by omega) (fun q hq => by injection hq with hq; omega))
  have hz10 := hg.size
  clear hx hg HV9 HW9 HV49 HX9 HY9 HB9
  go_wp2_with fail
  refine (OverAt_any gy n 40 (n + 40) (n + 40) _ l _ w10 HY10.out HNL.out (by omega)).mono ?_
  rintro e w11 ⟨rfl, hy, hg⟩
  have HY11 := Lib.hid hy
  have HX11 := Lib.hid (HX10.out.kept hg (.inr (by simp [Value.ownBlock]; omega)))
  have HV11 := Lib.hid (HV10.out.kept hg (by omega))
  have HV411 := Lib.hid (HV410.out.kept hg (by omega))
  have HW11 := Lib.hid (show OBB w11 w4.heap.size 5 28 (.slice (some ⟨g5, 0, none⟩) m4 c5) m4 cl from by
    obtain ⟨h1, us, h2, h3⟩ := HW10.out
    refine ⟨h1, us, h2.kept hg (far_own h2 (by omega)), fun i hi => ?_⟩
    obtain ⟨Ai, ni, ci, h4, h5⟩ := h3 i hi
    exact ⟨Ai, ni, ci, h4, h5.kept hg (far_own h5 (by omega))⟩)
  have HB11 := Lib.hid (HB10.out.grown hg (by omega) (fun q hq => by injection hq with hq; omega))
  have hz11 := hg.size
  clear hy hg HV10 HW10 HV410 HX10 HY10 HB10
  go_wp2_with fail
  refine (Copy_any A kl c key w11 w.heap.size (HK.out.below HB11.out) (by omega) (by omega)).mono ?_
  rintro e w12 ⟨g12, c12, rfl, ho, hb⟩
  have HK12 := Lib.hid ho
  have HY12 := Lib.hid (own_later HY11.out hb)
  have HX12 := Lib.hid (own_later HX11.out hb)
  have HV12 := Lib.hid (HV11.out.later hb)
  have HV412 := Lib.hid (HV411.out.later hb)
  have HW12 := Lib.hid (HW11.out.later hb)
  have HB12 := Lib.hid (HB11.out.trans (hb.mono (by omega)))
  have hz12 := hb.size
  clear ho hb HV11 HW11 HV411 HX11 HY11 HB11
  go_wp2_with fail
  refine (Copy_any A' n c' l w12 w.heap.size (HL.out.below HB12.out) (by omega) (by omega)).mono ?_
  rintro e w13 ⟨g13, c13, rfl, ho, hb⟩
  have HL13 := Lib.hid ho
  have HK13 := Lib.hid (own_later HK12.out hb)
  have HY13 := Lib.hid (own_later HY12.out hb)
  have HX13 := Lib.hid (own_later HX12.out hb)
  have HV13 := Lib.hid (HV12.out.later hb)
  have HV413 := Lib.hid (HV412.out.later hb)
  have HW13 := Lib.hid (HW12.out.later hb)
  have HB13 := Lib.hid (HB12.out.trans (hb.mono (by omega)))
  have hz13 := hb.size
  clear ho hb HV12 HW12 HV412 HX12 HY12 HB12 HK12
  go_wp2_with fail
  refine (HLI.out _ c12 _ c13 w13 (RB.of_own HK13.out) (RB.of_own HL13.out) (own_cap HL13.out)).mono ?_
  rintro e w14 ⟨A14, m14, c14, vs14, rfl, hv, hb⟩
  have HU14 := Lib.hid hv
  have HY14 := Lib.hid (own_later HY13.out hb)
  have HX14 := Lib.hid (own_later HX13.out hb)
  have HV14 := Lib.hid (HV13.out.later hb)
  have HV414 := Lib.hid (HV413.out.later hb)
  have HW14 := Lib.hid (HW13.out.later hb)
  have HB14 := Lib.hid (HB13.out.trans (hb.mono (by omega)))
  have hz14 := hb.size
  have hm14 : m14 ≤ 5 := by rw [← hv.1]; exact HCL.out
  have HT14 := Lib.hid hv.lt
  have HQ14 := Lib.hid (fun k hk => hv.2.1.lt k hk)
  clear hv hb HV13 HW13 HV413 HX13 HY13 HB13 HK13 HL13
  go_wp2_with fail
  refine (Equals_any A4 (some ⟨g5, 0, none⟩) m4 m4 c4 c5 cl cl w14 _ _ (RBB.of_own HV414.out.obb) (RBB.of_own HW14.out) (by omega) HSZ.out).mono ?_
  rintro e w15 ⟨rfl, k1, rfl⟩
  rw [show decide (cl = cl) = true by simp]
  go_wp2_with fail
  refine (Equals_any A6 (some ⟨g5, 0, none⟩) m6 m4 c6 c5 cl cl (w14.drewN k1) w14.heap.size w14.heap.size (show RBB w14 w14.heap.size A6 m6 cl from RBB.of_own HV14.out.obb) (show RBB w14 w14.heap.size (some ⟨g5, 0, none⟩) m4 cl from RBB.of_own HW14.out) (by omega) HSZ.out).mono ?_
  rintro e w15 ⟨rfl, k2, rfl⟩
  rw [show decide (cl = cl) = true by simp]
  go_wp2_with fail
  refine (Equals_any A14 (some ⟨g5, 0, none⟩) m14 m4 c14 c5 cl cl (w14.drewN (k1 + k2)) w14.heap.size w14.heap.size (show RBB w14 w14.heap.size A14 m14 cl from RBB.of_own HU14.out.obb) (show RBB w14 w14.heap.size (some ⟨g5, 0, none⟩) m4 cl from RBB.of_own HW14.out) (by omega) HSZ.out).mono ?_
  rintro e w15 ⟨rfl, k3, rfl⟩
  rw [show decide (cl = cl) = true by simp]
  have HU15 := Lib.hid (show OBV ((w14.drewN (k1 + k2)).drewN k3) w13.heap.size 5 28 (.slice A14 m14 c14) m14 cl vs14 from HU14.out)
  have HV15 := Lib.hid (show OBV ((w14.drewN (k1 + k2)).drewN k3) w5.heap.size 5 28 (.slice A6 m6 c6) m6 cl vs6 from HV14.out)
  have HV415 := Lib.hid (show OBV ((w14.drewN (k1 + k2)).drewN k3) w3.heap.size 5 28 (.slice A4 m4 c4) m4 cl vs4 from HV414.out)
  have HX15 := Lib.hid (show ((w14.drewN (k1 + k2)).drewN k3).ownsRow w1.heap.size 5 1 (.slice (some ⟨gx, 0, none⟩) (kl + 40) (kl + 40)) (kl + 40) (bv (ovr key ++ spareTo key.length 40)) from HX14.out)
  have HY15 := Lib.hid (show ((w14.drewN (k1 + k2)).drewN k3).ownsRow w2.heap.size 5 1 (.slice (some ⟨gy, 0, none⟩) (n + 40) (n + 40)) (n + 40) (bv (ovr l ++ spareTo l.length 40)) from HY14.out)
  have HB15 := Lib.hid (below_drewN (below_drewN HB14.out (k1 + k2)) k3)
  have hz15 : w14.heap.size = ((w14.drewN (k1 + k2)).drewN k3).heap.size := rfl
  clear HU14 HV14 HV414 HX14 HY14 HB14 HW14
  generalize (w14.drewN (k1 + k2)).drewN k3 = w15 at *
  obtain ⟨w16, h16⟩ : ∃ w16, w15.alloc (.cells #[.slice (some ⟨gx, 0, none⟩) (kl + 40) (kl + 40), .slice (some ⟨gy, 0, none⟩) (n + 40) (n + 40)] 28) = w16 := ⟨_, rfl⟩
  have hb16 : Below w15.heap.size w15 w16 := by rw [← h16]; exact (Below.refl _ _).alloc (Nat.le_refl _) _
  have hs16 : w16.heap.size = w15.heap.size + 1 := by rw [← h16]; simp
  have hlit : OBV w16 w.heap.size 5 28 (.slice (some ⟨w15.heap.size, 0, none⟩) 2 2) 2 [ovr key ++ spareTo key.length 40, ovr l ++ spareTo l.length 40] [.slice (some ⟨gx, 0, none⟩) (kl + 40) (kl + 40), .slice (some ⟨gy, 0, none⟩) (n + 40) (n + 40)] := by
    refine OBV.of_rows (rs := [⟨.slice (some ⟨gx, 0, none⟩) (kl + 40) (kl + 40), ovr key ++ spareTo key.length 40, w1.heap.size, w2.heap.size⟩, ⟨.slice (some ⟨gy, 0, none⟩) (n + 40) (n + 40), ovr l ++ spareTo l.length 40, w2.heap.size, w3.heap.size⟩]) rfl
      (by rw [← h16]; exact World.ownsRow_lit w15 #[.slice (some ⟨gx, 0, none⟩) (kl + 40) (kl + 40), .slice (some ⟨gy, 0, none⟩) (n + 40) (n + 40)] 2 (by omega) (by decide) rfl) ?_
      (Rising.cons (by simp) (Rising.cons (by simp) Rising.nil))
    intro r hr
    simp only [List.mem_cons, List.not_mem_nil, or_false] at hr
    rcases hr with rfl | rfl
    · exact (Rw.own (own_base HX15.out (by omega)) (fun k hk => by have : gx = k := by simpa [Value.ownBlock] using hk
                                                                   omega)).later hb16
    · exact (Rw.own (own_base HY15.out (by omega)) (fun k hk => by have : gy = k := by simpa [Value.ownBlock] using hk
                                                                   omega)).later hb16
  have HLIT := Lib.hid hlit
  have HLT := Lib.hid (show ∀ u ∈ [Value.slice (some ⟨gx, 0, none⟩) (kl + 40) (kl + 40), .slice (some ⟨gy, 0, none⟩) (n + 40) (n + 40)], ∀ k, u.ownBlock = some k → k < w3.heap.size from fun u hu k hk => by
    simp only [List.mem_cons, List.not_mem_nil, or_false] at hu
    rcases hu with rfl | rfl
    · have : gx = k := by simpa [Value.ownBlock] using hk
      omega
    · have : gy = k := by simpa [Value.ownBlock] using hk
      omega)
  have HU16 := Lib.hid ((HU15.out.later hb16).base_le (show w.heap.size ≤ _ by omega))
  have HV16 := Lib.hid ((HV15.out.later hb16).base_le (show w.heap.size ≤ _ by omega))
  have HV416 := Lib.hid ((HV415.out.later hb16).base_le (show w.heap.size ≤ _ by omega))
  have HB16 := Lib.hid (HB15.out.trans (hb16.mono (by omega)))
  clear hlit hb16 HU15 HV15 HV415 HX15 HY15 HB15
  have H16 := Lib.hid h16
  clear h16
  go_wp2_with (at_builtin; rw [H16.out]; refine wl_app TBB rfl (.tmp 76) (.tmp 77) rfl (.slice (some ⟨w15.heap.size, 0, none⟩) 2 2) rfl A4 m4 c4 rfl w.heap.size 2 _ HLIT.out.2.1 w16.heap.size vs4 (Reads.of_own HV416.out.2.1) HV416.out.one (by omega) (by omega) (by omega) ?q6)
  case q6 =>
    intro A17 c17 w17 hown hgr hat
    have HO17 := Lib.hid (HLIT.out.join HV416.out (T := w3.heap.size) HLT.out (fun u hu k hk => (HT4.out u hu k hk).1) (by decide) hgr hown)
    have HU17 := Lib.hid (HU16.out.kept_t HLIT.out.2.1 (by
      cases hq : (Value.slice A14 m14 c14).ownBlock with
      | none => exact .inl rfl
      | some g =>
        right
        intro he
        have h1 := (HQ14.out g hq).2
        have h2 : g = w15.heap.size := by simpa [Value.ownBlock] using he
        omega) (by decide) hgr)
    have HV17 := Lib.hid (HV16.out.kept_t HLIT.out.2.1 (by
      cases hq : (Value.slice A6 m6 c6).ownBlock with
      | none => exact .inl rfl
      | some g =>
        right
        intro he
        have h1 := (HQ6.out g hq).2
        have h2 : g = w15.heap.size := by simpa [Value.ownBlock] using he
        omega) (by decide) hgr)
    have HB17 := Lib.hid (HB16.out.grown hgr (by omega) (fun q hq => by
      have h2 : w15.heap.size = q := by simpa [Value.ownBlock] using hq
      omega))
    have HA17 := Lib.hid (show ∀ k, (Value.slice A17 (2 + m4) c17).ownBlock = some k → w15.heap.size ≤ k from fun k hk => by
      rcases hat with h | h
      · rw [h] at hk
        have h2 : w15.heap.size = k := by simpa [Value.ownBlock] using hk
        omega
      · rw [h] at hk
        injection hk with hk
        omega)
    have HT17 := Lib.hid (show ∀ u ∈ [Value.slice (some ⟨gx, 0, none⟩) (kl + 40) (kl + 40), .slice (some ⟨gy, 0, none⟩) (n + 40) (n + 40)] ++ vs4, ∀ k, u.ownBlock = some k → k < w5.heap.size from fun u hu k hk => by
      rcases List.mem_append.1 hu with hu | hu
      · have := HLT.out u hu k hk
        omega
      · have := (HT4.out u hu k hk).2
        omega)
    have hz17 := hgr.size
    clear hown hgr hat HLIT HU16 HV16 HV416 HB16 HLT H16
    generalize [Value.slice (some ⟨gx, 0, none⟩) (kl + 40) (kl + 40), .slice (some ⟨gy, 0, none⟩) (n + 40) (n + 40)] ++ vs4 = us17 at *
    go_wp2_with (at_builtin; refine wl_app TBB rfl (.tmp 78) (.tmp 79) rfl (.slice A17 (2 + m4) c17) rfl A6 m6 c6 rfl w.heap.size (2 + m4) _ HO17.out.2.1 w17.heap.size vs6 (Reads.of_own HV17.out.2.1) HV17.out.one (by omega) (by omega) (by omega) ?q7)
    case q7 =>
      intro A18 c18 w18 hown hgr hat
      have HO18 := Lib.hid (HO17.out.join HV17.out (T := w5.heap.size) HT17.out (fun u hu k hk => (HT6.out u hu k hk).1) (by decide) hgr hown)
      have HU18 := Lib.hid (HU17.out.kept_t HO17.out.2.1 (by
        cases hq : (Value.slice A14 m14 c14).ownBlock with
        | none => exact .inl rfl
        | some g =>
          right
          intro he
          have h1 := (HQ14.out g hq).2
          have h2 := HA17.out g he.symm
          omega) (by decide) hgr)
      have HB18 := Lib.hid (HB17.out.grown hgr (by omega) (fun q hq => by have := HA17.out q hq; omega))
      have HT18 := Lib.hid (show ∀ u ∈ us17 ++ vs6, ∀ k, u.ownBlock = some k → k < w13.heap.size from fun u hu k hk => by
        rcases List.mem_append.1 hu with hu | hu
        · have := HT17.out u hu k hk
          omega
        · have := (HT6.out u hu k hk).2
          omega)
      have HA18 := Lib.hid (show ∀ k, (Value.slice A18 (2 + m4 + m6) c18).ownBlock = some k → w15.heap.size ≤ k from fun k hk => by
        rcases hat with h | h
        · rw [h] at hk
          exact HA17.out k hk
        · rw [h] at hk
          injection hk with hk
          omega)
      have hz18 := hgr.size
      clear hown hgr hat HO17 HU17 HV17 HB17
      generalize us17 ++ vs6 = us18 at *
      go_wp2_with (at_builtin; refine wl_app TBB rfl (.tmp 80) (.tmp 81) rfl (.slice A18 (2 + m4 + m6) c18) rfl A14 m14 c14 rfl w.heap.size (2 + m4 + m6) _ HO18.out.2.1 w18.heap.size vs14 (Reads.of_own HU18.out.2.1) HU18.out.one (by omega) (by omega) (by omega) ?q8)
      case q8 =>
        intro A19 c19 w19 hown hgr hat
        have HO19 := Lib.hid (HO18.out.join HU18.out (T := w13.heap.size) HT18.out (fun u hu k hk => (HT14.out u hu k hk).1) (by decide) hgr hown)
        have HB19 := Lib.hid (HB18.out.grown hgr (by omega) (fun q hq => by have := HA18.out q hq; omega))
        have hz19 := hgr.size
        have HALL := Lib.hid (show ∀ x ∈ [ovr key ++ spareTo key.length 40, ovr l ++ spareTo l.length 40] ++ cl ++ cl ++ cl, x.length ≤ 140737488355288 from fun x hx => by
          simp only [List.mem_append, List.mem_cons, List.not_mem_nil, or_false] at hx
          have hq := HCS.out x
          have e1 := HKL.out
          have e2 := HNL.out
          rcases hx with (((rfl | rfl) | hx) | hx) | hx
          · rw [List.length_append, length_ovr, length_spareTo]; omega
          · rw [List.length_append, length_ovr, length_spareTo]; omega
          · have := hq hx; omega
          · have := hq hx; omega
          · have := hq hx; omega)
        clear hown hgr hat HO18 HU18 HB18
        generalize [ovr key ++ spareTo key.length 40, ovr l ++ spareTo l.length 40] ++ cl ++ cl ++ cl = all at *
        generalize us18 ++ vs14 = us19 at *
        go_wp2_with fail
        refine (Apart_any A19 (2 + m4 + m6 + m14) c19 all us19 w19 w.heap.size HO19.out (by omega) HALL.out (by omega)).mono ?_
        rintro e w20 ⟨rfl, hb⟩
        have HB20 := Lib.hid (HB19.out.trans hb)
        clear hb
        go_wp2_with fail
        go_ret
        exact ⟨rfl, HB20.out⟩
end Go.Proofs.Ytbnlpahgpphpjaa
