/-
  The walk of shallotlaw01.CodecKeeps: it returns true; nothing that was there has turned. Conditions: the sizes that slices can have.
-/
import Derived.Test.YtobmopjfbgkfbaaKeepLists
import Derived.Test.YtobmopjfbgkfbaaPutLaw
import Derived.Test.YtobmopjfbgkfbaaSpare
import Derived.Test.YtobmopjfbgkfbaaOver
import Derived.Test.YtobmopjfbgkfbaaApart
namespace Go.Proofs.Ytobmopjfbgkfbaa
open Go Go.RowKit Go.Sh

set_option maxRecDepth 100000 in
set_option maxHeartbeats 4000000 in
theorem CodecKeeps_walk (A : Option Addr) (kl c : Nat) (key : List UInt8) (A' : Option Addr) (n c' : Nat) (l : List UInt8) (w : World) (hk : RB w w.heap.size A kl key) (hkl : kl ≤ 1048576) (hl : RB w w.heap.size A' n l) (hn : n ≤ 1048576) :
    Calls Try.prog 6 #[.slice A kl c, .slice A' n c'] w (LawPost w) := by
  have HKL := Lib.hid hk.len
  have HNL := Lib.hid hl.len
  have HK := Lib.hid hk
  have HL := Lib.hid hl
  have HKO := Lib.hid (show (ovr key).length = kl by rw [length_ovr, HKL.out])
  have HLI := Lib.hid (fun (A : Option Addr) (c : Nat) (A' : Option Addr) (c' : Nat) (k : List UInt8) (w : World) (hk : RB w w.heap.size A kl k) (hl : RB w w.heap.size A' n l) (hc : kl ≤ c) (hc' : n ≤ c') => Calls_any A A' kl c n c' k l w w.heap.size hk hl (Nat.le_refl _) hc hc' (by omega) (by omega))
  obtain ⟨h6, h8⟩ := klen kl n key l
  obtain ⟨h6', h8'⟩ := klen kl n (ovr key) l
  have HS1 := Lib.hid (ksmall HKL.out HNL.out (show kl ≤ 1048576 by omega) (show n ≤ 1048576 by omega))
  have HS2 := Lib.hid (ksmall HKO.out HNL.out (show kl ≤ 1048576 by omega) (show n ≤ 1048576 by omega))
  obtain ⟨cl, hcl⟩ : ∃ cl, kcalls kl n key l = cl := ⟨_, rfl⟩
  have HCL := Lib.hid hcl
  rw [hcl] at h6 h8 HS1
  obtain ⟨cm, hcm⟩ : ∃ cm, kcalls kl n (ovr key) l = cm := ⟨_, rfl⟩
  have HCM := Lib.hid hcm
  rw [hcm] at h6' h8' HS2
  clear hk hl hcm hcl
  go_enter Try.func6, Try.ntmps6
  go_wp2_with fail
  refine (awake_any w).mono ?_
  rintro e w1 ⟨rfl, hb⟩
  have HB1 := Lib.hid hb
  have hz1 := hb.size
  clear hb
  go_wp2_with fail
  refine (Spare_any A kl c key w1 w.heap.size (HK.out.below HB1.out) hz1 (by omega)).mono ?_
  rintro e w2 ⟨gx, rfl, hx2, hb⟩
  have HX2 := Lib.hid hx2
  have HB2 := Lib.hid (HB1.out.trans (hb.mono hz1))
  have hgx := hx2.lt gx rfl
  clear hx2 hb HB1
  go_wp2_with fail
  refine (Spare_any A' n c' l w2 w.heap.size (HL.out.below HB2.out) (by omega) (by omega)).mono ?_
  rintro e w3 ⟨gy, rfl, hy3, hb⟩
  have HX3 := Lib.hid (own_later HX2.out hb)
  have HY3 := Lib.hid hy3
  have HB3 := Lib.hid (HB2.out.trans (hb.mono (by omega)))
  have hgy := hy3.lt gy rfl
  clear hy3 hb HB2 HX2
  have hpre : ∀ (g m : Nat) (ll : List UInt8) (base : Nat) (W : World), ll.length = m → W.ownsRow base 5 1 (.slice (some ⟨g, 0, none⟩) (m + 40) (m + 40)) (m + 40) (bv (spared ll)) → RB W W.heap.size (some ⟨g, 0, none⟩) m ll := by
    intro g m ll base W hm ho
    have h := (RB.of_own ho).take (k := m) (by omega)
    rw [show (spared ll).take m = ll by rw [← hm]; simp [spared]] at h
    exact h
  have HPRE := Lib.hid hpre
  clear hpre
  go_wp2_with fail
  have hli := HLI.out (some ⟨gx, 0, none⟩) (kl + 40) (some ⟨gy, 0, none⟩) (n + 40) key w3 (HPRE.out gx kl key _ w3 HKL.out HX3.out) (HPRE.out gy n l _ w3 HNL.out HY3.out) (by omega) (by omega)
  rw [HCL.out] at hli
  refine hli.mono ?_
  clear hli
  rintro e w4 ⟨A4, m4, c4, vs4, rfl, hv, hb⟩
  have HV4 := Lib.hid hv
  have HX4 := Lib.hid (own_later HX3.out hb)
  have HY4 := Lib.hid (own_later HY3.out hb)
  have HB4 := Lib.hid (HB3.out.trans (hb.mono (by omega)))
  have hz4 := hb.size
  have hm4 : 6 ≤ m4 ∧ m4 ≤ 8 := by rw [← hv.1]; exact ⟨h6, h8⟩
  have HT4 := Lib.hid hv.lt
  have HQ4 := Lib.hid (fun k hk => hv.2.1.lt k hk)
  clear hv hb HB3 HX3 HY3
  go_wp2_with fail
  refine (Copies_any A4 m4 c4 cl w4 w4.heap.size (RBB.of_own HV4.out.obb) (Nat.le_refl _) (by omega) (fun x hx => Nat.le_trans (HS1.out x hx) (by omega))).mono ?_
  rintro e w5 ⟨g5, c5, rfl, hw5, hb⟩
  have HW5 := Lib.hid hw5
  have HV5 := Lib.hid (HV4.out.later hb)
  have HX5 := Lib.hid (own_later HX4.out hb)
  have HY5 := Lib.hid (own_later HY4.out hb)
  have HB5 := Lib.hid (HB4.out.trans (hb.mono (by omega)))
  have hz5 := hb.size
  clear hw5 hb HB4 HX4 HY4 HV4
  go_wp2_with fail
  have hli := HLI.out (some ⟨gx, 0, none⟩) (kl + 40) (some ⟨gy, 0, none⟩) (n + 40) key w5 (HPRE.out gx kl key _ w5 HKL.out HX5.out) (HPRE.out gy n l _ w5 HNL.out HY5.out) (by omega) (by omega)
  rw [HCL.out] at hli
  refine hli.mono ?_
  clear hli
  rintro e w6 ⟨A6, m6, c6, vs6, rfl, hv, hb⟩
  have HV6 := Lib.hid hv
  have HW6 := Lib.hid (HW5.out.later hb)
  have HV46 := Lib.hid (HV5.out.later hb)
  have HX6 := Lib.hid (own_later HX5.out hb)
  have HY6 := Lib.hid (own_later HY5.out hb)
  have HB6 := Lib.hid (HB5.out.trans (hb.mono (by omega)))
  have hz6 := hb.size
  have hm6 : 6 ≤ m6 ∧ m6 ≤ 8 := by rw [← hv.1]; exact ⟨h6, h8⟩
  have HT6 := Lib.hid hv.lt
  have HQ6 := Lib.hid (fun k hk => hv.2.1.lt k hk)
  have HSZ := Lib.hid (show ∀ x ∈ cl, x.length ≤ 140737488355328 from fun x hx => Nat.le_trans (HS1.out x hx) (by omega))
  clear hv hb HB5 HX5 HY5 HV5 HW5
  go_wp2_with fail
  refine (Equals_any A6 (some ⟨g5, 0, none⟩) m6 m4 c6 c5 cl cl w6 _ _ (RBB.of_own HV6.out.obb) (RBB.of_own HW6.out) (by omega) HSZ.out).mono ?_
  rintro e w7 ⟨rfl, k7, rfl⟩
  rw [show decide (cl = cl) = true by simp]
  go_wp2_with fail
  refine (Kept_any (some ⟨gx, 0, none⟩) A kl (kl + 40) c key (w6.drewN k7) w6.heap.size w.heap.size ((RB.of_own HX6.out).drewN k7) ((HK.out.below HB6.out).drewN k7) (by omega)).mono ?_
  rintro e w8 ⟨rfl, k8, rfl⟩
  go_wp2_with fail
  refine (Kept_any (some ⟨gy, 0, none⟩) A' n (n + 40) c' l (w6.drewN (k7 + k8)) w6.heap.size w.heap.size ((RB.of_own HY6.out).drewN (k7 + k8)) ((HL.out.below HB6.out).drewN (k7 + k8)) (by omega)).mono ?_
  rintro e w9 ⟨rfl, k9, rfl⟩
  have HV9 := Lib.hid (show OBV ((w6.drewN (k7 + k8)).drewN k9) w5.heap.size 5 26 (.slice A6 m6 c6) m6 cl vs6 from HV6.out)
  have HW9 := Lib.hid (show OBB ((w6.drewN (k7 + k8)).drewN k9) w4.heap.size 5 26 (.slice (some ⟨g5, 0, none⟩) m4 c5) m4 cl from HW6.out)
  have HV49 := Lib.hid (show OBV ((w6.drewN (k7 + k8)).drewN k9) w3.heap.size 5 26 (.slice A4 m4 c4) m4 cl vs4 from HV46.out)
  have HX9 := Lib.hid (show ((w6.drewN (k7 + k8)).drewN k9).ownsRow w1.heap.size 5 1 (.slice (some ⟨gx, 0, none⟩) (kl + 40) (kl + 40)) (kl + 40) (bv (key ++ spareTo key.length 40)) from HX6.out)
  have HY9 := Lib.hid (show ((w6.drewN (k7 + k8)).drewN k9).ownsRow w2.heap.size 5 1 (.slice (some ⟨gy, 0, none⟩) (n + 40) (n + 40)) (n + 40) (bv (l ++ spareTo l.length 40)) from HY6.out)
  have HB9 := Lib.hid (below_drewN (below_drewN HB6.out (k7 + k8)) k9)
  have hz9 : w6.heap.size = ((w6.drewN (k7 + k8)).drewN k9).heap.size := rfl
  clear HV6 HW6 HV46 HX6 HY6 HB6
  generalize (w6.drewN (k7 + k8)).drewN k9 = w9 at *
  go_wp2_with fail
  refine (OverAt_any gx kl 40 (kl + 40) (kl + 40) _ key _ w9 HX9.out HKL.out (by omega)).mono ?_
  rintro e w10 ⟨rfl, hx, hg⟩
  have HX10 := Lib.hid hx
  have HY10 := Lib.hid (HY9.out.kept hg (far_own HY9.out (by omega)))
  have HV10 := Lib.hid (HV9.out.kept hg (by omega))
  have HV410 := Lib.hid (HV49.out.kept hg (by omega))
  have HW10 := Lib.hid (show OBB w10 w4.heap.size 5 26 (.slice (some ⟨g5, 0, none⟩) m4 c5) m4 cl from by
    obtain ⟨h1, us, h2, h3⟩ := HW9.out
    refine ⟨h1, us, h2.kept hg (far_own h2 (by omega)), fun i hi => ?_⟩
    obtain ⟨Ai, ni, ci, h4, h5⟩ := h3 i hi
    exact ⟨Ai, ni, ci, h4, h5.kept hg (far_own h5 (by omega))⟩)
  have HB10 := Lib.hid (HB9.out.grown hg (by omega) (fun q hq => by injection hq with hq; omega))
  have hz10 := hg.size
  clear hx hg HV9 HW9 HV49 HX9 HY9 HB9
  have hxt : ∀ (W : World), W.ownsRow w1.heap.size 5 1 (.slice (some ⟨gx, 0, none⟩) (kl + 40) (kl + 40)) (kl + 40) (bv (ovr key ++ spareTo key.length 40)) → RB W W.heap.size (some ⟨gx, 0, none⟩) kl (ovr key) := by
    intro W ho
    have h := (RB.of_own ho).take (k := kl) (by omega)
    rw [show (ovr key ++ spareTo key.length 40).take kl = ovr key by rw [← HKO.out]; simp] at h
    exact h
  have HXT := Lib.hid hxt
  clear hxt
  go_wp2_with fail
  have hli := HLI.out (some ⟨gx, 0, none⟩) (kl + 40) (some ⟨gy, 0, none⟩) (n + 40) (ovr key) w10 (HXT.out w10 HX10.out) (HPRE.out gy n l _ w10 HNL.out HY10.out) (by omega) (by omega)
  rw [HCM.out] at hli
  refine hli.mono ?_
  clear hli
  rintro e w11 ⟨A11, m11, c11, vs11, rfl, hv, hb⟩
  have HU11 := Lib.hid hv
  have HY11 := Lib.hid (own_later HY10.out hb)
  have HX11 := Lib.hid (own_later HX10.out hb)
  have HV11 := Lib.hid (HV10.out.later hb)
  have HV411 := Lib.hid (HV410.out.later hb)
  have HW11 := Lib.hid (HW10.out.later hb)
  have HB11 := Lib.hid (HB10.out.trans (hb.mono (by omega)))
  have hz11 := hb.size
  have hm11 : 6 ≤ m11 ∧ m11 ≤ 8 := by rw [← hv.1]; exact ⟨h6', h8'⟩
  have HT11 := Lib.hid hv.lt
  have HQ11 := Lib.hid (fun k hk => hv.2.1.lt k hk)
  clear hv hb HV10 HW10 HV410 HX10 HY10 HB10
  go_wp2_with fail
  refine (Equals_any A4 (some ⟨g5, 0, none⟩) m4 m4 c4 c5 cl cl w11 _ _ (RBB.of_own HV411.out.obb) (RBB.of_own HW11.out) (by omega) HSZ.out).mono ?_
  rintro e w12 ⟨rfl, k1, rfl⟩
  rw [show decide (cl = cl) = true by simp]
  go_wp2_with fail
  refine (Equals_any A6 (some ⟨g5, 0, none⟩) m6 m4 c6 c5 cl cl (w11.drewN k1) w11.heap.size w11.heap.size (show RBB w11 w11.heap.size A6 m6 cl from RBB.of_own HV11.out.obb) (show RBB w11 w11.heap.size (some ⟨g5, 0, none⟩) m4 cl from RBB.of_own HW11.out) (by omega) HSZ.out).mono ?_
  rintro e w12 ⟨rfl, k2, rfl⟩
  rw [show decide (cl = cl) = true by simp]
  have HU12 := Lib.hid (show OBV ((w11.drewN k1).drewN k2) w10.heap.size 5 26 (.slice A11 m11 c11) m11 cm vs11 from HU11.out)
  have HV12 := Lib.hid (show OBV ((w11.drewN k1).drewN k2) w5.heap.size 5 26 (.slice A6 m6 c6) m6 cl vs6 from HV11.out)
  have HV412 := Lib.hid (show OBV ((w11.drewN k1).drewN k2) w3.heap.size 5 26 (.slice A4 m4 c4) m4 cl vs4 from HV411.out)
  have HX12 := Lib.hid (show ((w11.drewN k1).drewN k2).ownsRow w1.heap.size 5 1 (.slice (some ⟨gx, 0, none⟩) (kl + 40) (kl + 40)) (kl + 40) (bv (ovr key ++ spareTo key.length 40)) from HX11.out)
  have HY12 := Lib.hid (show ((w11.drewN k1).drewN k2).ownsRow w2.heap.size 5 1 (.slice (some ⟨gy, 0, none⟩) (n + 40) (n + 40)) (n + 40) (bv (l ++ spareTo l.length 40)) from HY11.out)
  have HB12 := Lib.hid (below_drewN (below_drewN HB11.out k1) k2)
  have hz12 : w11.heap.size = ((w11.drewN k1).drewN k2).heap.size := rfl
  clear HU11 HV11 HV411 HX11 HY11 HB11 HW11
  generalize (w11.drewN k1).drewN k2 = w12 at *
  go_wp2_with fail
  refine (Copy_any (some ⟨gx, 0, none⟩) kl (kl + 40) (ovr key) w12 w12.heap.size (HXT.out w12 HX12.out) (Nat.le_refl _) (by omega)).mono ?_
  rintro e w13 ⟨g13, c13, rfl, ho, hb⟩
  have HK13 := Lib.hid ho
  have HU13 := Lib.hid (HU12.out.later hb)
  have HY13 := Lib.hid (own_later HY12.out hb)
  have HX13 := Lib.hid (own_later HX12.out hb)
  have HV13 := Lib.hid (HV12.out.later hb)
  have HV413 := Lib.hid (HV412.out.later hb)
  have HB13 := Lib.hid (HB12.out.trans (hb.mono (by omega)))
  have hz13 := hb.size
  clear ho hb HU12 HV12 HV412 HX12 HY12 HB12
  go_wp2_with fail
  refine (Copy_any (some ⟨gy, 0, none⟩) n (n + 40) l w13 w13.heap.size (HPRE.out gy n l _ w13 HNL.out HY13.out) (Nat.le_refl _) (by omega)).mono ?_
  rintro e w14 ⟨g14, c14, rfl, ho, hb⟩
  have HL14 := Lib.hid ho
  have HK14 := Lib.hid (own_later HK13.out hb)
  have HU14 := Lib.hid (HU13.out.later hb)
  have HY14 := Lib.hid (own_later HY13.out hb)
  have HX14 := Lib.hid (own_later HX13.out hb)
  have HV14 := Lib.hid (HV13.out.later hb)
  have HV414 := Lib.hid (HV413.out.later hb)
  have HB14 := Lib.hid (HB13.out.trans (hb.mono (by omega)))
  have hz14 := hb.size
  clear ho hb HU13 HV13 HV413 HX13 HY13 HB13 HK13
  go_wp2_with fail
  have hli := HLI.out _ c13 _ c14 (ovr key) w14 (RB.of_own HK14.out) (RB.of_own HL14.out) (own_cap HK14.out) (own_cap HL14.out)
  rw [HCM.out] at hli
  refine hli.mono ?_
  clear hli
  rintro e w15 ⟨A15, m15, c15, vs15, rfl, hv, hb⟩
  have HD15 := Lib.hid hv
  have HU15 := Lib.hid (HU14.out.later hb)
  have HY15 := Lib.hid (own_later HY14.out hb)
  have HX15 := Lib.hid (own_later HX14.out hb)
  have HV15 := Lib.hid (HV14.out.later hb)
  have HV415 := Lib.hid (HV414.out.later hb)
  have HB15 := Lib.hid (HB14.out.trans (hb.mono (by omega)))
  have hz15 := hb.size
  have hm15 : 6 ≤ m15 ∧ m15 ≤ 8 := by rw [← hv.1]; exact ⟨h6', h8'⟩
  have HSM := Lib.hid (show ∀ x ∈ cm, x.length ≤ 140737488355328 from fun x hx => Nat.le_trans (HS2.out x hx) (by omega))
  clear hv hb HU14 HV14 HV414 HX14 HY14 HB14 HK14 HL14
  go_wp2_with fail
  refine (Equals_any A11 A15 m11 m15 c11 c15 cm cm w15 _ _ (RBB.of_own HU15.out.obb) (RBB.of_own HD15.out.obb) (by omega) HSM.out).mono ?_
  rintro e w16 ⟨rfl, k3, rfl⟩
  rw [show decide (cm = cm) = true by simp]
  have HU15' := Lib.hid (show OBV (w15.drewN k3) w10.heap.size 5 26 (.slice A11 m11 c11) m11 cm vs11 from HU15.out)
  have HV15' := Lib.hid (show OBV (w15.drewN k3) w5.heap.size 5 26 (.slice A6 m6 c6) m6 cl vs6 from HV15.out)
  have HV415' := Lib.hid (show OBV (w15.drewN k3) w3.heap.size 5 26 (.slice A4 m4 c4) m4 cl vs4 from HV415.out)
  have HX15' := Lib.hid (show (w15.drewN k3).ownsRow w1.heap.size 5 1 (.slice (some ⟨gx, 0, none⟩) (kl + 40) (kl + 40)) (kl + 40) (bv (ovr key ++ spareTo key.length 40)) from HX15.out)
  have HY15' := Lib.hid (show (w15.drewN k3).ownsRow w2.heap.size 5 1 (.slice (some ⟨gy, 0, none⟩) (n + 40) (n + 40)) (n + 40) (bv (l ++ spareTo l.length 40)) from HY15.out)
  have HB15' := Lib.hid (below_drewN HB15.out k3)
  have hz15' : w15.heap.size = (w15.drewN k3).heap.size := rfl
  clear HU15 HV15 HV415 HX15 HY15 HB15 HD15
  generalize w15.drewN k3 = w15' at *
  obtain ⟨w16, h16⟩ : ∃ w16, w15'.alloc (.cells #[.slice (some ⟨gx, 0, none⟩) (kl + 40) (kl + 40), .slice (some ⟨gy, 0, none⟩) (n + 40) (n + 40)] 26) = w16 := ⟨_, rfl⟩
  have hb16 : Below w15'.heap.size w15' w16 := by rw [← h16]; exact (Below.refl _ _).alloc (Nat.le_refl _) _
  have hs16 : w16.heap.size = w15'.heap.size + 1 := by rw [← h16]; simp
  have hlit : OBV w16 w.heap.size 5 26 (.slice (some ⟨w15'.heap.size, 0, none⟩) 2 2) 2 [ovr key ++ spareTo key.length 40, l ++ spareTo l.length 40] [.slice (some ⟨gx, 0, none⟩) (kl + 40) (kl + 40), .slice (some ⟨gy, 0, none⟩) (n + 40) (n + 40)] := by
    refine OBV.of_rows (rs := [⟨.slice (some ⟨gx, 0, none⟩) (kl + 40) (kl + 40), ovr key ++ spareTo key.length 40, w1.heap.size, w2.heap.size⟩, ⟨.slice (some ⟨gy, 0, none⟩) (n + 40) (n + 40), l ++ spareTo l.length 40, w2.heap.size, w3.heap.size⟩]) rfl
      (by rw [← h16]; exact World.ownsRow_lit w15' #[.slice (some ⟨gx, 0, none⟩) (kl + 40) (kl + 40), .slice (some ⟨gy, 0, none⟩) (n + 40) (n + 40)] 2 (by omega) (by decide) rfl) ?_
      (Rising.cons (by simp) (Rising.cons (by simp) Rising.nil))
    intro r hr
    simp only [List.mem_cons, List.not_mem_nil, or_false] at hr
    rcases hr with rfl | rfl
    · exact (Rw.own (own_base HX15'.out (by omega)) (fun k hk => by have : gx = k := by simpa [Value.ownBlock] using hk
                                                                    omega)).later hb16
    · exact (Rw.own (own_base HY15'.out (by omega)) (fun k hk => by have : gy = k := by simpa [Value.ownBlock] using hk
                                                                    omega)).later hb16
  have HLIT := Lib.hid hlit
  have HLT := Lib.hid (show ∀ u ∈ [Value.slice (some ⟨gx, 0, none⟩) (kl + 40) (kl + 40), .slice (some ⟨gy, 0, none⟩) (n + 40) (n + 40)], ∀ k, u.ownBlock = some k → k < w3.heap.size from fun u hu k hk => by
    simp only [List.mem_cons, List.not_mem_nil, or_false] at hu
    rcases hu with rfl | rfl
    · have : gx = k := by simpa [Value.ownBlock] using hk
      omega
    · have : gy = k := by simpa [Value.ownBlock] using hk
      omega)
  have HU16 := Lib.hid ((HU15'.out.later hb16).base_le (show w.heap.size ≤ _ by omega))
  have HV16 := Lib.hid ((HV15'.out.later hb16).base_le (show w.heap.size ≤ _ by omega))
  have HV416 := Lib.hid ((HV415'.out.later hb16).base_le (show w.heap.size ≤ _ by omega))
  have HB16 := Lib.hid (HB15'.out.trans (hb16.mono (by omega)))
  clear hlit hb16 HU15' HV15' HV415' HX15' HY15' HB15'
  have H16 := Lib.hid h16
  clear h16
  go_wp2_with (at_builtin; rw [H16.out]; refine wl_app TBB rfl (.tmp 83) (.tmp 84) rfl (.slice (some ⟨w15'.heap.size, 0, none⟩) 2 2) rfl A4 m4 c4 rfl w.heap.size 2 _ HLIT.out.2.1 w16.heap.size vs4 (Reads.of_own HV416.out.2.1) HV416.out.one (by omega) (by omega) (by omega) ?q6)
  case q6 =>
    intro A17 c17 w17 hown hgr hat
    have HO17 := Lib.hid (HLIT.out.join HV416.out (T := w3.heap.size) HLT.out (fun u hu k hk => (HT4.out u hu k hk).1) (by decide) hgr hown)
    have HU17 := Lib.hid (HU16.out.kept_t HLIT.out.2.1 (by
      cases hq : (Value.slice A11 m11 c11).ownBlock with
      | none => exact .inl rfl
      | some g =>
        right
        intro he
        have h1 := (HQ11.out g hq).2
        have h2 : g = w15'.heap.size := by simpa [Value.ownBlock] using he
        omega) (by decide) hgr)
    have HV17 := Lib.hid (HV16.out.kept_t HLIT.out.2.1 (by
      cases hq : (Value.slice A6 m6 c6).ownBlock with
      | none => exact .inl rfl
      | some g =>
        right
        intro he
        have h1 := (HQ6.out g hq).2
        have h2 : g = w15'.heap.size := by simpa [Value.ownBlock] using he
        omega) (by decide) hgr)
    have HB17 := Lib.hid (HB16.out.grown hgr (by omega) (fun q hq => by
      have h2 : w15'.heap.size = q := by simpa [Value.ownBlock] using hq
      omega))
    have HA17 := Lib.hid (show ∀ k, (Value.slice A17 (2 + m4) c17).ownBlock = some k → w15'.heap.size ≤ k from fun k hk => by
      rcases hat with h | h
      · rw [h] at hk
        have h2 : w15'.heap.size = k := by simpa [Value.ownBlock] using hk
        omega
      · rw [h] at hk
        injection hk with hk
        omega)
    have HT17 := Lib.hid (show ∀ u ∈ [Value.slice (some ⟨gx, 0, none⟩) (kl + 40) (kl + 40), .slice (some ⟨gy, 0, none⟩) (n + 40) (n + 40)] ++ vs4, ∀ k, u.ownBlock = some k → k < w5.heap.size from fun u hu k hk => by
      rcases List.mem_append.1 hu with hu | hu
      · have := HLT.out u hu k hk
        omega
      · have := (HT4.out u hu k hk).2
        omega)
    have hz17 := hgr.size
    clear hown hgr hat HLIT HU16 HV16 HV416 HB16 HLT H16
    generalize [Value.slice (some ⟨gx, 0, none⟩) (kl + 40) (kl + 40), .slice (some ⟨gy, 0, none⟩) (n + 40) (n + 40)] ++ vs4 = us17 at *
    go_wp2_with (at_builtin; refine wl_app TBB rfl (.tmp 86) (.tmp 87) rfl (.slice A17 (2 + m4) c17) rfl A6 m6 c6 rfl w.heap.size (2 + m4) _ HO17.out.2.1 w17.heap.size vs6 (Reads.of_own HV17.out.2.1) HV17.out.one (by omega) (by omega) (by omega) ?q7)
    case q7 =>
      intro A18 c18 w18 hown hgr hat
      have HO18 := Lib.hid (HO17.out.join HV17.out (T := w5.heap.size) HT17.out (fun u hu k hk => (HT6.out u hu k hk).1) (by decide) hgr hown)
      have HU18 := Lib.hid (HU17.out.kept_t HO17.out.2.1 (by
        cases hq : (Value.slice A11 m11 c11).ownBlock with
        | none => exact .inl rfl
        | some g =>
          right
          intro he
          have h1 := (HQ11.out g hq).2
          have h2 := HA17.out g he.symm
          omega) (by decide) hgr)
      have HB18 := Lib.hid (HB17.out.grown hgr (by omega) (fun q hq => by have := HA17.out q hq; omega))
      have HT18 := Lib.hid (show ∀ u ∈ us17 ++ vs6, ∀ k, u.ownBlock = some k → k < w10.heap.size from fun u hu k hk => by
        rcases List.mem_append.1 hu with hu | hu
        · have := HT17.out u hu k hk
          omega
        · have := (HT6.out u hu k hk).2
          omega)
      have HA18 := Lib.hid (show ∀ k, (Value.slice A18 (2 + m4 + m6) c18).ownBlock = some k → w15'.heap.size ≤ k from fun k hk => by
        rcases hat with h | h
        · rw [h] at hk
          exact HA17.out k hk
        · rw [h] at hk
          injection hk with hk
          omega)
      have hz18 := hgr.size
      clear hown hgr hat HO17 HU17 HV17 HB17
      generalize us17 ++ vs6 = us18 at *
      go_wp2_with (at_builtin; refine wl_app TBB rfl (.tmp 89) (.tmp 90) rfl (.slice A18 (2 + m4 + m6) c18) rfl A11 m11 c11 rfl w.heap.size (2 + m4 + m6) _ HO18.out.2.1 w18.heap.size vs11 (Reads.of_own HU18.out.2.1) HU18.out.one (by omega) (by omega) (by omega) ?q8)
      case q8 =>
        intro A19 c19 w19 hown hgr hat
        have HO19 := Lib.hid (HO18.out.join HU18.out (T := w10.heap.size) HT18.out (fun u hu k hk => (HT11.out u hu k hk).1) (by decide) hgr hown)
        have HB19 := Lib.hid (HB18.out.grown hgr (by omega) (fun q hq => by have := HA18.out q hq; omega))
        have hz19 := hgr.size
        have HALL := Lib.hid (show ∀ x ∈ [ovr key ++ spareTo key.length 40, l ++ spareTo l.length 40] ++ cl ++ cl ++ cm, x.length ≤ 140737488355288 from fun x hx => by
          simp only [List.mem_append, List.mem_cons, List.not_mem_nil, or_false] at hx
          have e1 := HKL.out
          have e2 := HNL.out
          rcases hx with (((rfl | rfl) | hx) | hx) | hx
          · rw [List.length_append, length_ovr, length_spareTo]; omega
          · rw [List.length_append, length_spareTo]; omega
          · have := HS1.out x hx; omega
          · have := HS1.out x hx; omega
          · have := HS2.out x hx; omega)
        clear hown hgr hat HO18 HU18 HB18
        generalize [ovr key ++ spareTo key.length 40, l ++ spareTo l.length 40] ++ cl ++ cl ++ cm = all at *
        generalize us18 ++ vs11 = us19 at *
        go_wp2_with fail
        refine (Apart_any A19 (2 + m4 + m6 + m11) c19 all us19 w19 w.heap.size HO19.out (by omega) HALL.out (by omega)).mono ?_
        rintro e w20 ⟨rfl, hb⟩
        have HB20 := Lib.hid (HB19.out.trans hb)
        clear hb
        go_wp2_with fail
        go_ret
        exact ⟨rfl, HB20.out⟩
end Go.Proofs.Ytobmopjfbgkfbaa
