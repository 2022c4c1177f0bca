/-
  The walk of shallotlaw04.ChachaFlows: it returns true; nothing that was there has turned. Conditions: the sizes of the key, of the acts and of their parts.
-/
import Derived.Test.YtbnlpahgpphpjaaChaLaw
import Derived.Test.YtbnlpahgpphpjaaChaTurn
import Derived.Test.YtbnlpahgpphpjaaOver
import Derived.Test.YtbnlpahgpphpjaaFlowActs
import Derived.Deep.DeepCutAuto
namespace Go.Proofs.Ytbnlpahgpphpjaa
open Go Go.RowKit Go.Sh

set_option maxHeartbeats 8000000 in
set_option maxRecDepth 100000 in
theorem ChachaFlows_walk (A : Option Addr) (kl c : Nat) (key : List UInt8) (A' : Option Addr) (m c' : Nat) (f : Nat → FAct) (w : World) (hk : RB w w.heap.size A kl key) (hkl : kl ≤ 1048576)
    (hf : RFActs w w.heap.size A' m f) (hm : m ≤ 1048576) (hfb : ∀ i, i < m → (f i).ls.flatten.length + (f i).ls.length ≤ 1048576) :
    Calls Try.prog 8 #[.slice A kl c, .slice A' m c'] w (LawPost w) := by
  have HK := Lib.hid hk
  have HF := Lib.hid hf
  have HFB := Lib.hid hfb
  clear hk hf hfb
  go_enter Try.func8, Try.ntmps8
  go_wp2_with fail
  refine (awake_any w).mono ?_
  rintro e w1 ⟨rfl, hb⟩
  have HB1 := Lib.hid hb
  have hz1 := hb.size
  clear hb
  go_wp2_with fail
  refine (Copy_any A kl c key w1 w.heap.size (HK.out.below HB1.out) hz1 (by omega)).mono ?_
  rintro e w2 ⟨g2, c2, rfl, ho, hb⟩
  have HO2 := Lib.hid ho
  have HB2 := Lib.hid (HB1.out.trans (hb.mono hz1))
  have hg2 := ho.lt g2 rfl
  clear ho hb HB1
  go_wp2_with fail
  refine (New_any _ kl c2 key w2 _ (RB.of_own HO2.out) (Nat.le_refl _)).mono ?_
  rintro e w3 (⟨h32, p1, rfl, hp1, hf1, hb⟩ | ⟨h32, rfl, rfl⟩)
  · subst h32
    have HF1 := Lib.hid hf1
    have HO3 := Lib.hid (own_later HO2.out hb)
    have HB3 := Lib.hid (HB2.out.trans (hb.mono (by omega)))
    have hz3 := hb.size
    have hl1 := hf1.lt
    clear hf1 hb HO2 HB2
    go_wp2_with fail
    refine (Count_any _ 32 c2 key w3 _ (RB.of_own HO3.out) (Nat.le_refl _)).mono ?_
    rintro e w4 (⟨_, p2, rfl, hp2, hf2, hb⟩ | ⟨h32, rfl, rfl⟩)
    · have hc2 := hf2.rest0
      have HF2 := Lib.hid (show FlowAt w4 64 p2 [.int .i64 ((0 : Nat) : Int)] key 0 from hf2)
      have HF14 := Lib.hid (HF1.out.below hb hl1)
      have HO4 := Lib.hid (own_later HO3.out hb)
      have HB4 := Lib.hid (HB3.out.trans (hb.mono (by omega)))
      have hz4 := hb.size
      have hl2 := hf2.lt
      clear hf2 hb HO3 HB3 HF1
      go_wp2_with fail
      refine (OverOwn_any _ 32 c2 _ key w4 HO4.out (by omega)).mono ?_
      rintro e w5 ⟨rfl, ho, hg⟩
      have hgx : w4.grownBy w5 (some g2) := hg
      have HI5 := Lib.hid (show FInv w w5 p1 p2 key 0 0 0 from (FInv.mk HF14.out HF2.out HB4.out).grown hgx (by simp; omega) (by simp; omega) (fun g hg => by injection hg with hg; omega))
      have hz5 := hgx.size
      clear ho hg hgx HF14 HF2 HB4 HO4 hc2
      have hp12 : p1 < p2 := by omega
      have hp1w : w.heap.size ≤ p1 := by omega
      clear hz1 hg2 hp1 hz3 hl1 hp2 hz4 hl2 hz5
      go_wp2_with fail
      go_loopw [10, 11, 80] (fun at_ ca i wr => ∃ k u cn : Nat, k ≤ m ∧ i = .int .i64 k ∧ at_ = .int .i64 u ∧ ca = .int .i64 cn ∧ u ≤ 65536 ∧ cn ≤ k ∧ FInv w wr p1 p2 key u u cn) (fun _ _ i _ => m - (intOf i).toNat)
      case atStart => exact ⟨0, 0, 0, by omega, rfl, rfl, rfl, by omega, by omega, HI5.out⟩
      case round =>
        obtain ⟨k, u, cn, hk, rfl, rfl, rfl, hu, hcn, hi⟩ := hrel
        have HI := Lib.hid hi
        clear hi HI5
        by_cases hlt : k < m
        · obtain ⟨tb, off, rfl, htb, hcc⟩ := HF.out (by omega)
          obtain ⟨⟨n1, n2⟩, x0, x1, hmc, hrb⟩ := hcc k hlt
          rw [← HI.out.b.cell (p := ⟨tb, _, none⟩) htb] at x0 x1
          have HRB := Lib.hid hrb
          have hbd := HFB.out k hlt
          rw [hrb.len] at hbd
          clear hcc hrb
          generalize (f k).n = N at *
          generalize (f k).A = PA at *
          generalize (f k).m = pm at *
          generalize (f k).c = pc at *
          generalize (f k).ls = pl at *
          have hsz : w.heap.size ≤ wr.heap.size := HI.out.b.size
          have hpp1 := HI.out.f1.lt
          have hpp2 := HI.out.f2.lt
          go_upto_region 16 with fail
          have hq := heap_alloc_new wr (.cells #[.int .i64 N, .slice PA pm pc] 66)
          have HI1 := Lib.hid (HI.out.later ((Below.refl _ _).alloc (Nat.le_refl _) (.cells #[.int .i64 N, .slice PA pm pc] 66)))
          have hql : wr.heap.size < (wr.alloc (.cells #[.int .i64 N, .slice PA pm pc] 66)).heap.size := by simp
          have hq0 : (wr.alloc (.cells #[.int .i64 N, .slice PA pm pc] 66)).cell? ⟨wr.heap.size, 1, none⟩ = some (.slice PA pm pc) := by rw [cell_of_row _ _ 1 _ _ _ hq]; rfl
          clear hq x0 x1
          generalize wr.alloc (.cells #[.int .i64 N, .slice PA pm pc] 66) = W1 at *
          obtain ⟨q, hqq⟩ : ∃ q, wr.heap.size = q := ⟨_, rfl⟩
          rw [hqq] at hql hq0 hsz hpp1 hpp2 ⊢
          clear hqq HI
          go_cut [93] (fun v wx => v = .bool (decide (2000 < N ∧ N ≤ 65536 - (u : Int))) ∧ wx = W1)
          case first =>
            have hcase : (2000 < N ∧ N ≤ 65536 - (u : Int)) ∨ (2000 < N ∧ ¬ N ≤ 65536 - (u : Int)) ∨ ¬ 2000 < N := by omega
            rcases hcase with ⟨h1, h2⟩ | ⟨h1, h2⟩ | h1
            · go_wp2
              go_meet
              exact ⟨congrArg Value.bool (decide_eq_true (p := 2000 < N ∧ N ≤ 65536 - (u : Int)) ⟨h1, h2⟩).symm, rfl⟩
            · go_wp2
              go_meet
              exact ⟨congrArg Value.bool (decide_eq_false (p := 2000 < N ∧ N ≤ 65536 - (u : Int)) (by omega)).symm, rfl⟩
            · go_wp2
              go_meet
              exact ⟨congrArg Value.bool (decide_eq_false (p := 2000 < N ∧ N ≤ 65536 - (u : Int)) (by omega)).symm, rfl⟩
          case rest =>
            obtain ⟨rfl, rfl⟩ := hcut
            go_upto_if 93 with fail
            go_cut [14] (fun v wx => ∃ n' : Int, v = .int .i64 n' ∧ -9223372036854775808 ≤ n' ∧ n' ≤ 9223372036854775807 ∧ wx = wc)
            case first =>
              by_cases hC : 2000 < N ∧ N ≤ 65536 - (u : Int)
              · have hd : decide (2000 < N ∧ N ≤ 65536 - (u : Int)) = true := decide_eq_true hC
                rw [hd]
                have hmod : N.tmod 2000 = N % 2000 := Int.tmod_eq_emod_of_nonneg (by omega)
                have hx1 : 0 ≤ N % 2000 := by omega
                have hx2 : N % 2000 < 2000 := by omega
                clear hd hC
                generalize N % 2000 = x at *
                go_wp2
                go_meet
                exact ⟨x, rfl, by omega, by omega, rfl⟩
              · have hd : decide (2000 < N ∧ N ≤ 65536 - (u : Int)) = false := decide_eq_false hC
                rw [hd]
                clear hd hC
                go_wp2
                go_meet
                exact ⟨N, rfl, by omega, by omega, rfl⟩
            case rest =>
              obtain ⟨N', rfl, hN1, hN2, rfl⟩ := hcut
              have hb2 := (Below.refl wc.heap.size wc).alloc (Nat.le_refl _) (.cells #[] 5)
              have HI2 := Lib.hid (HI1.out.later hb2)
              have HW2 := Lib.hid (show (wc.alloc (.cells #[] 5)).ownsRow q 5 1 (.slice (some ⟨wc.heap.size, 0, none⟩) 0 0) 0 (bv []) from World.ownsRow_lit wc #[] 0 (by omega) (by simp) rfl)
              have hs2 : (wc.alloc (.cells #[] 5)).heap.size = wc.heap.size + 1 := by simp
              clear hb2
              go_wp2_with fail
              refine (RefJoin_any PA pm pc pl (wc.alloc (.cells #[] 5)) w.heap.size (HRB.out.below HI2.out.b) (by omega) (by omega) (by omega)).mono ?_
              rintro e w3 ⟨A3, t, c3, rfl, hl3, ho3, hb3⟩
              have HA3 := Lib.hid (own_base ho3 (base' := q) (by omega))
              have HI3 := Lib.hid (HI2.out.later hb3)
              have HW3 := Lib.hid (own_later HW2.out hb3)
              have hq3 : w3.cell? ⟨q, 1, none⟩ = some (.slice PA pm pc) := by
                rw [hb3.cell (p := ⟨q, 1, none⟩) (by rw [hs2]; exact Nat.lt_succ_of_lt hql), World.cell?_alloc_lt _ _ _ hql]
                exact hq0
              have hz3 := hb3.size
              have HT := Lib.hid hl3
              have HAL := Lib.hid (show ∀ g, (Value.slice A3 t c3).ownBlock = some g → g < w3.heap.size from fun g hg => (ho3.lt g hg).2)
              have htb3 : t ≤ 1048576 := by rw [← hl3]; omega
              have HML := Lib.hid (show ∀ l ∈ pl, l.length ≤ 140737488355328 from fun l h => by have := flat_mem h; omega)
              generalize hg3 : wc.heap.size = r3 at *
              clear ho3 hb3 hl3 HI2 HW2 HI1 hq0 hg3
              by_cases hpm : 0 < pm
              · by_cases ht : u + t ≤ 65536
                · skip
                  have hpd : decide (0 < pm) = true := decide_eq_true hpm

                  have ht' : ¬ (65536 - (u : Int) < (t : Int)) := by omega
                  go_wp2_with fail
                  refine (RefBytes_any A c key u t w3 w.heap.size (HK.out.below HI3.out.b) (by omega) ht).mono ?_
                  rintro e w4 ⟨g4, c4, rfl, ho4, hb4⟩
                  have HA4 := Lib.hid (own_later HA3.out hb4)
                  have HI4 := Lib.hid (HI3.out.later hb4)
                  have HW4 := Lib.hid ho4
                  have hq4 : w4.cell? ⟨q, 1, none⟩ = some (.slice PA pm pc) := by rw [hb4.cell (p := ⟨q, 1, none⟩) (by show q < _; omega)]; exact hq3
                  have hz4 := hb4.size
                  have hg4 := ho4.lt g4 rfl
                  clear ho4 hb4 HA3 HI3 HW3 hq3

                  have hturn : trnE u t = 0 ∧ trnU u t = u + t ∧ (trnL key u pl.flatten).length = t := by
                    have hT := HT.out
                    refine ⟨by rw [trnE, if_pos ht], by rw [trnU, if_pos ht], ?_⟩
                    rw [trnL, hT, if_pos ht, length_xz hT (length_sbytes _ _ _)]
                  have HTL := Lib.hid (show trnL key u pl.flatten = xz (sbytes key u t) pl.flatten by rw [trnL, HT.out, if_pos ht, xz_comm])
                  obtain ⟨hE, hU, hL⟩ := hturn
                  have HE := Lib.hid hE
                  have HU := Lib.hid hU
                  have HLN := Lib.hid hL
                  have HFT := Lib.hid (show ∀ (ty : TypeId) (p : Nat) (rest : List Value) (A : Option Addr) (c : Nat) (w : World), FlowAt w ty p rest key u → (∀ w', w.grownBy w' (some p) → RBB w' w'.heap.size A pm pl) →
                      Calls Try.prog 31 #[.pointer (some ⟨p, 0, none⟩), .slice A pm c] w (FlowPost w ty p rest key (u + t) (trnL key u pl.flatten) 0) from fun ty p rest A c w hf hp => by
                    have h := FTurn_any ty p rest key u A pm c pl w hf hu hp (by omega)
                    rw [HT.out, HE.out, HU.out] at h
                    exact h)
                  obtain ⟨xl, hxl⟩ : ∃ xl, trnL key u pl.flatten = xl := ⟨_, rfl⟩
                  rw [hxl] at HTL HLN HFT
                  clear hE hU hL hxl
                  go_wp2_with fail
                  refine (Copies_any PA pm pc pl w4 w.heap.size (HRB.out.below HI4.out.b) (by omega) (by omega) HML.out).mono ?_
                  rintro e w5 ⟨g5, c5, rfl, ho5, hb5⟩
                  have HP5 := Lib.hid ho5
                  have HA5 := Lib.hid (own_later HA4.out hb5)
                  have HW5 := Lib.hid (own_later HW4.out hb5)
                  have HI5 := Lib.hid (HI4.out.later hb5)
                  have hq5 : w5.cell? ⟨q, 1, none⟩ = some (.slice PA pm pc) := by rw [hb5.cell (p := ⟨q, 1, none⟩) (by show q < _; omega)]; exact hq4
                  have hz5 := hb5.size
                  clear ho5 hb5 HA4 HW4 HI4 hq4
                  go_wp2_with fail
                  refine (HFT.out _ p1 [] (some ⟨g5, 0, none⟩) c5 w5 HI5.out.f1 (fun w' hg => RBB.of_own (OBB.kept_far HP5.out hg (by omega)))).mono ?_
                  rintro e w6 ⟨XA, xn, xc, rfl, hxn, hx6, hf6, hg6⟩
                  have HX6 := Lib.hid (own_base hx6 (base' := q) (by omega))
                  have HXB := Lib.hid (show ∀ g, (Value.slice XA xn xc).ownBlock = some g → w5.heap.size ≤ g from fun g hg => (hx6.lt g hg).1)
                  have HA6 := Lib.hid (HA5.out.kept hg6 (far_own HA5.out (by omega)))
                  have HW6 := Lib.hid (HW5.out.kept hg6 (far_own HW5.out (by omega)))
                  have HI6 := Lib.hid (FInv.mk hf6 (HI5.out.f2.grown hg6 (by simp; omega)) (HI5.out.b.grown hg6 HI5.out.b.size (fun g hg => by injection hg with hg; omega)))
                  have hq6 : w6.cell? ⟨q, 1, none⟩ = some (.slice PA pm pc) := hg6.cell hq5 (by simp; omega)
                  have hz6 := hg6.size
                  have hxn' := HLN.out
                  rw [hxn] at hxn'
                  obtain rfl : t = xn := hxn'.symm
                  clear hx6 hf6 hg6 hq5 HA5 HW5 HI5 HP5 hxn
                  go_wp2_with fail
                  go_region_held3 (fun w' => w'.cell? ⟨q, 1, none⟩ = some (.slice PA pm pc)) (go_keep) (first
                    | (go_at_call 20; refine (Copies_any PA pm pc pl _ w.heap.size (by exact HRB.out.below HI6.out.b.drew) (by exact HI6.out.b.size) (by omega) HML.out).mono ?_; rintro e w7 ⟨g7, c7, rfl, ho7, hb7⟩; have hb7' := Below.trans (Below.drew (Below.refl w6.heap.size w6)) hb7; have k7 := (hb7'.cell (p := ⟨q, 1, none⟩) (by show q < _; omega)).trans hq6; have hz7 := hb7'.size; have HP7 := Lib.hid ho7; have HB7 := Lib.hid hb7'; clear ho7 hb7 hb7')
                    | (go_at_call 31; refine (HFT.out _ p2 [.int .i64 (cn : Int)] (some ⟨g7, 0, none⟩) c7 w7 (by exact (HI6.out.later HB7.out).f2) (by exact fun w' hg => RBB.of_own (OBB.kept_far HP7.out hg (by show p2 < w6.heap.size; omega)))).mono ?_; rintro e w8 ⟨YA, yn, yc, rfl, hyn, hy8, hf8, hg8⟩; have k8 := hg8.cell k7 (by simp; omega)))
                  have HX := Lib.hid ((own_later HX6.out HB7.out).kept hg8 (far_own (own_later HX6.out HB7.out) (by omega)))
                  have HY := Lib.hid (own_base hy8 (base' := q) (by omega))
                  have HYB := Lib.hid (show ∀ g, (Value.slice YA yn yc).ownBlock = some g → w5.heap.size ≤ g from fun g hg => by have := (hy8.lt g hg).1; omega)
                  have HA := Lib.hid ((own_later HA6.out HB7.out).kept hg8 (far_own HA6.out (by omega)))
                  have HW8 := Lib.hid (own_base ((own_later HW6.out HB7.out).kept hg8 (far_own HW6.out (by omega))) (base' := q) (by omega))
                  have HI := Lib.hid (FInv.mk ((HI6.out.later HB7.out).f1.grown hg8 (by simp; omega)) hf8 ((HI6.out.later HB7.out).b.grown hg8 (HI6.out.later HB7.out).b.size (fun g hg => by injection hg with hg; omega)))
                  have hz8 := hg8.size
                  have hyn' := HLN.out
                  rw [hyn] at hyn'
                  obtain rfl : t = yn := hyn'.symm
                  clear hy8 hf8 hg8 k7 k8 HX6 HA6 HW6 HI6 hq6 HP7 HB7 hyn
                  go_wp2_with fail

                  obtain ⟨st, hst⟩ : ∃ st, sbytes key u t = st := ⟨_, rfl⟩
                  have HSL := Lib.hid (show st.length = t by rw [← hst]; exact length_sbytes _ _ _)
                  rw [hst] at HTL HW8
                  clear hst
                  obtain ⟨pf, hpf⟩ : ∃ pf, pl.flatten = pf := ⟨_, rfl⟩
                  rw [hpf] at HTL HT HA
                  clear hpf
                  go_loopw [151] (fun i wi => ∃ z : Nat, z ≤ t ∧ i = .int .i64 z ∧ wi.ownsRow q 5 1 (.slice (some ⟨g4, 0, none⟩) t c4) t (bv (mix st pf z)) ∧ w8.grownBy wi (some g4)) (fun i _ => t - (intOf i).toNat)
                  case atStart => exact ⟨0, by omega, rfl, by rw [mix_zero]; exact HW8.out, World.grownBy.refl _ _⟩
                  case round =>
                    obtain ⟨z, hz, rfl, hown, hg⟩ := hrel
                    have HOi := Lib.hid hown
                    have HGi := Lib.hid hg
                    have hsz9 := hg.size
                    clear hown hg
                    by_cases hzt : z < t
                    · obtain ⟨a2, rfl, hb2, hc2⟩ := (RB.of_own HA.out).at_ hzt
                      have hb3 := HAL.out a2.block rfl
                      have hc2' := (HGi.out.cell_far (a2.add z) (by rw [block_of_add]; exact hb2) (by rw [block_of_add]; intro h; injection h with h; omega)).trans hc2
                      have hcr := HOi.out.cellAt z (by omega)
                      rw [bv_at _ _ (by rw [length_mix HSL.out HT.out hz]; exact hzt), bt_mix HSL.out HT.out hzt] at hcr
                      have hfr := HOi.out.frozenAt z
                      clear hc2
                      go_wp2
                      go_still_tail 12, (by kernel_rfl)
                      change wpList _ _ _ _ _ (World.drew _)
                      go_wp2
                      refine ⟨⟨z + 1, by omega, by go_num, ?_, ?_⟩, by simp [intOf]; omega⟩
                      · have h := (HOi.out.stored z (.int .u8 ((st.getD z 0 ^^^ pf.getD z 0).toNat : Int))).1
                        rw [bv_set, ← mix_succ HSL.out HT.out hzt] at h
                        unfold bt
                        rw [bits_u8_xor]
                        exact h
                      · have h := HGi.out.trans (HOi.out.stored z (.int .u8 ((st.getD z 0 ^^^ pf.getD z 0).toNat : Int))).2
                        unfold bt
                        rw [bits_u8_xor]
                        exact ⟨h.os, h.tape, h.output, h.size, h.block⟩
                    · obtain rfl : z = t := by omega
                      have hfin := HOi.out
                      rw [mix_all HSL.out HT.out, ← HTL.out] at hfin
                      have HW := Lib.hid hfin
                      have HX9 := Lib.hid (HX.out.kept HGi.out (by
                        cases hq : (Value.slice XA z xc).ownBlock with
                        | none => exact .inl rfl
                        | some g =>
                          right
                          intro he
                          injection he with he
                          have := HXB.out g hq
                          omega))
                      have HY9 := Lib.hid (HY.out.kept HGi.out (by
                        cases hq : (Value.slice YA z yc).ownBlock with
                        | none => exact .inl rfl
                        | some g =>
                          right
                          intro he
                          injection he with he
                          have := HYB.out g hq
                          omega))
                      have HI9 := Lib.hid (HI.out.grown HGi.out (by simp; omega) (by simp; omega) (fun g hg => by injection hg with hg; omega))
                      clear hfin HX HY HI HOi HGi HA HW8 HXB HYB HAL
                      have HX := Lib.hid HX9.out
                      have HY := Lib.hid HY9.out
                      have HI := Lib.hid HI9.out
                      clear HX9 HY9 HI9
                      go_wp2_with fail
                      refine (Equal_any XA (some ⟨g4, 0, none⟩) z z xc c4 xl xl wr _ _ (RB.of_own HX.out) (RB.of_own HW.out) (by omega)).mono ?_
                      rintro e w20 ⟨rfl, k20, rfl⟩
                      rw [show decide (xl = xl) = true by simp]
                      go_wp2_with fail
                      refine (Equal_any YA (some ⟨g4, 0, none⟩) z z yc c4 xl xl (wr.drewN k20) wr.heap.size wr.heap.size ((RB.of_own HY.out).drewN k20) ((RB.of_own HW.out).drewN k20) (by omega)).mono ?_
                      rintro e w21 ⟨rfl, k21, rfl⟩
                      rw [show decide (xl = xl) = true by simp]
                      have HX21 := Lib.hid (show ((wr.drewN k20).drewN k21).ownsRow q 5 1 (.slice XA z xc) z (bv xl) from HX.out)
                      have HI21 := Lib.hid (HI.out.later (below_drewN (below_drewN (Below.refl _ _) k20) k21))
                      have hc21 := HI21.out.f2.rest0
                      clear HX HY HW HI
                      generalize (wr.drewN k20).drewN k21 = w21 at *
                      go_wp2_with fail
                      refine (OverOwn_any XA z xc q xl w21 HX21.out (by omega)).mono ?_
                      rintro e w22 ⟨rfl, _, hg⟩
                      have hxo : ∀ g, (Value.slice XA z xc).ownBlock = some g → q ≤ g := fun g hg => (HX21.out.lt g hg).1
                      have HI22 := Lib.hid (HI21.out.grown hg (fun h => by have := hxo _ h.symm; omega) (fun h => by have := hxo _ h.symm; omega) (fun g hgg => by have := hxo g hgg; omega))
                      clear hg hxo hc21 HX21 HI21
                      go_wp2_with fail
                      exact ⟨⟨k + 1, u + z, cn, by omega, by go_num, by go_num, rfl, by omega, by omega, HI22.out⟩, by simp [intOf]; omega⟩
                · skip
                  have hpd : decide (0 < pm) = true := decide_eq_true hpm

                  have ht' : 65536 - (u : Int) < (t : Int) := by omega
                  have HA4 := Lib.hid HA3.out
                  have HI4 := Lib.hid HI3.out
                  have HW4 := Lib.hid HW3.out
                  have hq4 := hq3
                  obtain ⟨w4, hw4⟩ : ∃ w4, w3 = w4 := ⟨_, rfl⟩
                  subst hw4
                  clear HA3 HI3 HW3 hq3

                  have hturn : trnE u t = 11 ∧ trnU u t = u ∧ (trnL key u pl.flatten).length = 0 := by
                    have hT := HT.out
                    refine ⟨by rw [trnE, if_neg ht], by rw [trnU, if_neg ht], ?_⟩
                    rw [trnL, hT, if_neg ht]
                    rfl
                  have HTL := Lib.hid (show trnL key u pl.flatten = [] by rw [trnL, HT.out, if_neg ht])
                  obtain ⟨hE, hU, hL⟩ := hturn
                  have HE := Lib.hid hE
                  have HU := Lib.hid hU
                  have HLN := Lib.hid hL
                  have HFT := Lib.hid (show ∀ (ty : TypeId) (p : Nat) (rest : List Value) (A : Option Addr) (c : Nat) (w : World), FlowAt w ty p rest key u → (∀ w', w.grownBy w' (some p) → RBB w' w'.heap.size A pm pl) →
                      Calls Try.prog 31 #[.pointer (some ⟨p, 0, none⟩), .slice A pm c] w (FlowPost w ty p rest key (u) (trnL key u pl.flatten) 11) from fun ty p rest A c w hf hp => by
                    have h := FTurn_any ty p rest key u A pm c pl w hf hu hp (by omega)
                    rw [HT.out, HE.out, HU.out] at h
                    exact h)
                  obtain ⟨xl, hxl⟩ : ∃ xl, trnL key u pl.flatten = xl := ⟨_, rfl⟩
                  rw [hxl] at HTL HLN HFT
                  clear hE hU hL hxl
                  go_wp2_with fail
                  refine (Copies_any PA pm pc pl w3 w.heap.size (HRB.out.below HI4.out.b) (by omega) (by omega) HML.out).mono ?_
                  rintro e w5 ⟨g5, c5, rfl, ho5, hb5⟩
                  have HP5 := Lib.hid ho5
                  have HA5 := Lib.hid (own_later HA4.out hb5)
                  have HW5 := Lib.hid (own_later HW4.out hb5)
                  have HI5 := Lib.hid (HI4.out.later hb5)
                  have hq5 : w5.cell? ⟨q, 1, none⟩ = some (.slice PA pm pc) := by rw [hb5.cell (p := ⟨q, 1, none⟩) (by show q < _; omega)]; exact hq4
                  have hz5 := hb5.size
                  clear ho5 hb5 HA4 HW4 HI4 hq4
                  go_wp2_with fail
                  refine (HFT.out _ p1 [] (some ⟨g5, 0, none⟩) c5 w5 HI5.out.f1 (fun w' hg => RBB.of_own (OBB.kept_far HP5.out hg (by omega)))).mono ?_
                  rintro e w6 ⟨XA, xn, xc, rfl, hxn, hx6, hf6, hg6⟩
                  have HX6 := Lib.hid (own_base hx6 (base' := q) (by omega))
                  have HXB := Lib.hid (show ∀ g, (Value.slice XA xn xc).ownBlock = some g → w5.heap.size ≤ g from fun g hg => (hx6.lt g hg).1)
                  have HA6 := Lib.hid (HA5.out.kept hg6 (far_own HA5.out (by omega)))
                  have HW6 := Lib.hid (HW5.out.kept hg6 (far_own HW5.out (by omega)))
                  have HI6 := Lib.hid (FInv.mk hf6 (HI5.out.f2.grown hg6 (by simp; omega)) (HI5.out.b.grown hg6 HI5.out.b.size (fun g hg => by injection hg with hg; omega)))
                  have hq6 : w6.cell? ⟨q, 1, none⟩ = some (.slice PA pm pc) := hg6.cell hq5 (by simp; omega)
                  have hz6 := hg6.size
                  have hxn' := HLN.out
                  rw [hxn] at hxn'
                  obtain rfl : 0 = xn := hxn'.symm
                  clear hx6 hf6 hg6 hq5 HA5 HW5 HI5 HP5 hxn
                  go_wp2_with fail
                  go_region_held3 (fun w' => w'.cell? ⟨q, 1, none⟩ = some (.slice PA pm pc)) (go_keep) (first
                    | (go_at_call 20; refine (Copies_any PA pm pc pl _ w.heap.size (by exact HRB.out.below HI6.out.b.drew) (by exact HI6.out.b.size) (by omega) HML.out).mono ?_; rintro e w7 ⟨g7, c7, rfl, ho7, hb7⟩; have hb7' := Below.trans (Below.drew (Below.refl w6.heap.size w6)) hb7; have k7 := (hb7'.cell (p := ⟨q, 1, none⟩) (by show q < _; omega)).trans hq6; have hz7 := hb7'.size; have HP7 := Lib.hid ho7; have HB7 := Lib.hid hb7'; clear ho7 hb7 hb7')
                    | (go_at_call 31; refine (HFT.out _ p2 [.int .i64 (cn : Int)] (some ⟨g7, 0, none⟩) c7 w7 (by exact (HI6.out.later HB7.out).f2) (by exact fun w' hg => RBB.of_own (OBB.kept_far HP7.out hg (by show p2 < w6.heap.size; omega)))).mono ?_; rintro e w8 ⟨YA, yn, yc, rfl, hyn, hy8, hf8, hg8⟩; have k8 := hg8.cell k7 (by simp; omega)))
                  have HX := Lib.hid ((own_later HX6.out HB7.out).kept hg8 (far_own (own_later HX6.out HB7.out) (by omega)))
                  have HY := Lib.hid (own_base hy8 (base' := q) (by omega))
                  have HYB := Lib.hid (show ∀ g, (Value.slice YA yn yc).ownBlock = some g → w5.heap.size ≤ g from fun g hg => by have := (hy8.lt g hg).1; omega)
                  have HA := Lib.hid ((own_later HA6.out HB7.out).kept hg8 (far_own HA6.out (by omega)))
                  have HW8 := Lib.hid (own_base ((own_later HW6.out HB7.out).kept hg8 (far_own HW6.out (by omega))) (base' := q) (by omega))
                  have HI := Lib.hid (FInv.mk ((HI6.out.later HB7.out).f1.grown hg8 (by simp; omega)) hf8 ((HI6.out.later HB7.out).b.grown hg8 (HI6.out.later HB7.out).b.size (fun g hg => by injection hg with hg; omega)))
                  have hz8 := hg8.size
                  have hyn' := HLN.out
                  rw [hyn] at hyn'
                  obtain rfl : 0 = yn := hyn'.symm
                  clear hy8 hf8 hg8 k7 k8 HX6 HA6 HW6 HI6 hq6 HP7 HB7 hyn
                  go_wp2_with fail

                  obtain rfl : xl = [] := HTL.out
                  go_loopw [151] (fun i wi => i = .int .i64 0 ∧ wi = w8) (fun _ _ => 0)
                  case atStart => exact ⟨rfl, rfl⟩
                  case round =>
                    obtain ⟨rfl, rfl⟩ := hrel
                    have HW := Lib.hid HW8.out
                    have HX := Lib.hid HX.out
                    clear HW8 HA
                    go_wp2_with fail
                    refine (Equal_any XA (some ⟨r3, 0, none⟩) 0 0 xc 0 [] [] wr _ _ (RB.of_own HX.out) (RB.of_own HW.out) (by omega)).mono ?_
                    rintro e w20 ⟨rfl, k20, rfl⟩
                    rw [show decide ([] = []) = true by simp]
                    go_wp2_with fail
                    refine (Equal_any YA (some ⟨r3, 0, none⟩) 0 0 yc 0 [] [] (wr.drewN k20) wr.heap.size wr.heap.size ((RB.of_own HY.out).drewN k20) ((RB.of_own HW.out).drewN k20) (by omega)).mono ?_
                    rintro e w21 ⟨rfl, k21, rfl⟩
                    rw [show decide ([] = []) = true by simp]
                    have HX21 := Lib.hid (show ((wr.drewN k20).drewN k21).ownsRow q 5 1 (.slice XA 0 xc) 0 (bv []) from HX.out)
                    have HI21 := Lib.hid (HI.out.later (below_drewN (below_drewN (Below.refl _ _) k20) k21))
                    have hc21 := HI21.out.f2.rest0
                    clear HX HY HW HI
                    generalize (wr.drewN k20).drewN k21 = w21 at *
                    go_wp2_with fail
                    refine (OverOwn_any XA 0 xc q [] w21 HX21.out (by omega)).mono ?_
                    rintro e w22 ⟨rfl, _, hg⟩
                    have hxo : ∀ g, (Value.slice XA 0 xc).ownBlock = some g → q ≤ g := fun g hg => (HX21.out.lt g hg).1
                    have HI22 := Lib.hid (HI21.out.grown hg (fun h => by have := hxo _ h.symm; omega) (fun h => by have := hxo _ h.symm; omega) (fun g hgg => by have := hxo g hgg; omega))
                    clear hg hxo hc21 HX21 HI21
                    go_wp2_with fail
                    exact ⟨⟨k + 1, u, cn, by omega, by go_num, rfl, rfl, by omega, by omega, HI22.out⟩, by simp [intOf]; omega⟩
              · obtain rfl : pm = 0 := by omega
                clear hpm
                by_cases hbad : N' < 0 ∨ 65536 < N'
                · rcases (by omega : N' < 0 ∨ (0 ≤ N' ∧ 65536 < N')) with hneg | ⟨hneg, hbig⟩
                  · skip
                    have n1' : nxtE u N' = 1 := by unfold nxtE; rw [if_pos hbad]
                    have HN1 := Lib.hid n1'
                    have HN2 := Lib.hid (show nxtL key u N' = [] by unfold nxtL; rw [n1']; rfl)
                    have HN3 := Lib.hid (show nxtU u N' = u by unfold nxtU; rw [n1']; rfl)
                    have HN4 := Lib.hid (show cntN u N' cn = cn by unfold cntN; rw [n1']; rfl)
                    have HF1' := Lib.hid (show ∀ (w : World), FlowAt w 62 p1 [] key u → Calls Try.prog 32 #[.pointer (some ⟨p1, 0, none⟩), .int .i64 N'] w (FlowPost w 62 p1 [] key (u) ([]) 1) from fun w hf => by
                      have h := Next_any _ p1 [] key u N' w hf hu
                      rw [HN1.out, HN2.out, HN3.out] at h
                      exact h)
                    have HF2' := Lib.hid (show ∀ (w : World), FlowAt w 64 p2 [.int .i64 (cn : Int)] key u → Calls Try.prog 33 #[.pointer (some ⟨p2, 0, none⟩), .int .i64 N'] w (FlowPost w 64 p2 [.int .i64 ((cn : Nat) : Int)] key (u) ([]) 1) from fun w hf => by
                      have h := CNext_any p2 cn key u N' w hf hu (by omega)
                      rw [HN1.out, HN2.out, HN3.out, HN4.out] at h
                      exact h)
                    clear n1' HN1 HN2 HN3 HN4

                    have HW4 := Lib.hid HW3.out
                    have HI4 := Lib.hid HI3.out
                    clear HI3 HW3

                    go_wp2_with fail
                    refine (HF1'.out w3 HI4.out.f1).mono ?_
                    rintro e w5 ⟨XA, xn, xc, rfl, hxn, hx5, hf5, hg5⟩
                    obtain rfl : 0 = xn := by rw [← hxn]; rfl
                    have HX5 := Lib.hid (own_base hx5 (base' := q) (by omega))
                    have HW5 := Lib.hid (HW4.out.kept hg5 (far_own HW4.out (by omega)))
                    have HI5 := Lib.hid (FInv.mk hf5 (HI4.out.f2.grown hg5 (by simp; omega)) (HI4.out.b.grown hg5 HI4.out.b.size (fun g hg => by injection hg with hg; omega)))
                    have hz5 := hg5.size
                    clear hx5 hf5 hg5 HW4 HI4 HF1' hxn
                    go_wp2_with fail
                    refine (HF2'.out w5 HI5.out.f2).mono ?_
                    rintro e w6 ⟨YA, yn, yc, rfl, hyn, hy6, hf6, hg6⟩
                    obtain rfl : 0 = yn := by rw [← hyn]; rfl
                    have HY := Lib.hid (own_base hy6 (base' := q) (by omega))
                    have HX := Lib.hid (HX5.out.kept hg6 (far_own HX5.out (by omega)))
                    have HW := Lib.hid (HW5.out.kept hg6 (far_own HW5.out (by omega)))
                    have HI := Lib.hid (FInv.mk (HI5.out.f1.grown hg6 (by simp; omega)) hf6 (HI5.out.b.grown hg6 HI5.out.b.size (fun g hg => by injection hg with hg; omega)))
                    have hz6 := hg6.size
                    clear hy6 hf6 hg6 HW5 HX5 HI5 HF2' hyn

                    go_wp2_with fail
                    refine (Equal_any XA (some ⟨r3, 0, none⟩) 0 0 xc 0 [] [] w6 _ _ (RB.of_own HX.out) (RB.of_own HW.out) (by omega)).mono ?_
                    rintro e w20 ⟨rfl, k20, rfl⟩
                    rw [show decide ([] = []) = true by simp]
                    go_wp2_with fail
                    refine (Equal_any YA (some ⟨r3, 0, none⟩) 0 0 yc 0 [] [] (w6.drewN k20) w6.heap.size w6.heap.size ((RB.of_own HY.out).drewN k20) ((RB.of_own HW.out).drewN k20) (by omega)).mono ?_
                    rintro e w21 ⟨rfl, k21, rfl⟩
                    rw [show decide ([] = []) = true by simp]
                    have HX21 := Lib.hid (show ((w6.drewN k20).drewN k21).ownsRow q 5 1 (.slice XA 0 xc) 0 (bv []) from HX.out)
                    have HI21 := Lib.hid (HI.out.later (below_drewN (below_drewN (Below.refl _ _) k20) k21))
                    have hc21 := HI21.out.f2.rest0
                    clear HX HY HW HI
                    generalize (w6.drewN k20).drewN k21 = w21 at *
                    go_wp2_with fail
                    refine (OverOwn_any XA 0 xc q [] w21 HX21.out (by omega)).mono ?_
                    rintro e w22 ⟨rfl, _, hg⟩
                    have hxo : ∀ g, (Value.slice XA 0 xc).ownBlock = some g → q ≤ g := fun g hg => (HX21.out.lt g hg).1
                    have HI22 := Lib.hid (HI21.out.grown hg (fun h => by have := hxo _ h.symm; omega) (fun h => by have := hxo _ h.symm; omega) (fun g hgg => by have := hxo g hgg; omega))
                    clear hg hxo hc21 HX21 HI21
                    go_wp2_with fail
                    exact ⟨⟨k + 1, u, cn, by omega, by go_num, rfl, rfl, by omega, by omega, HI22.out⟩, by simp [intOf]; omega⟩
                  · skip
                    have hneg' : ¬ N' < 0 := by omega
                    have n1' : nxtE u N' = 1 := by unfold nxtE; rw [if_pos hbad]
                    have HN1 := Lib.hid n1'
                    have HN2 := Lib.hid (show nxtL key u N' = [] by unfold nxtL; rw [n1']; rfl)
                    have HN3 := Lib.hid (show nxtU u N' = u by unfold nxtU; rw [n1']; rfl)
                    have HN4 := Lib.hid (show cntN u N' cn = cn by unfold cntN; rw [n1']; rfl)
                    have HF1' := Lib.hid (show ∀ (w : World), FlowAt w 62 p1 [] key u → Calls Try.prog 32 #[.pointer (some ⟨p1, 0, none⟩), .int .i64 N'] w (FlowPost w 62 p1 [] key (u) ([]) 1) from fun w hf => by
                      have h := Next_any _ p1 [] key u N' w hf hu
                      rw [HN1.out, HN2.out, HN3.out] at h
                      exact h)
                    have HF2' := Lib.hid (show ∀ (w : World), FlowAt w 64 p2 [.int .i64 (cn : Int)] key u → Calls Try.prog 33 #[.pointer (some ⟨p2, 0, none⟩), .int .i64 N'] w (FlowPost w 64 p2 [.int .i64 ((cn : Nat) : Int)] key (u) ([]) 1) from fun w hf => by
                      have h := CNext_any p2 cn key u N' w hf hu (by omega)
                      rw [HN1.out, HN2.out, HN3.out, HN4.out] at h
                      exact h)
                    clear n1' HN1 HN2 HN3 HN4

                    have HW4 := Lib.hid HW3.out
                    have HI4 := Lib.hid HI3.out
                    clear HI3 HW3

                    go_wp2_with fail
                    refine (HF1'.out w3 HI4.out.f1).mono ?_
                    rintro e w5 ⟨XA, xn, xc, rfl, hxn, hx5, hf5, hg5⟩
                    obtain rfl : 0 = xn := by rw [← hxn]; rfl
                    have HX5 := Lib.hid (own_base hx5 (base' := q) (by omega))
                    have HW5 := Lib.hid (HW4.out.kept hg5 (far_own HW4.out (by omega)))
                    have HI5 := Lib.hid (FInv.mk hf5 (HI4.out.f2.grown hg5 (by simp; omega)) (HI4.out.b.grown hg5 HI4.out.b.size (fun g hg => by injection hg with hg; omega)))
                    have hz5 := hg5.size
                    clear hx5 hf5 hg5 HW4 HI4 HF1' hxn
                    go_wp2_with fail
                    refine (HF2'.out w5 HI5.out.f2).mono ?_
                    rintro e w6 ⟨YA, yn, yc, rfl, hyn, hy6, hf6, hg6⟩
                    obtain rfl : 0 = yn := by rw [← hyn]; rfl
                    have HY := Lib.hid (own_base hy6 (base' := q) (by omega))
                    have HX := Lib.hid (HX5.out.kept hg6 (far_own HX5.out (by omega)))
                    have HW := Lib.hid (HW5.out.kept hg6 (far_own HW5.out (by omega)))
                    have HI := Lib.hid (FInv.mk (HI5.out.f1.grown hg6 (by simp; omega)) hf6 (HI5.out.b.grown hg6 HI5.out.b.size (fun g hg => by injection hg with hg; omega)))
                    have hz6 := hg6.size
                    clear hy6 hf6 hg6 HW5 HX5 HI5 HF2' hyn

                    go_wp2_with fail
                    refine (Equal_any XA (some ⟨r3, 0, none⟩) 0 0 xc 0 [] [] w6 _ _ (RB.of_own HX.out) (RB.of_own HW.out) (by omega)).mono ?_
                    rintro e w20 ⟨rfl, k20, rfl⟩
                    rw [show decide ([] = []) = true by simp]
                    go_wp2_with fail
                    refine (Equal_any YA (some ⟨r3, 0, none⟩) 0 0 yc 0 [] [] (w6.drewN k20) w6.heap.size w6.heap.size ((RB.of_own HY.out).drewN k20) ((RB.of_own HW.out).drewN k20) (by omega)).mono ?_
                    rintro e w21 ⟨rfl, k21, rfl⟩
                    rw [show decide ([] = []) = true by simp]
                    have HX21 := Lib.hid (show ((w6.drewN k20).drewN k21).ownsRow q 5 1 (.slice XA 0 xc) 0 (bv []) from HX.out)
                    have HI21 := Lib.hid (HI.out.later (below_drewN (below_drewN (Below.refl _ _) k20) k21))
                    have hc21 := HI21.out.f2.rest0
                    clear HX HY HW HI
                    generalize (w6.drewN k20).drewN k21 = w21 at *
                    go_wp2_with fail
                    refine (OverOwn_any XA 0 xc q [] w21 HX21.out (by omega)).mono ?_
                    rintro e w22 ⟨rfl, _, hg⟩
                    have hxo : ∀ g, (Value.slice XA 0 xc).ownBlock = some g → q ≤ g := fun g hg => (HX21.out.lt g hg).1
                    have HI22 := Lib.hid (HI21.out.grown hg (fun h => by have := hxo _ h.symm; omega) (fun h => by have := hxo _ h.symm; omega) (fun g hgg => by have := hxo g hgg; omega))
                    clear hg hxo hc21 HX21 HI21
                    go_wp2_with fail
                    exact ⟨⟨k + 1, u, cn, by omega, by go_num, rfl, rfl, by omega, by omega, HI22.out⟩, by simp [intOf]; omega⟩
                · have hb1 : 0 ≤ N' := by omega
                  have hb2 : N' ≤ 65536 := by omega
                  have hb1' : ¬ N' < 0 := by omega
                  have hb2' : ¬ 65536 < N' := by omega
                  by_cases hov : 65536 - (u : Int) < N'
                  · skip
                    have n1' : nxtE u N' = 11 := by unfold nxtE; rw [if_neg hbad, if_pos hov]
                    have HN1 := Lib.hid n1'
                    have HN2 := Lib.hid (show nxtL key u N' = [] by unfold nxtL; rw [n1']; rfl)
                    have HN3 := Lib.hid (show nxtU u N' = u by unfold nxtU; rw [n1']; rfl)
                    have HN4 := Lib.hid (show cntN u N' cn = cn by unfold cntN; rw [n1']; rfl)
                    have HF1' := Lib.hid (show ∀ (w : World), FlowAt w 62 p1 [] key u → Calls Try.prog 32 #[.pointer (some ⟨p1, 0, none⟩), .int .i64 N'] w (FlowPost w 62 p1 [] key (u) ([]) 11) from fun w hf => by
                      have h := Next_any _ p1 [] key u N' w hf hu
                      rw [HN1.out, HN2.out, HN3.out] at h
                      exact h)
                    have HF2' := Lib.hid (show ∀ (w : World), FlowAt w 64 p2 [.int .i64 (cn : Int)] key u → Calls Try.prog 33 #[.pointer (some ⟨p2, 0, none⟩), .int .i64 N'] w (FlowPost w 64 p2 [.int .i64 ((cn : Nat) : Int)] key (u) ([]) 11) from fun w hf => by
                      have h := CNext_any p2 cn key u N' w hf hu (by omega)
                      rw [HN1.out, HN2.out, HN3.out, HN4.out] at h
                      exact h)
                    clear n1' HN1 HN2 HN3 HN4

                    have HW4 := Lib.hid HW3.out
                    have HI4 := Lib.hid HI3.out
                    clear HI3 HW3

                    go_wp2_with fail
                    refine (HF1'.out w3 HI4.out.f1).mono ?_
                    rintro e w5 ⟨XA, xn, xc, rfl, hxn, hx5, hf5, hg5⟩
                    obtain rfl : 0 = xn := by rw [← hxn]; rfl
                    have HX5 := Lib.hid (own_base hx5 (base' := q) (by omega))
                    have HW5 := Lib.hid (HW4.out.kept hg5 (far_own HW4.out (by omega)))
                    have HI5 := Lib.hid (FInv.mk hf5 (HI4.out.f2.grown hg5 (by simp; omega)) (HI4.out.b.grown hg5 HI4.out.b.size (fun g hg => by injection hg with hg; omega)))
                    have hz5 := hg5.size
                    clear hx5 hf5 hg5 HW4 HI4 HF1' hxn
                    go_wp2_with fail
                    refine (HF2'.out w5 HI5.out.f2).mono ?_
                    rintro e w6 ⟨YA, yn, yc, rfl, hyn, hy6, hf6, hg6⟩
                    obtain rfl : 0 = yn := by rw [← hyn]; rfl
                    have HY := Lib.hid (own_base hy6 (base' := q) (by omega))
                    have HX := Lib.hid (HX5.out.kept hg6 (far_own HX5.out (by omega)))
                    have HW := Lib.hid (HW5.out.kept hg6 (far_own HW5.out (by omega)))
                    have HI := Lib.hid (FInv.mk (HI5.out.f1.grown hg6 (by simp; omega)) hf6 (HI5.out.b.grown hg6 HI5.out.b.size (fun g hg => by injection hg with hg; omega)))
                    have hz6 := hg6.size
                    clear hy6 hf6 hg6 HW5 HX5 HI5 HF2' hyn

                    go_wp2_with fail
                    refine (Equal_any XA (some ⟨r3, 0, none⟩) 0 0 xc 0 [] [] w6 _ _ (RB.of_own HX.out) (RB.of_own HW.out) (by omega)).mono ?_
                    rintro e w20 ⟨rfl, k20, rfl⟩
                    rw [show decide ([] = []) = true by simp]
                    go_wp2_with fail
                    refine (Equal_any YA (some ⟨r3, 0, none⟩) 0 0 yc 0 [] [] (w6.drewN k20) w6.heap.size w6.heap.size ((RB.of_own HY.out).drewN k20) ((RB.of_own HW.out).drewN k20) (by omega)).mono ?_
                    rintro e w21 ⟨rfl, k21, rfl⟩
                    rw [show decide ([] = []) = true by simp]
                    have HX21 := Lib.hid (show ((w6.drewN k20).drewN k21).ownsRow q 5 1 (.slice XA 0 xc) 0 (bv []) from HX.out)
                    have HI21 := Lib.hid (HI.out.later (below_drewN (below_drewN (Below.refl _ _) k20) k21))
                    have hc21 := HI21.out.f2.rest0
                    clear HX HY HW HI
                    generalize (w6.drewN k20).drewN k21 = w21 at *
                    go_wp2_with fail
                    refine (OverOwn_any XA 0 xc q [] w21 HX21.out (by omega)).mono ?_
                    rintro e w22 ⟨rfl, _, hg⟩
                    have hxo : ∀ g, (Value.slice XA 0 xc).ownBlock = some g → q ≤ g := fun g hg => (HX21.out.lt g hg).1
                    have HI22 := Lib.hid (HI21.out.grown hg (fun h => by have := hxo _ h.symm; omega) (fun h => by have := hxo _ h.symm; omega) (fun g hgg => by have := hxo g hgg; omega))
                    clear hg hxo hc21 HX21 HI21
                    go_wp2_with fail
                    exact ⟨⟨k + 1, u, cn, by omega, by go_num, rfl, rfl, by omega, by omega, HI22.out⟩, by simp [intOf]; omega⟩
                  · skip
                    have hov' : N' ≤ 65536 - (u : Int) := by omega
                    have n1' : nxtE u N' = 0 := by unfold nxtE; rw [if_neg hbad, if_neg hov]
                    have HN1 := Lib.hid n1'
                    have HN2 := Lib.hid (show nxtL key u N' = sbytes key u N'.toNat by unfold nxtL; rw [n1']; rfl)
                    have HN3 := Lib.hid (show nxtU u N' = u + N'.toNat by unfold nxtU; rw [n1']; rfl)
                    have HN4 := Lib.hid (show cntN u N' cn = cn + 1 by unfold cntN; rw [n1']; rfl)
                    have HF1' := Lib.hid (show ∀ (w : World), FlowAt w 62 p1 [] key u → Calls Try.prog 32 #[.pointer (some ⟨p1, 0, none⟩), .int .i64 N'] w (FlowPost w 62 p1 [] key (u + N'.toNat) (sbytes key u N'.toNat) 0) from fun w hf => by
                      have h := Next_any _ p1 [] key u N' w hf hu
                      rw [HN1.out, HN2.out, HN3.out] at h
                      exact h)
                    have HF2' := Lib.hid (show ∀ (w : World), FlowAt w 64 p2 [.int .i64 (cn : Int)] key u → Calls Try.prog 33 #[.pointer (some ⟨p2, 0, none⟩), .int .i64 N'] w (FlowPost w 64 p2 [.int .i64 ((cn + 1 : Nat) : Int)] key (u + N'.toNat) (sbytes key u N'.toNat) 0) from fun w hf => by
                      have h := CNext_any p2 cn key u N' w hf hu (by omega)
                      rw [HN1.out, HN2.out, HN3.out, HN4.out] at h
                      exact h)
                    clear n1' HN1 HN2 HN3 HN4

                    obtain ⟨z, rfl⟩ := Int.eq_ofNat_of_zero_le (show 0 ≤ N' by omega)
                    rw [Int.toNat_natCast] at HF1' HF2'
                    have hz1 : z ≤ 65536 := by omega
                    have hz2 : u + z ≤ 65536 := by omega
                    go_wp2_with fail
                    refine (RefBytes_any A c key u z w3 w.heap.size (HK.out.below HI3.out.b) (by omega) hz2).mono ?_
                    rintro e w4 ⟨g4, c4, rfl, ho4, hb4⟩
                    have HW4 := Lib.hid (own_base ho4 (base' := q) (by omega))
                    have HI4 := Lib.hid (HI3.out.later hb4)
                    have HZL := Lib.hid (length_sbytes key u z)
                    have hz4 := hb4.size
                    clear ho4 hb4 HI3 HW3 hq3
                    generalize sbytes key u z = xl at *

                    go_wp2_with fail
                    refine (HF1'.out w4 HI4.out.f1).mono ?_
                    rintro e w5 ⟨XA, xn, xc, rfl, hxn, hx5, hf5, hg5⟩
                    obtain rfl : z = xn := by rw [← hxn]; exact HZL.out.symm
                    have HX5 := Lib.hid (own_base hx5 (base' := q) (by omega))
                    have HW5 := Lib.hid (HW4.out.kept hg5 (far_own HW4.out (by omega)))
                    have HI5 := Lib.hid (FInv.mk hf5 (HI4.out.f2.grown hg5 (by simp; omega)) (HI4.out.b.grown hg5 HI4.out.b.size (fun g hg => by injection hg with hg; omega)))
                    have hz5 := hg5.size
                    clear hx5 hf5 hg5 HW4 HI4 HF1' hxn
                    go_wp2_with fail
                    refine (HF2'.out w5 HI5.out.f2).mono ?_
                    rintro e w6 ⟨YA, yn, yc, rfl, hyn, hy6, hf6, hg6⟩
                    obtain rfl : z = yn := by rw [← hyn]; exact HZL.out.symm
                    have HY := Lib.hid (own_base hy6 (base' := q) (by omega))
                    have HX := Lib.hid (HX5.out.kept hg6 (far_own HX5.out (by omega)))
                    have HW := Lib.hid (HW5.out.kept hg6 (far_own HW5.out (by omega)))
                    have HI := Lib.hid (FInv.mk (HI5.out.f1.grown hg6 (by simp; omega)) hf6 (HI5.out.b.grown hg6 HI5.out.b.size (fun g hg => by injection hg with hg; omega)))
                    have hz6 := hg6.size
                    clear hy6 hf6 hg6 HW5 HX5 HI5 HF2' hyn

                    go_wp2_with fail
                    refine (Equal_any XA (some ⟨g4, 0, none⟩) z z xc c4 xl xl w6 _ _ (RB.of_own HX.out) (RB.of_own HW.out) (by omega)).mono ?_
                    rintro e w20 ⟨rfl, k20, rfl⟩
                    rw [show decide (xl = xl) = true by simp]
                    go_wp2_with fail
                    refine (Equal_any YA (some ⟨g4, 0, none⟩) z z yc c4 xl xl (w6.drewN k20) w6.heap.size w6.heap.size ((RB.of_own HY.out).drewN k20) ((RB.of_own HW.out).drewN k20) (by omega)).mono ?_
                    rintro e w21 ⟨rfl, k21, rfl⟩
                    rw [show decide (xl = xl) = true by simp]
                    have HX21 := Lib.hid (show ((w6.drewN k20).drewN k21).ownsRow q 5 1 (.slice XA z xc) z (bv xl) from HX.out)
                    have HI21 := Lib.hid (HI.out.later (below_drewN (below_drewN (Below.refl _ _) k20) k21))
                    have hc21 := HI21.out.f2.rest0
                    clear HX HY HW HI
                    generalize (w6.drewN k20).drewN k21 = w21 at *
                    go_wp2_with fail
                    refine (OverOwn_any XA z xc q xl w21 HX21.out (by omega)).mono ?_
                    rintro e w22 ⟨rfl, _, hg⟩
                    have hxo : ∀ g, (Value.slice XA z xc).ownBlock = some g → q ≤ g := fun g hg => (HX21.out.lt g hg).1
                    have HI22 := Lib.hid (HI21.out.grown hg (fun h => by have := hxo _ h.symm; omega) (fun h => by have := hxo _ h.symm; omega) (fun g hgg => by have := hxo g hgg; omega))
                    clear hg hxo hc21 HX21 HI21
                    go_wp2_with fail
                    exact ⟨⟨k + 1, u + z, cn + 1, by omega, by go_num, by go_num, by go_num, by omega, by omega, HI22.out⟩, by simp [intOf]; omega⟩
        · obtain rfl : k = m := by omega
          go_wp2_with fail
          go_ret
          exact ⟨rfl, HI.out.b⟩
    · exact absurd rfl h32
  · have h5 : ((kl : Int) != 32) = true := by rw [bne_iff_ne]; omega
    go_wp2_with fail
    refine (Count_any _ kl c2 key w2 _ (RB.of_own HO2.out) (Nat.le_refl _)).mono ?_
    rintro e w4 (⟨h, _⟩ | ⟨_, rfl, rfl⟩)
    · exact absurd h h32
    · clear h32
      go_wp2_with fail
      go_ret
      exact ⟨rfl, HB2.out⟩
end Go.Proofs.Ytbnlpahgpphpjaa
