/-
  Contract of search.find. Conditions: a search lies in memory; the place is not negative.
-/
import Derived.Test.YtkmcjjoicpgjfaaVerSt
namespace Go.Proofs.Ytkmcjjoicpgjfaa
open Go Go.RowKit Go.Sh

set_option maxRecDepth 100000 in
set_option maxHeartbeats 4000000 in
theorem find_is (d : Pad) (p : Prg) (G q gh gt gw n : Nat) (s : St) (k : Nat) (h : Int) (t : Bool) (w : World) (hm : SM w d p q gh gt gw n s) (ha : Apt G q gh gt gw) :
    Calls Try.prog 26 #[.pointer (some ⟨q, 0, none⟩), .int .i64 (k : Int), .int .i64 h, .bool t] w (fun e w' => e = .returned (.int .i64 (findS n s k h t).1) ∧ SM w' d p q gh gt gw n (findS n s k h t).2 ∧ Below G w w' ∧ ∀ c : Nat, c ≠ q → c ≠ gh → c ≠ gt → c ≠ gw → w'.heap[c]? = w.heap[c]?) := by
  have HM := Lib.hid hm
  have HA := Lib.hid ha
  have c0 := hm.c0
  have HS := Lib.hid (show findS n s (k : Int) h t = if (n : Int) ≤ (k : Int) then (14, s) else if 0 ≤ it s.hs k then (if bat s.ts k != t then (10, s) else if it s.hs k ≠ h then (13, s) else (0, s)) else (0, { s with hs := s.hs.set k h, ts := s.ts.set k t, wt := s.wt.set k true, fs := min s.fs k }) from rfl)
  obtain ⟨r, s', hrs⟩ : ∃ r s', findS n s (k : Int) h t = (r, s') := ⟨_, _, rfl⟩
  rw [hrs] at HS ⊢
  simp only
  clear hrs hm ha
  by_cases h1 : n ≤ k
  · have e := HS.out
    rw [if_pos (by omega)] at e
    obtain ⟨rfl, e2⟩ := Prod.mk.inj e
    have e2 := e2.symm
    subst e2
    have h1' : (n : Int) ≤ (k : Int) := by omega
    clear e h1 HS
    go_enter Try.func26, Try.ntmps26
    go_wp2_with fail
    go_ret
    exact ⟨rfl, HM.out, Below.refl _ _, fun _ _ _ _ _ => rfl⟩
  · have hkn : k < n := by omega
    have h1' : ¬ (n : Int) ≤ (k : Int) := by omega
    have hk' : (k : Int) < (n : Int) := by omega
    have e := HS.out
    rw [if_neg (by omega)] at e
    have HS2 := Lib.hid e
    have ch := HM.out.ch hkn
    have ct := HM.out.ct hkn
    have c1 := HM.out.c1
    clear e h1 HS
    by_cases h2 : 0 ≤ it s.hs k
    · have e := HS2.out
      rw [if_pos h2] at e
      have HS3 := Lib.hid e
      clear e HS2
      generalize it s.hs k = x at *
      generalize bat s.ts k = y at *
      cases y <;> cases t
      · have e := HS3.out
        rw [if_neg (by decide)] at e
        have HS4 := Lib.hid e
        clear e HS3
        by_cases h4 : x = h
        · have e := HS4.out
          rw [if_neg (by omega)] at e
          obtain ⟨rfl, e2⟩ := Prod.mk.inj e
          have e2 := e2.symm
          subst e2
          have h4' : (x != h) = false := by rw [bne_eq_false_iff_eq]; exact h4
          clear e HS4 h4
          go_enter Try.func26, Try.ntmps26
          go_wp2_with fail
          go_ret
          exact ⟨rfl, HM.out, Below.refl _ _, fun _ _ _ _ _ => rfl⟩
        · have e := HS4.out
          rw [if_pos h4] at e
          obtain ⟨rfl, e2⟩ := Prod.mk.inj e
          have e2 := e2.symm
          subst e2
          have h4' : (x != h) = true := by rw [bne_iff_ne]; exact h4
          clear e HS4 h4
          go_enter Try.func26, Try.ntmps26
          go_wp2_with fail
          go_ret
          exact ⟨rfl, HM.out, Below.refl _ _, fun _ _ _ _ _ => rfl⟩
      · have e := HS3.out
        rw [if_pos (by decide)] at e
        obtain ⟨rfl, e2⟩ := Prod.mk.inj e
        have e2 := e2.symm
        subst e2
        clear e HS3
        go_enter Try.func26, Try.ntmps26
        go_wp2_with fail
        go_ret
        exact ⟨rfl, HM.out, Below.refl _ _, fun _ _ _ _ _ => rfl⟩
      · have e := HS3.out
        rw [if_pos (by decide)] at e
        obtain ⟨rfl, e2⟩ := Prod.mk.inj e
        have e2 := e2.symm
        subst e2
        clear e HS3
        go_enter Try.func26, Try.ntmps26
        go_wp2_with fail
        go_ret
        exact ⟨rfl, HM.out, Below.refl _ _, fun _ _ _ _ _ => rfl⟩
      · have e := HS3.out
        rw [if_neg (by decide)] at e
        have HS4 := Lib.hid e
        clear e HS3
        by_cases h4 : x = h
        · have e := HS4.out
          rw [if_neg (by omega)] at e
          obtain ⟨rfl, e2⟩ := Prod.mk.inj e
          have e2 := e2.symm
          subst e2
          have h4' : (x != h) = false := by rw [bne_eq_false_iff_eq]; exact h4
          clear e HS4 h4
          go_enter Try.func26, Try.ntmps26
          go_wp2_with fail
          go_ret
          exact ⟨rfl, HM.out, Below.refl _ _, fun _ _ _ _ _ => rfl⟩
        · have e := HS4.out
          rw [if_pos h4] at e
          obtain ⟨rfl, e2⟩ := Prod.mk.inj e
          have e2 := e2.symm
          subst e2
          have h4' : (x != h) = true := by rw [bne_iff_ne]; exact h4
          clear e HS4 h4
          go_enter Try.func26, Try.ntmps26
          go_wp2_with fail
          go_ret
          exact ⟨rfl, HM.out, Below.refl _ _, fun _ _ _ _ _ => rfl⟩
    · have e := HS2.out
      rw [if_neg h2] at e
      obtain ⟨rfl, e2⟩ := Prod.mk.inj e
      have e2 := e2.symm
      subst e2
      clear e HS2
      have cw := HM.out.cw hkn
      have c11 := HM.out.c11
      have c12 := HM.out.c12
      have fh : w.frozen? ⟨gh, k, none⟩ = false := frozen_of_row _ _ _ _ _ HM.out.H
      have ft : w.frozen? ⟨gt, k, none⟩ = false := frozen_of_row _ _ _ _ _ HM.out.T
      have fw : w.frozen? ⟨gw, k, none⟩ = false := frozen_of_row _ _ _ _ _ HM.out.W
      have fq : w.frozen? ⟨q, 12, none⟩ = false := frozen_of_row _ _ _ _ _ HM.out.blk
      have a1 := HA.out.qh
      have a2 := HA.out.qt
      have a3 := HA.out.qw
      have a4 := HA.out.ht
      have a5 := HA.out.hw
      have a6 := HA.out.tw
      have b1 := Ne.symm a1
      have b2 := Ne.symm a2
      have b3 := Ne.symm a3
      have b4 := Ne.symm a4
      have b5 := Ne.symm a5
      have b6 := Ne.symm a6
      have h2' : it s.hs k < 0 := by omega
      clear h2
      generalize it s.hs k = x at *
      generalize bat s.ts k = y at *
      generalize bat s.wt k = z at *
      go_enter Try.func26, Try.ntmps26
      go_wp2_with fail
      go_region_held3 (fun w' => w'.cell? ⟨q, 0, none⟩ = some (.slice (some ⟨gh, 0, none⟩) n n) ∧ w'.cell? ⟨q, 1, none⟩ = some (.slice (some ⟨gt, 0, none⟩) n n) ∧ w'.cell? ⟨q, 11, none⟩ = some (.slice (some ⟨gw, 0, none⟩) n n)) (go_keep) (fail)
      have HM2 := Lib.hid ((((HM.out.setH HA.out k h).setT HA.out k t).setW HA.out k true).drewN 1)
      have HB2 := Lib.hid (below_drewN ((((Below.refl G w).setCell (p := ⟨gh, k, none⟩) HA.out.lh (.int .i64 h)).setCell (p := ⟨gt, k, none⟩) HA.out.lt (.bool t)).setCell (p := ⟨gw, k, none⟩) HA.out.lw (.bool true)) 1)
      have HO2 := Lib.hid (show ∀ c : Nat, c ≠ q → c ≠ gh → c ≠ gt → c ≠ gw → ((((w.setCell ⟨gh, k, none⟩ (.int .i64 h)).setCell ⟨gt, k, none⟩ (.bool t)).setCell ⟨gw, k, none⟩ (.bool true)).drewN 1).heap[c]? = w.heap[c]? from fun c x1 x2 x3 x4 => ((far_blk x4).trans ((far_blk x3).trans (far_blk x2))))
      have q12 := HM2.out.c12
      have f12 : (((((w.setCell ⟨gh, k, none⟩ (.int .i64 h)).setCell ⟨gt, k, none⟩ (.bool t)).setCell ⟨gw, k, none⟩ (.bool true)).drewN 1)).frozen? ⟨q, 12, none⟩ = false := frozen_of_row _ _ _ _ _ HM2.out.blk
      change Exit.then _ _ _ _ ((((w.setCell ⟨gh, k, none⟩ (.int .i64 h)).setCell ⟨gt, k, none⟩ (.bool t)).setCell ⟨gw, k, none⟩ (.bool true)).drewN 1)
      simp only at q12
      clear c0 c1 c11 c12 ch ct cw fh ft fw fq a1 a2 a3 a4 a5 a6 b1 b2 b3 b4 b5 b6 HM
      generalize (((w.setCell ⟨gh, k, none⟩ (.int .i64 h)).setCell ⟨gt, k, none⟩ (.bool t)).setCell ⟨gw, k, none⟩ (.bool true)).drewN 1 = w2 at *
      by_cases hmin : s.fs ≤ k
      · have hm1 : min s.fs k = s.fs := Nat.min_eq_left hmin
        have hm2 : (s.fs : Int) ≤ (k : Int) := by omega
        have hm3 : min (s.fs : Int) (k : Int) = (s.fs : Int) := by omega
        have HF := Lib.hid (HM2.out.setF HA.out s.fs)
        have HBF := Lib.hid (HB2.out.setCell (p := ⟨q, 12, none⟩) HA.out.lq (.int .i64 (s.fs : Int)))
        have HMN := Lib.hid hm1
        clear hm1
        go_wp2_with fail
        go_ret
        exact ⟨rfl, by first | exact HF.out | (rw [HMN.out]; exact HF.out), HBF.out, fun c x1 x2 x3 x4 => (far_blk x1).trans (HO2.out c x1 x2 x3 x4)⟩
      · have hm1 : min s.fs k = k := Nat.min_eq_right (by omega)
        have hm2 : ¬ (s.fs : Int) ≤ (k : Int) := by omega
        have hm3 : min (s.fs : Int) (k : Int) = (k : Int) := by omega
        have HF := Lib.hid (HM2.out.setF HA.out k)
        have HBF := Lib.hid (HB2.out.setCell (p := ⟨q, 12, none⟩) HA.out.lq (.int .i64 (k : Int)))
        have HMN := Lib.hid hm1
        clear hm1
        go_wp2_with fail
        go_ret
        exact ⟨rfl, by first | exact HF.out | (rw [HMN.out]; exact HF.out), HBF.out, fun c x1 x2 x3 x4 => (far_blk x1).trans (HO2.out c x1 x2 x3 x4)⟩
end Go.Proofs.Ytkmcjjoicpgjfaa
