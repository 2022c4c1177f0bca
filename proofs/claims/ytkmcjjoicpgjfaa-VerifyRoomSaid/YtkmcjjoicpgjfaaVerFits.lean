/-
  Contract of verify.fits: the first step. Conditions: the sizes that slices can have.
-/
import Derived.Test.YtkmcjjoicpgjfaaVerKnown
namespace Go.Proofs.Ytkmcjjoicpgjfaa
open Go Go.RowKit Go.Sh

/-- are all names of a route known? -/
def krB (ns : List Hp) (r : List Sp) : Bool := r.all fun s => knB s.nm ns
/-- the error of the first step -/
noncomputable def fitP (p : Prg) (ns : List Hp) : Int := if ckP p ≠ 0 then ckP p else if chkN ns ≠ 0 then chkN ns else if p.rts.all (krB ns) = true then 0 else 4
/-- what is known of a program in form -/
structure Formed (p : Prg) : Prop where
  ops : ∀ i ∈ p.code, i.op.toNat ≤ 16
  ins : ∀ i ∈ p.code, shB i = true
  msgs : ∀ m ∈ p.msgs, m.length ≤ 7200
  rts : ∀ r ∈ p.rts, 1 ≤ r.length ∧ r.length ≤ 5
  snds : ∀ s ∈ p.snds, 1 ≤ s.rts.length ∧ s.rts.length ≤ 8 ∧ (∀ r ∈ s.rts, 0 ≤ r ∧ r ≤ 63) ∧ 0 ≤ s.msg ∧ s.msg ≤ 63 ∧ -1 ≤ s.blk ∧ s.blk ≤ 15
  n1 : p.code.length ≤ 4000
  n2 : p.msgs.length ≤ 64
  n3 : p.rts.length ≤ 64
  n4 : p.snds.length ≤ 64
  vars : 0 ≤ p.vars ∧ p.vars ≤ 64
  stack : 0 ≤ p.stack ∧ p.stack ≤ 64
  blocks : 0 ≤ p.blocks ∧ p.blocks ≤ 16
  fuel : 0 ≤ p.fuel ∧ p.fuel ≤ 1000000
theorem wi_iff {n lo hi : Int} : wi n lo hi = true ↔ lo ≤ n ∧ n ≤ hi := by unfold wi; rw [Bool.and_eq_true, decide_eq_true_eq, decide_eq_true_eq]
theorem formed_of {p : Prg} (h : ckP p = 0) : Formed p := by
  unfold ckP at h
  split at h
  · cases h
  · rename_i h1
    split at h
    · cases h
    · rename_i h2
      split at h
      · cases h
      · rename_i h3
        rw [Bool.not_eq_false] at h1 h2 h3
        unfold fmB at h2
        unfold bdB at h3
        simp only [Bool.and_eq_true, List.all_eq_true, decide_eq_true_eq, wi_iff] at h1 h2 h3
        refine ⟨fun i hi => ?_, h2.1.1.1, h2.1.1.2, fun r hr => ?_, fun s hs => ?_, h3.1.1.1.1.1.1.1, h3.1.1.1.1.1.1.2, h3.1.1.1.1.1.2, h3.1.1.1.1.2, h3.1.1.1.2, h3.1.1.2, h3.1.2, h3.2⟩
        · have := h1 i hi
          unfold usB at this
          rw [decide_eq_true_eq] at this
          exact this
        · have := h2.1.2 r hr
          unfold rtB at this
          simp only [Bool.and_eq_true, decide_eq_true_eq] at this
          exact this.1
        · have := h2.2 s hs
          unfold sdB at this
          simp only [Bool.and_eq_true, decide_eq_true_eq, List.all_eq_true, wi_iff] at this
          exact ⟨this.1.1.1.1, this.1.1.1.2, this.1.1.2, this.1.2.1, this.1.2.2, this.2.1, this.2.2⟩
theorem ckP_err (p : Prg) : ckP p = 0 ∨ ckP p = 1 ∨ ckP p = 3 ∨ ckP p = 11 := by
  unfold ckP
  split
  · simp
  · split
    · simp
    · split <;> simp
set_option maxRecDepth 100000 in
set_option maxHeartbeats 4000000 in
theorem fits_is (d : Pad) (p : Prg) (ns : List Hp) (A : Option Addr) (n c : Nat) (w : World) (B : Nat) (hp : PR w B d p) (hB : B ≤ w.heap.size) (hr : RR w B 66 A n (ns.map Hp.node)) (hok : ∀ h ∈ ns, h.OK) (hn : n ≤ 140737488355328) :
    Calls Try.prog 14 #[.agg (pcs d p), .slice A n c] w (fun e w' => e = .returned (.int .i64 (fitP p ns)) ∧ Below w.heap.size w w') := by
  have HS := Lib.hid (show fitP p ns = if ckP p ≠ 0 then ckP p else if chkN ns ≠ 0 then chkN ns else if p.rts.all (krB ns) = true then 0 else 4 from rfl)
  have HOK := Lib.hid hok
  have hb1 := (Below.refl w.heap.size w).alloc (Nat.le_refl _) (.cells (pcs d p) 27)
  have HB := Lib.hid hb1
  have HPR := Lib.hid (hp.below (hb1.mono hB))
  have HR := Lib.hid (hr.below (hb1.mono hB))
  have HBX := Lib.hid (show (w.alloc (.cells (pcs d p) 27)).heap[w.heap.size]? = some (.cells (pcs d p).toList.toArray 27 (0, 0)) from heap_alloc_new w _)
  have HC2 := Lib.hid (show (w.alloc (.cells (pcs d p) 27)).cell? ⟨w.heap.size, 2, none⟩ = some (.slice d.A3 d.n3 d.c3) by rw [blk_cell (heap_alloc_new w _)]; rfl)
  have hps : (pcs d p).size = 8 := rfl
  have hz1 : (w.alloc (.cells (pcs d p) 27)).heap.size = w.heap.size + 1 := by simp
  have HCK := Lib.hid (fun (W : World) (h : PR W B d p) (hB : B ≤ W.heap.size) => CodeCheck_any d p W B h hB)
  have HL3 := Lib.hid hp.rts.len
  have hn3 : d.n3 ≤ 140737488355328 := hp.b3
  have HI := Lib.hid (show (Try.prog.info? 27).map (·.size) = some (pcs d p).toList.length by rw [show (pcs d p).toList.length = 8 from rfl]; exact info_prog)
  generalize fitP p ns = r at *
  clear hp hb1 hr hok
  obtain ⟨X, hX⟩ : ∃ X, pcs d p = X := ⟨_, rfl⟩
  have HTA := Lib.hid (show (pcs d p).toList.toArray = X by rw [hX])
  have HBX1 := Lib.hid (show (w.alloc (.cells X 27)).heap[w.heap.size]? = some (.cells (pcs d p).toList.toArray 27 (0, 0)) by rw [← hX]; exact HBX.out)
  rw [hX] at HB HPR HR HC2 hps hz1 HCK ⊢
  have hxe : ¬ X = #[] := by intro h; rw [h] at hps; cases hps
  clear hX HBX
  generalize (pcs d p).toList = L at *
  have HRG := Lib.hid (blk_range HBX1.out)
  go_enter Try.func14, Try.ntmps14
  go_wp2_with (refine wl_load_mid (by rfl) _ (.tmp 2) rfl w.heap.size 0 rfl L _ HRG.out Try.underlying27 rfl HI.out ?_; rw [HTA.out])
  clear HRG HBX1
  generalize w.alloc (.cells X 27) = w1 at *
  generalize hg : w.heap.size = g at *
  have HG := Lib.hid hg
  clear hg
  refine (HCK.out w1 HPR.out (by omega)).mono ?_
  rintro e w2 ⟨rfl, hb2⟩
  have HB2 := Lib.hid (hb2.mono (show g + 1 ≤ w1.heap.size by omega))
  have hz2 := hb2.size
  clear hb2 HCK
  by_cases h1 : ckP p = 0
  · have HFO := Lib.hid (formed_of h1)
    rw [h1] at HS ⊢
    have hr := HS.out
    rw [if_neg (by decide)] at hr
    have HS2 := Lib.hid hr
    clear HS hr h1
    go_wp2_with fail
    refine (DirCheck_any A n c ns w2 B (HR.out.below (HB2.out.mono (by omega))) HOK.out hn).mono ?_
    rintro e w3 ⟨rfl, md, rfl⟩
    have HB3 := Lib.hid (below_drewN HB2.out md)
    have hz3 : (w2.drewN md).heap.size = w2.heap.size := rfl
    clear HB2
    generalize w2.drewN md = w3 at *
    by_cases h2 : chkN ns = 0
    · rw [h2] at HS2 ⊢
      have hr := HS2.out
      rw [if_neg (by decide)] at hr
      have HS3 := Lib.hid hr
      have hc2 := (HB3.out.cell (p := ⟨g, 2, none⟩) (Nat.lt_succ_self _)).trans HC2.out
      clear HS2 hr h2
      go_wp2_with fail
      go_loopw [8, 10, 24, 30] (fun _ _ i _ wr => ∃ k : Nat, k ≤ d.n3 ∧ i = .int .i64 (k : Int) ∧ Below (g + 1) w1 wr ∧ ∀ j, j < k → krB ns (rat p.rts j) = true) (fun _ _ i _ _ => d.n3 - (intOf i).toNat)
      case atStart => exact ⟨0, by omega, rfl, HB3.out, fun j hj => absurd hj (by omega)⟩
      case round =>
        obtain ⟨k, hk, rfl, hb, hall⟩ := hrel
        have HA := Lib.hid hall
        have HBr := Lib.hid hb
        have hzr := hb.size
        clear hall hb
        by_cases hlt : k < d.n3
        · have dk : (k : Int) < (d.n3 : Int) := by omega
          have HSY := Lib.hid (asked (f := krB ns) (at_ := rat) (fun {_} h => rat_eq h) (by rw [HL3.out]; exact hlt) HA.out)
          obtain ⟨ad, Ai, ni, ci, hA3, _, c0, _, hrr⟩ := (HPR.out.rts.below (HBr.out.mono (by omega))).at_ hlt
          have HRR3 := Lib.hid hrr
          have HLR := Lib.hid (show (rat p.rts k).length = ni by rw [← hrr.len, List.length_map])
          clear hrr
          rw [hA3]
          have hn5 : ni ≤ 5 := by rw [← HLR.out]; exact (HFO.out.rts _ (rat_mem (by rw [HL3.out]; exact hlt))).2
          generalize rat p.rts k = ss at *
          obtain ⟨wo, rfl⟩ : ∃ wo, wo = wr := ⟨_, rfl⟩
          go_wp2_with fail
          go_loopw [10, 30] (fun _ i wx => ∃ q : Nat, q ≤ ni ∧ i = .int .i64 (q : Int) ∧ Below (g + 1) w1 wx ∧ wo.heap.size ≤ wx.heap.size ∧ Below wo.heap.size wo wx ∧ ∀ j, j < q → knB (sat ss j).nm ns = true) (fun _ i _ => ni - (intOf i).toNat)
          case atStart => exact ⟨0, by omega, rfl, HBr.out, Nat.le_refl _, Below.refl _ _, fun j hj => absurd hj (by omega)⟩
          case round =>
            obtain ⟨q, hq, rfl, hb, hsz, hbw, hall⟩ := hrel
            have HAq := Lib.hid hall
            have HBq := Lib.hid hb
            have HWq := Lib.hid hbw
            clear hall hb hbw
            by_cases hlq : q < ni
            · have dq : (q : Int) < (ni : Int) := by omega
              obtain ⟨b, off, rfl, _, c0, c1, c2⟩ := stop_at (HRR3.out.below (HWq.out.mono (show B ≤ wo.heap.size by omega))) hlq
              have HSZ := Lib.hid (asked (f := fun s : Sp => knB s.nm ns) (at_ := sat) (fun {_} h => sat_eq h) (by rw [HLR.out]; exact hlq) HAq.out)
              generalize sat ss q = st at *
              obtain ⟨nm, dl, fl⟩ := st
              simp only at c0 c1 c2
              go_wp2_with fail
              have hb1 := (Below.refl wr.heap.size wr).alloc (Nat.le_refl _) (.cells #[.string nm, .int .i64 dl, .int .i64 fl] 62)
              have hzz : (wr.alloc (.cells #[.string nm, .int .i64 dl, .int .i64 fl] 62)).heap.size = wr.heap.size + 1 := by simp
              have HB1 := Lib.hid (HBq.out.trans (hb1.mono (by omega)))
              have HW1 := Lib.hid (HWq.out.trans (hb1.mono (by omega)))
              clear hb1 c0 c1 c2
              generalize wr.alloc (.cells #[.string nm, .int .i64 dl, .int .i64 fl] 62) = wa at *
              refine (known_any nm ns A n c wa B (HR.out.below (HB1.out.mono (by omega))) HOK.out (by omega) hn).mono ?_
              rintro e wb ⟨rfl, hbb⟩
              have hzb := hbb.size
              have HBB := Lib.hid (HB1.out.trans (hbb.mono (by omega)))
              have HWB := Lib.hid (HW1.out.trans (hbb.mono (by omega)))
              clear hbb HB1 HW1
              rcases Bool.eq_false_or_eq_true (knB nm ns) with h | h
              · have HGG := Lib.hid (HSZ.out.1 h)
                rw [h]
                clear h HSZ
                go_wp2_with fail
                refine ⟨⟨q + 1, by omega, by go_num, HBB.out, by omega, HWB.out, HGG.out⟩, by simp [intOf]; omega⟩
              · have hr := HS3.out
                rw [if_neg (by rw [HSY.out.2 (HSZ.out.2 h)]; decide)] at hr
                rw [h]
                clear h HSZ HSY
                go_wp2_with fail
                go_ret
                exact ⟨by first | rfl | (rw [hr]; rfl), by rw [HG.out]; exact HB.out.trans (HBB.out.mono (by omega))⟩
            · obtain rfl : q = ni := by omega
              have HGG := Lib.hid (HSY.out.1 (asked_all (f := fun s : Sp => knB s.nm ns) (at_ := sat) (fun {_} h => sat_eq h) (by rw [HLR.out]; exact HAq.out)))
              clear HSY
              go_wp2_with fail
              refine ⟨⟨k + 1, by omega, by go_num, HBq.out, HGG.out⟩, by simp [intOf]; omega⟩
        · obtain rfl : k = d.n3 := by omega
          have hr := HS3.out
          rw [if_pos (asked_all (f := krB ns) (at_ := rat) (fun {_} h => rat_eq h) (by rw [HL3.out]; exact HA.out))] at hr
          go_wp2_with fail
          go_ret
          exact ⟨by first | rfl | (rw [hr]; rfl), by rw [HG.out]; exact HB.out.trans (HBr.out.mono (by omega))⟩
    · have hne : (chkN ns != 0) = true := by rw [bne_iff_ne]; exact h2
      have hr := HS2.out
      rw [if_pos h2] at hr
      clear h2 HS2
      generalize chkN ns = e2 at *
      go_wp2_with fail
      go_ret
      exact ⟨by first | rfl | (rw [hr]; rfl), by rw [HG.out]; exact HB.out.trans (HB3.out.mono (by omega))⟩
  · have hne : (ckP p != 0) = true := by rw [bne_iff_ne]; exact h1
    have hr := HS.out
    rw [if_pos h1] at hr
    clear h1 HS
    generalize ckP p = e2 at *
    go_wp2_with fail
    go_ret
    exact ⟨by first | rfl | (rw [hr]; rfl), by rw [HG.out]; exact HB.out.trans (HB2.out.mono (by omega))⟩
end Go.Proofs.Ytkmcjjoicpgjfaa
