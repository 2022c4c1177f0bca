/-
  Contract of search.next. Conditions: a search lies in memory.
-/
import Derived.Test.YtkmcjjoicpgjfaaVerSt
import Derived.StillTailTactics
namespace Go.Proofs.Ytkmcjjoicpgjfaa
open Go Go.RowKit Go.Sh

/-- the first place from i on, of m, that waits -/
def fwT (wt : List Bool) (i : Nat) : Nat → Nat
  | 0 => i
  | m + 1 => if bat wt i = true then i else fwT wt (i + 1) m
theorem fwT_le (wt : List Bool) : ∀ m i, i ≤ fwT wt i m ∧ fwT wt i m ≤ i + m
  | 0, i => ⟨Nat.le_refl _, Nat.le_refl _⟩
  | m + 1, i => by
    unfold fwT
    split
    · omega
    · have := fwT_le wt m (i + 1)
      omega
theorem fwT_skip {wt : List Bool} {i m : Nat} (h : bat wt i = false) : fwT wt i (m + 1) = fwT wt (i + 1) m := by
  rw [fwT, if_neg (by rw [h]; decide)]
theorem fwT_here {wt : List Bool} {i m : Nat} (h : bat wt i = true) : fwT wt i (m + 1) = i := by
  rw [fwT, if_pos h]
/-- the first that waits, and the analysis without it waiting -/
def nextS (n : Nat) (s : St) : Nat × St :=
  if fwT s.wt s.fs (n - s.fs) < n then (fwT s.wt s.fs (n - s.fs), { s with wt := s.wt.set (fwT s.wt s.fs (n - s.fs)) false, fs := fwT s.wt s.fs (n - s.fs) })
  else (n, { s with fs := n })
/-- what next hands back -/
def nxI (n : Nat) (r : Nat × St) : Int := if r.1 < n then (r.1 : Int) else -1
set_option maxRecDepth 100000 in
set_option maxHeartbeats 4000000 in
theorem next_is (d : Pad) (p : Prg) (G q gh gt gw n : Nat) (s : St) (w : World) (hm : SM w d p q gh gt gw n s) (ha : Apt G q gh gt gw) (hfs : s.fs ≤ n) (hn : n ≤ 4000) :
    Calls Try.prog 27 #[.pointer (some ⟨q, 0, none⟩)] w (fun e w' => e = .returned (.int .i64 (nxI n (nextS n s))) ∧ SM w' d p q gh gt gw n (nextS n s).2 ∧ Below G w w') := by
  have HM := Lib.hid hm
  have HA := Lib.hid ha
  obtain ⟨x, hx⟩ : ∃ x, fwT s.wt s.fs (n - s.fs) = x := ⟨_, rfl⟩
  have HX := Lib.hid hx
  have hx1 : s.fs ≤ x ∧ x ≤ n := by have := fwT_le s.wt (n - s.fs) s.fs; rw [hx] at this; omega
  have HS := Lib.hid (show nextS n s = if x < n then (x, { s with wt := s.wt.set x false, fs := x }) else (n, { s with fs := n }) by unfold nextS; rw [hx])
  generalize nextS n s = r at *
  have HX1 := Lib.hid hx1
  have HFS := Lib.hid hfs
  clear hm ha hx hx1 hfs
  go_enter Try.func27, Try.ntmps27
  go_wp2_with fail
  go_loopw [2] (fun _ wr => ∃ i : Nat, s.fs ≤ i ∧ i ≤ x ∧ SM wr d p q gh gt gw n { s with fs := i } ∧ Below G w wr ∧ fwT s.wt i (n - i) = x) (fun _ wr => n - (match wr.cell? ⟨q, 12, none⟩ with | some v => (intOf v).toNat | none => 0))
  case atStart => exact ⟨s.fs, Nat.le_refl _, HX1.out.1, HM.out, Below.refl _ _, HX.out⟩
  case round =>
    obtain ⟨i, hi, hix, hm, hb, hfw⟩ := hrel
    have HMr := Lib.hid hm
    have HBr := Lib.hid hb
    have HFW := Lib.hid hfw
    have hin : i ≤ n := by have := HX1.out; omega
    have c12 := HMr.out.c12
    have c11 := HMr.out.c11
    clear hm hb HM hfw
    simp only at c12
    go_wp2_with fail
    go_quiet (fail)
    have HC12 := Lib.hid c12
    have HM2 := Lib.hid (HMr.out.drewN nq)
    have HB2 := Lib.hid (below_drewN HBr.out nq)
    clear c12 c11 HBr
    generalize wr.drewN nq = wq at *
    by_cases hlt : i < n
    · rw [decide_eq_true hlt]
      have c12 := HM2.out.c12
      have c11 := HM2.out.c11
      have cw := HM2.out.cw hlt
      simp only at c12 cw
      have hi' : (i : Int) < (n : Int) := by omega
      obtain ⟨m, hm⟩ : ∃ m, n - i = m + 1 := ⟨n - i - 1, by omega⟩
      rw [hm] at HFW
      have HMM := Lib.hid hm
      clear hm
      rcases Bool.eq_false_or_eq_true (bat s.wt i) with hbt | hbt
      · have hxi : x = i := by rw [← HFW.out, fwT_here hbt]
        rw [hbt] at cw
        clear hbt
        go_wp2_with fail
        go_quiet (fail)
        have HM3 := Lib.hid (HM2.out.drewN nq)
        have HB3 := Lib.hid (below_drewN HB2.out nq)
        clear c12 c11 cw HM2 HB2
        generalize wq.drewN nq = wz at *
        have c12 := HM3.out.c12
        have c11 := HM3.out.c11
        have cw := HM3.out.cw hlt
        have fw : wz.frozen? ⟨gw, i, none⟩ = false := frozen_of_row _ _ _ _ _ HM3.out.W
        simp only at c12 cw
        go_wp2_with fail
        have HMS := Lib.hid ((HM3.out.setW HA.out i false).drewN 1)
        have c12s : (wz.setCell ⟨gw, i, none⟩ (.bool false)).cell? ⟨q, 12, none⟩ = some (.int .i64 (i : Int)) := (HM3.out.setW HA.out i false).c12
        have HBS := Lib.hid (below_drewN (HB3.out.setCell (p := ⟨gw, i, none⟩) HA.out.lw (.bool false)) 1)
        go_still_tail 9, (by kernel_rfl)
        change wpList _ _ _ _ _ (World.drew _)
        go_wp2_with fail
        go_ret
        have hr := HS.out
        rw [hxi, if_pos hlt] at hr
        rw [hr]
        exact ⟨by unfold nxI; rw [if_pos hlt]; rfl, HMS.out, HBS.out⟩
      · rw [hbt] at cw
        have HBT := Lib.hid hbt
        rw [fwT_skip hbt] at HFW
        clear hbt
        go_wp2_with fail
        go_quiet (fail)
        have HM3 := Lib.hid (HM2.out.drewN nq)
        have HB3 := Lib.hid (below_drewN HB2.out nq)
        clear c12 c11 cw HM2 HB2
        generalize wq.drewN nq = wz at *
        have c12 := HM3.out.c12
        have f12 : wz.frozen? ⟨q, 12, none⟩ = false := frozen_of_row _ _ _ _ _ HM3.out.blk
        simp only at c12
        have HMS := Lib.hid (HM3.out.setF HA.out (i + 1))
        have HBS := Lib.hid (HB3.out.setCell (p := ⟨q, 12, none⟩) HA.out.lq (.int .i64 ((i + 1 : Nat) : Int)))
        have HC12N := Lib.hid HMS.out.c12
        have hcast : ((i + 1 : Nat) : Int) = (i : Int) + 1 := by omega
        rw [hcast] at HMS HBS HC12N
        clear hcast
        go_wp2_with fail
        have hix2 : i + 1 ≤ x := by have := fwT_le s.wt m (i + 1); rw [HFW.out] at this; omega
        rw [HC12.out, HC12N.out]
        refine ⟨⟨i + 1, by omega, hix2, HMS.out, HBS.out, ?_⟩, by simp [intOf]; omega⟩
        rw [show n - (i + 1) = m by have := HMM.out; omega]
        exact HFW.out
    · have hin2 : i = n := by omega
      have hxn : x = n := by have := HX1.out; omega
      rw [decide_eq_false hlt]
      go_wp2_with fail
      go_ret
      have hr := HS.out
      rw [hxn, if_neg (Nat.lt_irrefl n)] at hr
      rw [hr]
      have hm := HM2.out
      rw [hin2] at hm
      exact ⟨by unfold nxI; rw [if_neg (Nat.lt_irrefl n)]; rfl, hm, HB2.out⟩
end Go.Proofs.Ytkmcjjoicpgjfaa
