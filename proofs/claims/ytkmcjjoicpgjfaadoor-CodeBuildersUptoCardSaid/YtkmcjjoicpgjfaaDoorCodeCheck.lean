/-
  Contract of code.Check: a program's form, in plain words. Conditions: the sizes that slices can have.
-/
import Derived.Test.YtkmcjjoicpgjfaaDoorCodeFormed
namespace Go.Proofs.YtkmcjjoicpgjfaaDoor
open Go Go.RowKit Go.Sh

set_option maxRecDepth 100000 in
/-- the error of a program's form -/
noncomputable def ckP (p : Prg) : Int := if p.code.all (fun i => usB i.op.toNat) = false then 1 else if fmB p = false then 3 else if bdB p = false then 11 else 0
theorem info_prog : (Tryd.prog.info? 30).map (·.size) = some 8 := by kernel_rfl
set_option maxRecDepth 100000 in
set_option maxHeartbeats 4000000 in
theorem CodeCheck_any (d : Pad) (p : Prg) (w : World) (B : Nat) (hp : PR w B d p) (hB : B ≤ w.heap.size) :
    Calls Tryd.prog 47 #[.agg (pcs d p)] w (fun e w' => e = .returned (.int .i64 (ckP p)) ∧ Below w.heap.size w w') := by
  have HS := Lib.hid (show ckP p = if p.code.all (fun i => usB i.op.toNat) = false then 1 else if fmB p = false then 3 else if bdB p = false then 11 else 0 from rfl)
  have hb1 := (Below.refl w.heap.size w).alloc (Nat.le_refl _) (.cells (pcs d p) 30)
  have HB := Lib.hid hb1
  have HPR := Lib.hid (hp.below (hb1.mono hB))
  have HBX := Lib.hid (show (w.alloc (.cells (pcs d p) 30)).heap[w.heap.size]? = some (.cells (pcs d p).toList.toArray 30 (0, 0)) from heap_alloc_new w _)
  have hc0 : (w.alloc (.cells (pcs d p) 30)).cell? ⟨w.heap.size, 0, none⟩ = some (.slice d.A1 d.n1 d.c1) := by rw [blk_cell (heap_alloc_new w _)]; rfl
  have hps : (pcs d p).size = 8 := rfl
  have hz1 : (w.alloc (.cells (pcs d p) 30)).heap.size = w.heap.size + 1 := by simp
  have HFM := Lib.hid (fun (W : World) (h : PR W B d p) (hB : B ≤ W.heap.size) => formed_any d p W B h hB)
  have HBD := Lib.hid (fun (W : World) => bounded_any d p W (by have := hp.code.len; rw [List.length_map] at this; exact this) hp.msgs.len hp.rts.len hp.snds.len)
  have HL1 := Lib.hid (show p.code.length = d.n1 by have := hp.code.len; rw [List.length_map] at this; exact this)
  have hn1 : d.n1 ≤ 140737488355328 := hp.b1
  have HI := Lib.hid (show (Tryd.prog.info? 30).map (·.size) = some (pcs d p).toList.length by rw [show (pcs d p).toList.length = 8 from rfl]; exact info_prog)
  generalize ckP p = r at *
  clear hp hb1
  obtain ⟨X, hX⟩ : ∃ X, pcs d p = X := ⟨_, rfl⟩
  have HTA := Lib.hid (show (pcs d p).toList.toArray = X by rw [hX])
  rw [hX] at HB HPR hc0 hps hz1 HFM HBD ⊢
  have hxe : ¬ X = #[] := by intro h; rw [h] at hps; cases hps
  have HBX1 := Lib.hid (show (w.alloc (.cells X 30)).heap[w.heap.size]? = some (.cells (pcs d p).toList.toArray 30 (0, 0)) by rw [← hX]; exact HBX.out)
  clear hX HBX
  generalize (pcs d p).toList = L at *
  go_enter Tryd.func47, Tryd.ntmps47
  go_wp2_with fail
  clear hc0
  generalize w.alloc (.cells X 30) = w1 at *
  generalize hg : w.heap.size = g at *
  have HG := Lib.hid hg
  clear hg
  go_loopw [4, 5, 6, 10] (fun _ _ _ i wr => ∃ k : Nat, k ≤ d.n1 ∧ i = .int .i64 (k : Int) ∧ Below (g + 1) w1 wr ∧ ∀ j, j < k → (fun i : Ins => usB i.op.toNat) (iat p.code j) = true) (fun _ _ _ i _ => d.n1 - (intOf i).toNat)
  case atStart => exact ⟨0, by omega, rfl, Below.refl _ _, fun j hj => absurd hj (by omega)⟩
  case round =>
    obtain ⟨k, hk, rfl, hb, hall⟩ := hrel
    have HA := Lib.hid hall
    have HBr := Lib.hid hb
    have hz := hb.size
    clear hall hb
    by_cases hlt : k < d.n1
    · have dk : (k : Int) < (d.n1 : Int) := by omega
      obtain ⟨b, off, hA1, _, c0, c1, c2⟩ := ins_at (HPR.out.code.below (HBr.out.mono (by omega))) hlt
      have HSY := Lib.hid (asked (f := fun i : Ins => usB i.op.toNat) (at_ := iat) (fun {_} h => iat_eq h) (by rw [HL1.out]; exact hlt) HA.out)
      generalize iat p.code k = st at *
      obtain ⟨op, a, bb⟩ := st
      simp only at c0 c1 c2
      rw [hA1]
      go_wp2_with fail
      have hb1 := (Below.refl wr.heap.size wr).alloc (Nat.le_refl _) (.cells #[.int .u8 (op.toNat : Int), .int .i64 a, .int .i64 bb] 33)
      have HB1 := Lib.hid (HBr.out.trans (hb1.mono (by omega)))
      clear hb1 c0 c1 c2
      generalize wr.alloc (.cells #[.int .u8 (op.toNat : Int), .int .i64 a, .int .i64 bb] 33) = wa at *
      refine (uses_any op.toNat wa).mono ?_
      rintro e wb ⟨rfl, rfl⟩
      rcases Bool.eq_false_or_eq_true (usB op.toNat) with h | h
      · have HGG := Lib.hid (HSY.out.1 h)
        rw [h]
        clear h HSY
        go_wp2_with fail
        refine ⟨⟨k + 1, by omega, by go_num, HB1.out, HGG.out⟩, by simp [intOf]; omega⟩
      · have hr := HS.out
        rw [if_pos (HSY.out.2 h)] at hr
        rw [h]
        clear h HSY
        go_wp2_with fail
        go_ret
        exact ⟨by first | rfl | (rw [hr]; rfl), by rw [HG.out]; exact HB.out.trans (HB1.out.mono (by omega))⟩
    · obtain rfl : k = d.n1 := by omega
      have hr := HS.out
      rw [if_neg (by rw [asked_all (f := fun i : Ins => usB i.op.toNat) (at_ := iat) (fun {_} h => iat_eq h) (by rw [HL1.out]; exact HA.out)]; decide)] at hr
      have HRR := Lib.hid hr
      have HRG := Lib.hid (blk_range ((HBr.out.block g (Nat.lt_succ_self _)).trans HBX1.out))
      clear hr HS HA
      go_wp2_with (refine wl_load_mid (by rfl) _ (.tmp 1) rfl g 0 rfl L _ HRG.out Tryd.underlying30 rfl HI.out ?_; rw [HTA.out])
      refine (HFM.out wr (HPR.out.below (HBr.out.mono (by omega))) (by omega)).mono ?_
      rintro e wb ⟨rfl, hbb⟩
      have HBB := Lib.hid (HBr.out.trans (hbb.mono (by omega)))
      have hzb := hbb.size
      clear hbb HBr HRG
      rcases Bool.eq_false_or_eq_true (fmB p) with h | h
      · have hr := HRR.out
        rw [h, if_neg (by decide)] at hr
        have HRQ := Lib.hid hr
        rw [h]
        clear h hr HRR
        have HRG := Lib.hid (blk_range ((HBB.out.block g (Nat.lt_succ_self _)).trans HBX1.out))
        go_wp2_with (refine wl_load_mid (by rfl) _ (.tmp 1) rfl g 0 rfl L _ HRG.out Tryd.underlying30 rfl HI.out ?_; rw [HTA.out])
        refine (HBD.out wb).mono ?_
        rintro e wc ⟨rfl, hbc⟩
        have HBC := Lib.hid (HBB.out.trans (hbc.mono (by omega)))
        clear hbc HBB HRG
        rcases Bool.eq_false_or_eq_true (bdB p) with h | h
        · have hr := HRQ.out
          rw [h, if_neg (by decide)] at hr
          rw [h]
          clear h
          go_wp2_with fail
          go_ret
          exact ⟨by first | rfl | (rw [hr]; rfl), by rw [HG.out]; exact HB.out.trans (HBC.out.mono (by omega))⟩
        · have hr := HRQ.out
          rw [h, if_pos rfl] at hr
          rw [h]
          clear h
          go_wp2_with fail
          go_ret
          exact ⟨by first | rfl | (rw [hr]; rfl), by rw [HG.out]; exact HB.out.trans (HBC.out.mono (by omega))⟩
      · have hr := HRR.out
        rw [h, if_pos rfl] at hr
        rw [h]
        clear h
        go_wp2_with fail
        go_ret
        exact ⟨by first | rfl | (rw [hr]; rfl), by rw [HG.out]; exact HB.out.trans (HBB.out.mono (by omega))⟩
end Go.Proofs.YtkmcjjoicpgjfaaDoor
