/-
  Contract of shallotref10.Decode: the command that 32 bytes are, or the error. Conditions: the size that a slice can have.
-/
import Derived.Test.YtngjllbdjaanaaaCmdDec
import Derived.StillTailTactics
namespace Go.Proofs.Ytngjllbdjaanaaa
open Go Go.RowKit Go.Sh

/-- the number that m bytes spell, the highest first -/
def hv (l : List UInt8) (a m : Nat) : Nat := val (fun j => by8 l (a + m - 1 - j)) m
theorem hv_succ (l : List UInt8) (a m : Nat) : hv l a (m + 1) = by8 l (a + m) + 256 * hv l a m := by
  unfold hv
  rw [val_shift]
  rw [show a + (m + 1) - 1 - 0 = a + m by omega]
  rw [val_congr (f := fun j => by8 l (a + (m + 1) - 1 - (j + 1))) (g := fun j => by8 l (a + m - 1 - j)) m (fun j _ => by rw [show a + (m + 1) - 1 - (j + 1) = a + m - 1 - j by omega])]
theorem hv_lt (l : List UInt8) (a m : Nat) : hv l a m < 256 ^ m := val_lt (fun _ => by8_lt _ _) m
theorem getV_h (l : List UInt8) (a d : Nat) (h : getE 2 32 a d = 0) : getV 2 l 32 a d = hv l a d := by
  unfold getV hv
  rw [if_pos h, Int.toNat_natCast, Int.toNat_natCast, dig_two]

theorem cut_both {c : Nat} (ad : Addr) (p q n : Nat) (hn : n ≤ c) (hp : p ≤ q) (hq : q ≤ n) (hpc : p < n) (W : World) : (Instr.slice 45 (.slice (some ad) n c) (some (.int .i64 (p : Int))) (some (.int .i64 (q : Int))) none).run Try.prog W = .ok (.slice (some (ad.add p)) (q - p) (c - p)) W := by
  have h := run_sl TB W (some ad) n c .i64 .i64 p q hp (by omega)
  rw [if_neg (by omega), Nat.mul_one] at h
  exact h

set_option maxHeartbeats 1000000 in
theorem RefDecode_any (A : Option Addr) (n c : Nat) (l : List UInt8) (w : World) (B : Nat) (hr : RB w B A n l) (hB : B ≤ w.heap.size) (hn : n ≤ 140737488355328) (hc : n ≤ c) :
    Calls Try.prog 23 #[.slice A n c] w (RetC w (decR l) (decE l)) := by
  have HL := Lib.hid hr.len
  have HR := Lib.hid hr
  clear hr
  have hzero := zeroCmd
  obtain ⟨zc, hzc⟩ : ∃ zc, zeroC.cells.toArray = zc := ⟨_, rfl⟩
  rw [hzc] at hzero
  have hzs : zc.size = 20 := by rw [← hzc]; exact cmd_size zeroC_ok
  have hze : ¬ zc = #[] := by intro h; rw [h] at hzs; cases hzs
  have HZ := Lib.hid hzc
  clear hzc
  by_cases h32 : n = 32
  · subst h32
    obtain ⟨ad, rfl, hab, q0⟩ := HR.out.at_ (k := 0) (by omega)
    obtain ⟨_, hh, _, q1⟩ := HR.out.at_ (k := 1) (by omega)
    obtain rfl := Option.some.inj hh
    rw [add_zero] at q0
    have HB1 := Lib.hid ((Below.refl w.heap.size w).alloc (Nat.le_refl _) (.cells zc 28))
    have hk0 := bt_lo l 0
    have hk1 := bt_hi l 0
    have hf0 := bt_lo l 1
    have hf1 := bt_hi l 1
    generalize hk : bt l 0 = k at *
    generalize hf : bt l 1 = f at *
    have HK := Lib.hid hk
    have HF := Lib.hid hf
    clear hh hk hf
    obtain ⟨c1, hc1⟩ : ∃ c1 : Cmd, c1 = ⟨k, f, 0, 0, noMark⟩ := ⟨_, rfl⟩
    have c1ok : c1.OK := by rw [hc1]; exact ⟨⟨hk0, by show k < 256; omega⟩, ⟨hf0, by show f < 256; omega⟩, ⟨by show (0 : Int) ≤ 0; omega, by show (0 : Int) < 4294967296; omega⟩, ⟨by show (0 : Int) ≤ 0; omega, by show (0 : Int) < 18446744073709551616; omega⟩, rfl, zeroC_ok.m⟩
    obtain ⟨X, hX⟩ : ∃ X, c1.cells.toArray = X := ⟨_, rfl⟩
    have hbX : (zc.setIfInBounds 0 (.int .u8 k)).setIfInBounds 1 (.int .u8 f) = X := by rw [← HZ.out, ← hX, hc1]; rfl
    have hXs : X.size = 20 := by rw [← hX]; exact cmd_size c1ok
    go_enter Try.func23, Try.ntmps23
    go_wp2_with fail
    have hq0 := (HB1.out.cell (p := ad) (by omega)).trans q0
    have hq1 : (w.alloc (.cells zc 28)).cell? ⟨ad.block, ad.off + 1, none⟩ = some (.int .u8 f) := (HB1.out.cell (p := ⟨ad.block, ad.off + 1, none⟩) (by show ad.block < _; omega)).trans q1
    have HG := Lib.hid (show CmdBlk (w.alloc (.cells zc 28)) w.heap.size zeroC by rw [← HZ.out]; exact cmd_new_blk w zeroC)
    generalize hw1 : w.alloc (.cells zc 28) = w1 at *
    have hz1 : w.heap.size < w1.heap.size := by rw [← hw1]; simp
    clear hw1
    have hst : (storeCells ⟨w1.heap.size, 0, none⟩ X.toList).run Try.prog (w1.alloc (.cells zc 28)).drew = .ok () (w1.alloc (.cells X 28)).drew := by
      rw [← HZ.out, ← hX]
      exact cmd_store_new c1ok zeroC_ok w1.drew
    have HC1 := Lib.hid hc1
    have HX := Lib.hid hX
    have HOK1 := Lib.hid c1ok
    clear hc1 hX c1ok
    have kk : ∀ o : Obj, (w1.alloc o).drew.cell? ad = some (.int .u8 k) ∧ (w1.alloc o).drew.cell? ⟨ad.block, ad.off + 1, none⟩ = some (.int .u8 f) := fun o =>
      ⟨(((Below.refl w1.heap.size w1).alloc (Nat.le_refl _) o).drew.cell (p := ad) (by omega)).trans hq0, (((Below.refl w1.heap.size w1).alloc (Nat.le_refl _) o).drew.cell (p := ⟨ad.block, ad.off + 1, none⟩) (by show ad.block < _; omega)).trans hq1⟩
    have KK := Lib.hid kk
    clear kk
    go_region_held3 (fun w' => w'.cell? ad = some (.int .u8 k) ∧ w'.cell? ⟨ad.block, ad.off + 1, none⟩ = some (.int .u8 f)) (first | (exact ⟨hq0, hq1⟩) | (exact KK.out _) | (go_keep; done)) (first | fail)
    have HB2 := Lib.hid (show Below w1.heap.size w1 (w1.alloc (.cells X 28)).drew from ((Below.refl _ _).alloc (Nat.le_refl _) _).drew)
    have HC2 := Lib.hid (show CmdBlk (w1.alloc (.cells X 28)).drew w1.heap.size c1 by rw [← HX.out]; exact cmd_new_blk w1 c1)
    clear hst hbX hq0 hq1 KK hXs hze
    generalize (w1.alloc (.cells X 28)).drew = w2 at *
    generalize hb : w1.heap.size = b at *
    generalize hg0 : w.heap.size = g0 at *
    have HBB := Lib.hid hb
    have HG0 := Lib.hid hg0
    clear hb hg0
    have HBw2 := Lib.hid (HB1.out.trans (HB2.out.mono (by omega)))
    have HR2 := Lib.hid (HR.out.below (HBw2.out.mono hB))
    have HGG := Lib.hid (HG.out.below HB2.out hz1)
    have HE4 := Lib.hid (getV_h l 2 4 (by decide))
    have HE8 := Lib.hid (getV_h l 6 8 (by decide))
    have HDK := Lib.hid (decC_ok HL.out)
    have hdb := HDK.out.d
    have hxb := HDK.out.x
    change 0 ≤ ((getV 2 l 32 2 4 : Nat) : Int) ∧ ((getV 2 l 32 2 4 : Nat) : Int) < 4294967296 at hdb
    change 0 ≤ ((getV 2 l 32 6 8 : Nat) : Int) ∧ ((getV 2 l 32 6 8 : Nat) : Int) < 18446744073709551616 at hxb
    have HDC := Lib.hid (show decC l = ⟨k, f, (getV 2 l 32 2 4 : Nat), (getV 2 l 32 6 8 : Nat), ((l.drop 14).take 16).map fun x => (x.toNat : Int)⟩ by rw [← HK.out, ← HF.out]; rfl)
    generalize getV 2 l 32 2 4 = dn at *
    generalize getV 2 l 32 6 8 = xn at *
    clear HB1 HB2 HG
    go_wp2_with fail
    go_loopw [5] (fun i wr => ∃ j : Nat, 2 ≤ j ∧ j ≤ 6 ∧ i = .int .i64 j ∧ CmdBlk wr b ⟨k, f, (hv l 2 (j - 2) : Nat), 0, noMark⟩ ∧ Below b w2 wr) (fun i _ => 6 - (intOf i).toNat)
    case atStart => exact ⟨2, by omega, by omega, rfl, by have h := HC2.out; rw [HC1.out] at h; exact h, Below.refl _ _⟩
    case round =>
      obtain ⟨j, hj2, hj6, rfl, hblk, hbr⟩ := hrel
      have HBr := Lib.hid hbr
      have HCr := Lib.hid hblk
      clear hblk hbr
      by_cases hlt : j < 6
      · have hv1 := hv_lt l 2 (j - 2)
        have hvs : hv l 2 (j - 2) < 16777216 := Nat.lt_of_lt_of_le hv1 (Nat.le_trans (Nat.pow_le_pow_right (by decide) (show j - 2 ≤ 3 by omega)) (by decide))
        have hs : hv l 2 (j + 1 - 2) = by8 l j + 256 * hv l 2 (j - 2) := by
          rw [show j + 1 - 2 = (j - 2) + 1 by omega, hv_succ, show 2 + (j - 2) = j by omega]
        have HS := Lib.hid hs
        obtain ⟨_, hh, _, q2⟩ := HR2.out.at_ (k := j) (by omega)
        obtain rfl := Option.some.inj hh
        rw [bt_by8] at q2
        have hb8 := by8_lt l j
        have qr := (HBr.out.cell (p := ad.add j) (by rw [block_of_add]; omega)).trans q2
        have q3 : wr.cell? ⟨b, 2, none⟩ = some (.int .u32 (hv l 2 (j - 2) : Nat)) := by rw [blk_cell HCr.out]; rfl
        have q4 : wr.frozen? ⟨b, 2, none⟩ = false := frozen_of_row _ _ _ _ _ HCr.out
        have HC' := Lib.hid (fun v => blk_set HCr.out (i := 2) v)
        generalize hV : hv l 2 (j - 2) = V at *
        generalize by8 l j = y at *
        clear hh q2 hv1 hs
        have HVV := Lib.hid hV
        clear hV
        have i1 : (0 : Int) ≤ (j : Int) := by omega
        have i2 : (j : Int) < 32 := by omega
        go_wp2_with fail
        go_still_tail 10, (by kernel_rfl)
        change wpList _ _ _ _ _ (World.drew _)
        go_wp2
        refine ⟨⟨j + 1, by omega, by omega, by go_num, ?_, (HBr.out.setCell (p := ⟨b, 2, none⟩) (Nat.le_refl b) _).drew⟩, by simp [intOf]; omega⟩
        have h := HC'.out (.int .u32 ((V : Int) * 256 + (y : Int)))
        rw [HS.out, show (((y + 256 * V : Nat)) : Int) = (V : Int) * 256 + (y : Int) by omega]
        exact h
      · obtain rfl : j = 6 := by omega
        rw [show ((6 : Nat) : Int) = 6 from rfl]
        have HC3 := Lib.hid (show CmdBlk wr b ⟨k, f, (dn : Int), 0, noMark⟩ by rw [HE4.out]; exact HCr.out)
        have HB3 := HBr
        clear HCr HBr HC2 hj2 hj6 hlt
        go_wp2_with fail
        go_loopw [6] (fun i ws => ∃ j : Nat, 6 ≤ j ∧ j ≤ 14 ∧ i = .int .i64 j ∧ CmdBlk ws b ⟨k, f, (dn : Int), (hv l 6 (j - 6) : Nat), noMark⟩ ∧ Below b w2 ws) (fun i _ => 14 - (intOf i).toNat)
        case atStart => exact ⟨6, by omega, by omega, rfl, HC3.out, HB3.out⟩
        case round =>
          clear HC3 HB3
          obtain ⟨j, hj2, hj6, rfl, hblk, hbr⟩ := hrel
          have HBr := Lib.hid hbr
          have HCr := Lib.hid hblk
          clear hblk hbr
          by_cases hlt : j < 14
          · have hv1 := hv_lt l 6 (j - 6)
            have hvs : hv l 6 (j - 6) < 72057594037927936 := Nat.lt_of_lt_of_le hv1 (Nat.le_trans (Nat.pow_le_pow_right (by decide) (show j - 6 ≤ 7 by omega)) (by decide))
            have hs : hv l 6 (j + 1 - 6) = by8 l j + 256 * hv l 6 (j - 6) := by
              rw [show j + 1 - 6 = (j - 6) + 1 by omega, hv_succ, show 6 + (j - 6) = j by omega]
            have HS := Lib.hid hs
            obtain ⟨_, hh, _, q2⟩ := HR2.out.at_ (k := j) (by omega)
            obtain rfl := Option.some.inj hh
            rw [bt_by8] at q2
            have hb8 := by8_lt l j
            have qr := (HBr.out.cell (p := ad.add j) (by rw [block_of_add]; omega)).trans q2
            have q3 : wr.cell? ⟨b, 3, none⟩ = some (.int .u64 (hv l 6 (j - 6) : Nat)) := by rw [blk_cell HCr.out]; rfl
            have q4 : wr.frozen? ⟨b, 3, none⟩ = false := frozen_of_row _ _ _ _ _ HCr.out
            have HC' := Lib.hid (fun v => blk_set HCr.out (i := 3) v)
            generalize hV : hv l 6 (j - 6) = V at *
            generalize by8 l j = y at *
            clear hh q2 hv1 hs
            have HVV := Lib.hid hV
            clear hV
            have i1 : (0 : Int) ≤ (j : Int) := by omega
            have i2 : (j : Int) < 32 := by omega
            go_wp2_with fail
            go_still_tail 10, (by kernel_rfl)
            change wpList _ _ _ _ _ (World.drew _)
            go_wp2
            refine ⟨⟨j + 1, by omega, by omega, by go_num, ?_, (HBr.out.setCell (p := ⟨b, 3, none⟩) (Nat.le_refl b) _).drew⟩, by simp [intOf]; omega⟩
            have h := HC'.out (.int .u64 ((V : Int) * 256 + (y : Int)))
            rw [HS.out, show (((y + 256 * V : Nat)) : Int) = (V : Int) * 256 + (y : Int) by omega]
            exact h
          · obtain rfl : j = 14 := by omega
            rw [show ((14 : Nat) : Int) = 14 from rfl]
            have HC3 := Lib.hid (show CmdBlk wr b ⟨k, f, (dn : Int), (xn : Int), noMark⟩ by rw [HE8.out]; exact HCr.out)
            have HB3 := HBr
            have hz3 := HB3.out.size
            clear HCr HBr hj2 hj6 hlt
            go_wp2_with fail
            obtain ⟨c2, hc2⟩ : ∃ c2 : Cmd, c2 = ⟨k, f, (dn : Int), (xn : Int), noMark⟩ := ⟨_, rfl⟩
            have c2ok : c2.OK := by rw [hc2]; exact ⟨⟨hk0, by show k < 256; omega⟩, ⟨hf0, by show f < 256; omega⟩, hdb, hxb, rfl, zeroC_ok.m⟩
            rw [← hc2] at HC3
            have hM : ((l.drop 14).take 16).length = 16 := by simp [HL.out]
            have HDC' := Lib.hid (show decC l = { c2 with m := ((l.drop 14).take 16).map fun x => (x.toNat : Int) } by rw [HDC.out, hc2])
            have HMR := Lib.hid (show RB wr B (some (ad.add 14)) 16 ((l.drop 14).take 16) by
              have h := ((HR2.out.below (HB3.out.mono (by omega))).cut (k := 14) (cap := c) (by omega) hc)
              rw [if_neg (by omega)] at h
              exact h.take (k := 16) (by omega))
            generalize (l.drop 14).take 16 = M at *
            have HML := Lib.hid hM
            have HK2 := Lib.hid c2ok
            have HX2 := Lib.hid hc2
            clear hM hc2 c2ok
            have hsl : ∀ W, (Instr.slice 45 (.slice (some ad) 32 c) (some (.int .i64 14)) (some (.int .i64 30)) none).run Try.prog W = .ok (.slice (some (ad.add 14)) 16 (c - 14)) W := fun W => cut_both ad 14 30 32 hc (by omega) (by omega) (by omega) W
            generalize ad.add 14 = ad14 at *
            have HMC := Lib.hid (show ∀ j v, (bv M)[j]? = some v → wr.drew.cell? (ad14.add j) = some v by
              intro j v hv
              obtain ⟨ad', e, _, hc⟩ := Reads.some_ HMR.out (by rw [length_bv, HML.out]; omega)
              obtain rfl := Option.some.inj e
              exact hc.get hv)
            go_region_held3 (fun w' => True) (trivial) (first | (refine step_copy_splice (by rfl) (.tmp 48) (.tmp 50) 45 45 (by rfl) 5 Try.underlying45 (by kernel_rfl) (some ⟨b, 4, none⟩) (some ad14) 16 16 16 (c - 14) (by rfl) (by rfl) b 4 c2.cells 28 (by exact HC3.out) (bv M) (by rw [length_bv, HML.out]; rfl) (fun _ => ⟨rfl, ad14, rfl, HMC.out⟩) (by rw [length_bv, HML.out, HK2.out.size]; omega) (bv_one M) b w2 (by exact HB3.out.drew) (Nat.le_refl _) ?_; intro w4 hg4 hb4))
            have hb4' := hg4.out
            rw [splice_mark HK2.out M HML.out, ← HDC'.out] at hb4'
            have HC4 := Lib.hid (show CmdBlk w4 b (decC l) from hb4')
            have HB4 := Lib.hid (HBw2.out.trans (hb4.mono (by omega)))
            have HG4 := Lib.hid (HGG.out.below hb4 (by omega))
            have hz4 := hb4.size
            have hbz : b < w4.heap.size := (Array.getElem?_eq_some_iff.1 hb4').1
            clear hg4 hb4 hb4' HMC HMR HC3 HB3 HDC HDC' HGG HR2 HML HX2 HK2
            have HS := Lib.hid (fun W => RefCheck_any (decC l) W HDK.out)
            have HL4 := Lib.hid (fun W => @cmd_loadAt (decC l) HDK.out W b)
            have HR4 := Lib.hid (blk_range HC4.out)
            have HI4 := Lib.hid (show (Try.prog.info? 28).map (·.size) = some (decC l).cells.length by rw [HDK.out.size]; kernel_rfl)
            have HFE := Lib.hid (show decE l = if tailB l = true ∧ checkN (decC l) ≠ 1 then 3 else checkN (decC l) by unfold decE; rw [if_pos HL.out])
            have HFR := Lib.hid (show decR l = if decE l = 0 then decC l else zeroC from rfl)
            have HT := Lib.hid (show tailB l = (bt l 30 != 0 || bt l 31 != 0) from rfl)
            have hE := checkN_ok (decC l)
            generalize hD : decC l = D at *
            unfold Cmd.v at HS
            obtain ⟨Y, hY⟩ : ∃ Y, D.cells.toArray = Y := ⟨_, rfl⟩
            rw [hY] at HS
            have HY := Lib.hid hY
            have hYs : Y.size = 20 := by rw [← hY]; exact cmd_size HDK.out
            clear hY hD
            generalize decE l = ER at *
            generalize decR l = CR at *
            generalize tailB l = tb at *
            generalize checkN D = E at *
            go_wp2_with (refine wpList_load_mid rfl 28 _ rfl b 0 rfl D.cells _ HR4.out Try.underlying28 rfl HI4.out ?_; rw [HY.out])
            refine (HS.out _).mono ?_
            rintro e w5 ⟨rfl, hb5⟩
            have HB5 := Lib.hid (HB4.out.trans (hb5.mono (by omega)))
            have HC5 := Lib.hid (HC4.out.below hb5 hbz)
            have HG5 := Lib.hid (HG4.out.below hb5 (by omega))
            have HR5 := Lib.hid (HR.out.below (HB5.out.mono hB))
            obtain ⟨_, hh, hab', q30⟩ := HR5.out.at_ (k := 30) (by omega)
            obtain rfl := Option.some.inj hh
            obtain ⟨_, hh', _, q31⟩ := HR5.out.at_ (k := 31) (by omega)
            obtain rfl := Option.some.inj hh'
            have q30' : w5.cell? ⟨ad.block, ad.off + 30, none⟩ = some (.int .u8 (bt l 30)) := q30
            have q31' : w5.cell? ⟨ad.block, ad.off + 31, none⟩ = some (.int .u8 (bt l 31)) := q31
            clear hb5 HS HR4 HC4 HG4 HB4 HR5 hh hh' q30 q31 hsl q0 q1
            generalize bt l 30 = t30 at *
            generalize bt l 31 = t31 at *
            have HR5' := Lib.hid (blk_range HC5.out)
            have hsz : (storeCells ⟨g0, 0, none⟩ zc.toList).run Try.prog w5 = .ok () (w5.setRow g0 zc) := by rw [← HZ.out]; exact cmd_store zeroC_ok zeroC_ok HG5.out
            have hsy : (storeCells ⟨g0, 0, none⟩ Y.toList).run Try.prog w5 = .ok () (w5.setRow g0 Y) := by rw [← HY.out]; exact cmd_store HDK.out zeroC_ok HG5.out
            have HBz := Lib.hid (fun X => Sh.below_setRow HB5.out (Nat.le_refl g0) X)
            have HCz := Lib.hid (show CmdBlk (w5.setRow g0 zc) g0 zeroC by rw [← HZ.out]; exact HG5.out.set zeroC)
            have HCy := Lib.hid (show CmdBlk (w5.setRow g0 Y) g0 D by rw [← HY.out]; exact HG5.out.set D)
            rcases hE with rfl | rfl | rfl | rfl
            · by_cases h30 : t30 = 0
              · subst h30
                by_cases h31 : t31 = 0
                · subst h31
                  have hER : ER = 0 := by rw [HFE.out, HT.out]; simp []
                  have hCR : CR = D := by rw [HFR.out, if_pos hER]
                  have HER := Lib.hid hER
                  have HCR := Lib.hid hCR
                  clear hER hCR
                  go_wp2_with (refine wpList_load_mid rfl 28 _ rfl b 0 rfl D.cells _ HR5'.out Try.underlying28 rfl HI4.out ?_; rw [HY.out])
                  exact bodyPost_ret (v := .tuple #[D.v, .int .i64 0]) (dec_results (by rfl) _ _ g0 D HDK.out HCy.out _ (by rfl) (by rfl)) rfl ⟨by rw [HER.out, HCR.out], by rw [HG0.out]; exact HBz.out _⟩
                · have n31 : (t31 != 0) = true := by rw [bne_iff_ne]; exact h31
                  clear h31
                  have hER : ER = 3 := by rw [HFE.out, HT.out]; simp [n31]
                  have hCR : CR = zeroC := by rw [HFR.out, if_neg (by rw [hER]; decide)]
                  have HER := Lib.hid hER
                  have HCR := Lib.hid hCR
                  clear hER hCR
                  go_wp2_with fail
                  exact bodyPost_ret (v := .tuple #[zeroC.v, .int .i64 3]) (dec_results (by rfl) _ _ g0 zeroC zeroC_ok HCz.out _ (by rfl) (by rfl)) rfl ⟨by rw [HER.out, HCR.out], by rw [HG0.out]; exact HBz.out _⟩
              · have n30 : (t30 != 0) = true := by rw [bne_iff_ne]; exact h30
                clear h30
                have hER : ER = 3 := by rw [HFE.out, HT.out]; simp [n30]
                have hCR : CR = zeroC := by rw [HFR.out, if_neg (by rw [hER]; decide)]
                have HER := Lib.hid hER
                have HCR := Lib.hid hCR
                clear hER hCR
                go_wp2_with fail
                exact bodyPost_ret (v := .tuple #[zeroC.v, .int .i64 3]) (dec_results (by rfl) _ _ g0 zeroC zeroC_ok HCz.out _ (by rfl) (by rfl)) rfl ⟨by rw [HER.out, HCR.out], by rw [HG0.out]; exact HBz.out _⟩
            · by_cases h30 : t30 = 0
              · subst h30
                by_cases h31 : t31 = 0
                · subst h31
                  have hER : ER = 1 := by rw [HFE.out, HT.out]; simp []
                  have hCR : CR = zeroC := by rw [HFR.out, if_neg (by rw [hER]; decide)]
                  have HER := Lib.hid hER
                  have HCR := Lib.hid hCR
                  clear hER hCR
                  go_wp2_with fail
                  exact bodyPost_ret (v := .tuple #[zeroC.v, .int .i64 1]) (dec_results (by rfl) _ _ g0 zeroC zeroC_ok HCz.out _ (by rfl) (by rfl)) rfl ⟨by rw [HER.out, HCR.out], by rw [HG0.out]; exact HBz.out _⟩
                · have n31 : (t31 != 0) = true := by rw [bne_iff_ne]; exact h31
                  clear h31
                  have hER : ER = 1 := by rw [HFE.out, HT.out]; simp [n31]
                  have hCR : CR = zeroC := by rw [HFR.out, if_neg (by rw [hER]; decide)]
                  have HER := Lib.hid hER
                  have HCR := Lib.hid hCR
                  clear hER hCR
                  go_wp2_with fail
                  exact bodyPost_ret (v := .tuple #[zeroC.v, .int .i64 1]) (dec_results (by rfl) _ _ g0 zeroC zeroC_ok HCz.out _ (by rfl) (by rfl)) rfl ⟨by rw [HER.out, HCR.out], by rw [HG0.out]; exact HBz.out _⟩
              · have n30 : (t30 != 0) = true := by rw [bne_iff_ne]; exact h30
                clear h30
                have hER : ER = 1 := by rw [HFE.out, HT.out]; simp [n30]
                have hCR : CR = zeroC := by rw [HFR.out, if_neg (by rw [hER]; decide)]
                have HER := Lib.hid hER
                have HCR := Lib.hid hCR
                clear hER hCR
                go_wp2_with fail
                exact bodyPost_ret (v := .tuple #[zeroC.v, .int .i64 1]) (dec_results (by rfl) _ _ g0 zeroC zeroC_ok HCz.out _ (by rfl) (by rfl)) rfl ⟨by rw [HER.out, HCR.out], by rw [HG0.out]; exact HBz.out _⟩
            · by_cases h30 : t30 = 0
              · subst h30
                by_cases h31 : t31 = 0
                · subst h31
                  have hER : ER = 3 := by rw [HFE.out, HT.out]; simp []
                  have hCR : CR = zeroC := by rw [HFR.out, if_neg (by rw [hER]; decide)]
                  have HER := Lib.hid hER
                  have HCR := Lib.hid hCR
                  clear hER hCR
                  go_wp2_with fail
                  exact bodyPost_ret (v := .tuple #[zeroC.v, .int .i64 3]) (dec_results (by rfl) _ _ g0 zeroC zeroC_ok HCz.out _ (by rfl) (by rfl)) rfl ⟨by rw [HER.out, HCR.out], by rw [HG0.out]; exact HBz.out _⟩
                · have n31 : (t31 != 0) = true := by rw [bne_iff_ne]; exact h31
                  clear h31
                  have hER : ER = 3 := by rw [HFE.out, HT.out]; simp [n31]
                  have hCR : CR = zeroC := by rw [HFR.out, if_neg (by rw [hER]; decide)]
                  have HER := Lib.hid hER
                  have HCR := Lib.hid hCR
                  clear hER hCR
                  go_wp2_with fail
                  exact bodyPost_ret (v := .tuple #[zeroC.v, .int .i64 3]) (dec_results (by rfl) _ _ g0 zeroC zeroC_ok HCz.out _ (by rfl) (by rfl)) rfl ⟨by rw [HER.out, HCR.out], by rw [HG0.out]; exact HBz.out _⟩
              · have n30 : (t30 != 0) = true := by rw [bne_iff_ne]; exact h30
                clear h30
                have hER : ER = 3 := by rw [HFE.out, HT.out]; simp [n30]
                have hCR : CR = zeroC := by rw [HFR.out, if_neg (by rw [hER]; decide)]
                have HER := Lib.hid hER
                have HCR := Lib.hid hCR
                clear hER hCR
                go_wp2_with fail
                exact bodyPost_ret (v := .tuple #[zeroC.v, .int .i64 3]) (dec_results (by rfl) _ _ g0 zeroC zeroC_ok HCz.out _ (by rfl) (by rfl)) rfl ⟨by rw [HER.out, HCR.out], by rw [HG0.out]; exact HBz.out _⟩
            · by_cases h30 : t30 = 0
              · subst h30
                by_cases h31 : t31 = 0
                · subst h31
                  have hER : ER = 11 := by rw [HFE.out, HT.out]; simp []
                  have hCR : CR = zeroC := by rw [HFR.out, if_neg (by rw [hER]; decide)]
                  have HER := Lib.hid hER
                  have HCR := Lib.hid hCR
                  clear hER hCR
                  go_wp2_with fail
                  exact bodyPost_ret (v := .tuple #[zeroC.v, .int .i64 11]) (dec_results (by rfl) _ _ g0 zeroC zeroC_ok HCz.out _ (by rfl) (by rfl)) rfl ⟨by rw [HER.out, HCR.out], by rw [HG0.out]; exact HBz.out _⟩
                · have n31 : (t31 != 0) = true := by rw [bne_iff_ne]; exact h31
                  clear h31
                  have hER : ER = 3 := by rw [HFE.out, HT.out]; simp [n31]
                  have hCR : CR = zeroC := by rw [HFR.out, if_neg (by rw [hER]; decide)]
                  have HER := Lib.hid hER
                  have HCR := Lib.hid hCR
                  clear hER hCR
                  go_wp2_with fail
                  exact bodyPost_ret (v := .tuple #[zeroC.v, .int .i64 3]) (dec_results (by rfl) _ _ g0 zeroC zeroC_ok HCz.out _ (by rfl) (by rfl)) rfl ⟨by rw [HER.out, HCR.out], by rw [HG0.out]; exact HBz.out _⟩
              · have n30 : (t30 != 0) = true := by rw [bne_iff_ne]; exact h30
                clear h30
                have hER : ER = 3 := by rw [HFE.out, HT.out]; simp [n30]
                have hCR : CR = zeroC := by rw [HFR.out, if_neg (by rw [hER]; decide)]
                have HER := Lib.hid hER
                have HCR := Lib.hid hCR
                clear hER hCR
                go_wp2_with fail
                exact bodyPost_ret (v := .tuple #[zeroC.v, .int .i64 3]) (dec_results (by rfl) _ _ g0 zeroC zeroC_ok HCz.out _ (by rfl) (by rfl)) rfl ⟨by rw [HER.out, HCR.out], by rw [HG0.out]; exact HBz.out _⟩
  · have hne : ((n : Int) != 32) = true := by rw [bne_iff_ne]; omega
    have e2 : decE l = 2 := by unfold decE; rw [if_neg (by rw [HL.out]; exact h32)]
    have e1 : decR l = zeroC := by unfold decR; rw [if_neg (by rw [e2]; decide)]
    rw [e1, e2]
    have hst := cmd_store_new zeroC_ok zeroC_ok w
    rw [HZ.out] at hst
    clear e1 e2 h32
    go_enter Try.func23, Try.ntmps23
    go_wp2_with fail
    refine bodyPost_ret (v := .tuple #[zeroC.v, .int .i64 2]) ?_ rfl ⟨rfl, (Below.refl _ _).alloc (Nat.le_refl _) _⟩
    have hld := cmd_load zeroC_ok (cmd_new_blk w zeroC)
    rw [HZ.out] at hld
    rw [results_cell_tmp Try.results23]
    simp [asAddr, hld]
end Go.Proofs.Ytngjllbdjaanaaa
