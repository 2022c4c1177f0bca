/-
  The walk of shallotlaw10.CommandDecodes: for every list of bytes the law returns true and writes nothing that was there. Conditions: the size that a slice can have.
-/
import Derived.Test.YtngjllbdjaanaaaCmdLaw
import Derived.Test.YtngjllbdjaanaaaCmdEq
import Derived.Test.YtngjllbdjaanaaaCmdRefDec
import Derived.Test.YtngjllbdjaanaaaCmdAwake
namespace Go.Proofs.Ytngjllbdjaanaaa
open Go Go.RowKit Go.Sh

theorem decR_ok (l : List UInt8) : (decR l).OK := by
  unfold decR
  split
  · rename_i h
    refine decC_ok ?_
    unfold decE at h
    split at h
    · assumption
    · omega
  · exact zeroC_ok

set_option maxHeartbeats 1000000 in
theorem CommandDecodes_walk (A : Option Addr) (n c : Nat) (l : List UInt8) (w : World) (hr : RB w w.heap.size A n l) (hn : n ≤ 140737488355328) (hc : n ≤ c) : Calls Try.prog 6 #[.slice A n c] w (LawPost w) := by
  have HR := Lib.hid hr
  have HL := Lib.hid hr.len
  clear hr
  have hD := decR_ok l
  have HD := Lib.hid hD
  have HI := Lib.hid (show (Try.prog.info? 28).map (·.size) = some (decR l).cells.length by rw [hD.size]; kernel_rfl)
  have HED := Lib.hid (encode_decode l)
  have HEN := Lib.hid (fun W => Encode_any (decR l) W hD)
  have HDC := Lib.hid (fun (A : Option Addr) (n c : Nat) (W : World) B hr hB hn hc => Decode_any A n c l W B hr hB hn hc)
  have HRD := Lib.hid (fun (A : Option Addr) (n c : Nat) (W : World) B hr hB hn hc => RefDecode_any A n c l W B hr hB hn hc)
  have heq := fun W => cmd_same (decR l) hD W
  have HST := Lib.hid (fun W => cmd_store_new hD zeroC_ok W)
  have hzero := zeroCmd
  obtain ⟨zc, hzc⟩ : ∃ zc, zeroC.cells.toArray = zc := ⟨_, rfl⟩
  rw [hzc] at hzero HST
  have hds : (decR l).cells.toArray.size = 20 := cmd_size hD
  generalize decE l = E at *
  generalize hDD : decR l = D at *
  have HDD := Lib.hid hDD
  have HBK := Lib.hid (fun W => cmd_new_blk W D)
  unfold Cmd.v at HEN
  obtain ⟨cs, hcs⟩ : ∃ cs, D.cells.toArray = cs := ⟨_, rfl⟩
  rw [hcs] at HEN heq HST hds HBK
  have HCS := Lib.hid hcs
  clear hcs hzc hDD hD
  go_enter Try.func6, Try.ntmps6
  go_wp2_with fail
  refine (awake_any w).mono ?_
  rintro e w1 ⟨rfl, hb⟩
  have HB1 := Lib.hid hb
  have hz1 := hb.size
  clear hb
  go_wp2_with fail
  refine (Copy_any A n c l w1 w.heap.size (HR.out.below HB1.out) hz1 hn).mono ?_
  rintro e w2 ⟨g2, c2, rfl, ho2, hb⟩
  have HB2 := Lib.hid (HB1.out.trans (hb.mono hz1))
  have hz2 := hb.size
  have hc2 := own_cap ho2
  have HO2 := Lib.hid (RB.of_own ho2)
  clear hb ho2 HB1
  go_wp2_with fail
  refine (HDC.out _ n c2 w2 w2.heap.size HO2.out (Nat.le_refl _) hn hc2).mono ?_
  rintro e w3 ⟨rfl, hb⟩
  have HB3 := Lib.hid (HB2.out.trans (hb.mono (by omega)))
  have hz3 := hb.size
  clear hb HB2 HO2 HDC
  unfold Cmd.v
  rw [HCS.out]
  have hst := HST.out w3
  go_wp2_with fail
  have HB4 := Lib.hid (HB3.out.alloc (by omega) (.cells cs 28))
  have HK4 := Lib.hid (HBK.out w3)
  have hz4 : w3.heap.size < (w3.alloc (.cells cs 28)).heap.size := by simp
  clear hst HB3
  generalize w3.alloc (.cells cs 28) = w4 at *
  generalize hb4 : w3.heap.size = b4 at *
  refine (HRD.out _ n c w4 w.heap.size (HR.out.below HB4.out) (by omega) hn hc).mono ?_
  rintro e w5 ⟨rfl, hb⟩
  have HB5 := Lib.hid (HB4.out.trans (hb.mono (by omega)))
  have HK5 := Lib.hid (HK4.out.below hb hz4)
  have hz5 := hb.size
  clear hb HB4 HK4 HRD hb4
  unfold Cmd.v
  rw [HCS.out]
  have hst := HST.out w5
  have HB6 := Lib.hid (HB5.out.alloc (by omega) (.cells cs 28))
  have HK6' := Lib.hid (blk_range (HBK.out w5))
  have HK6 := Lib.hid (blk_range (HK5.out.below ((Below.refl w5.heap.size w5).alloc (Nat.le_refl _) (.cells cs 28)) (by omega)))
  have eE : (E != E) = false := by simp
  by_cases h0 : E = 0
  · obtain ⟨d1, d2, d3⟩ := HED.out h0
    subst h0
    go_wp2_with (first | (refine wl_load_mid rfl 28 (.tmp 3) rfl b4 0 rfl D.cells _ HK6.out Try.underlying28 rfl HI.out ?_; rw [HCS.out]) | (refine wl_load_mid rfl 28 (.tmp 5) rfl w5.heap.size 0 rfl D.cells _ HK6'.out Try.underlying28 rfl HI.out ?_; rw [HCS.out]))
    refine (HEN.out _).mono ?_
    rintro e w7 ⟨A7, n7, c7, rfl, hn7, ho7, hb⟩
    rw [d1]
    rw [d2] at hn7 ho7
    have HB7 := Lib.hid (HB6.out.trans (hb.mono (by simp; omega)))
    have HO7 := Lib.hid (RB.of_own ho7)
    have HN7 := Lib.hid hn7
    clear hb ho7 hn7 d1 d2 d3 HED HEN HST HBK HK6 HK6' HB6 hst
    go_wp2_with fail
    refine (Equal_any _ _ _ _ _ _ l l _ _ w.heap.size HO7.out (HR.out.below HB7.out) (by rw [← HN7.out, HL.out]; exact hn)).mono fun e w8 h => ?_
    obtain ⟨rfl, hb8⟩ := h.below
    rw [show decide (l = l) = true by simp]
    have HB8 := Lib.hid (HB7.out.trans (hb8.mono HB7.out.size))
    clear h hb8
    go_wp2_with fail
    go_ret
    exact ⟨rfl, HB8.out⟩
  · have hne : (E != 0) = true := by rw [bne_iff_ne]; exact h0
    clear h0 HED
    go_wp2_with (first | (refine wl_load_mid rfl 28 (.tmp 3) rfl b4 0 rfl D.cells _ HK6.out Try.underlying28 rfl HI.out ?_; rw [HCS.out]) | (refine wl_load_mid rfl 28 (.tmp 5) rfl w5.heap.size 0 rfl D.cells _ HK6'.out Try.underlying28 rfl HI.out ?_; rw [HCS.out]))
    go_ret
    exact ⟨rfl, HB6.out⟩
end Go.Proofs.Ytngjllbdjaanaaa
