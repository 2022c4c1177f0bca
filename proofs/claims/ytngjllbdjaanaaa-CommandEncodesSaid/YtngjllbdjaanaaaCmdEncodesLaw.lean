/-
  The walk of shallotlaw10.CommandEncodes: for every command the law returns true and writes nothing that was there. Conditions: the fields fit their types.
-/
import Derived.Test.YtngjllbdjaanaaaCmdLaw
import Derived.Test.YtngjllbdjaanaaaCmdEq
import Derived.Test.YtngjllbdjaanaaaCmdRefEnc
import Derived.Test.YtngjllbdjaanaaaCmdAwake
import Derived.Test.YtngjllbdjaanaaaCmdOpen
namespace Go.Proofs.Ytngjllbdjaanaaa
open Go Go.RowKit Go.Sh

theorem range_below {w w' : World} {B b o : Nat} {cs : List Value} (h : w.rangeAt b o cs) (hb : Below B w w') (hl : b < B) : w'.rangeAt b o cs := fun j v hv => (hb.cell (p := ⟨b, o + j, none⟩) hl).trans (h j v hv)

set_option maxHeartbeats 1000000 in
theorem CommandEncodes_walk (c : Cmd) (w : World) (hc : c.OK) : Calls Try.prog 5 #[c.v] w (LawPost w) := by
  have HC := Lib.hid hc
  have HR := Lib.hid (blk_range (cmd_new_blk w c))
  have HB1 := Lib.hid ((Below.refl w.heap.size w).alloc (Nat.le_refl _) (.cells c.cells.toArray 28))
  have HE := Lib.hid (fun W => Encode_any c W hc)
  have HF := Lib.hid (fun W => RefEncode_any c W hc)
  have HK := Lib.hid (fun W => Check_any c W hc)
  have HQ := Lib.hid (fun W => RefCheck_any c W hc)
  have HI := Lib.hid (show (Try.prog.info? 28).map (·.size) = some c.cells.length by rw [hc.size]; kernel_rfl)
  have HDE := Lib.hid (decode_encode c hc)
  have heq := fun W => cmd_same c hc W
  unfold Cmd.v at HE HF HK HQ ⊢
  obtain ⟨cs, hcs⟩ : ∃ cs, c.cells.toArray = cs := ⟨_, rfl⟩
  rw [hcs] at HE HF HK HQ heq HR HB1 ⊢
  have HCS := Lib.hid hcs
  have hss : cs.size = 20 := by rw [← hcs]; exact cmd_size hc
  clear hcs hc
  have hln : (encE c).length ≤ 32 := by
    unfold encE
    split
    · rw [length_encL HC.out]; exact Nat.le_refl _
    · simp
  generalize checkN c = E at *
  generalize encE c = l at *
  have HLN := Lib.hid hln
  clear hln
  go_enter Try.func5, Try.ntmps5
  go_wp2_with fail
  have hz1 : w.heap.size < (w.alloc (.cells cs 28)).heap.size := by simp
  generalize w.alloc (.cells cs 28) = w1 at *
  generalize hb0 : w.heap.size = b0 at *
  have HB0 := Lib.hid hb0
  clear hb0
  refine (awake_any w1).mono ?_
  rintro e w2 ⟨rfl, hb⟩
  have HB2 := Lib.hid (HB1.out.trans (hb.mono (by omega)))
  have HR2 := Lib.hid (range_below HR.out hb hz1)
  have hz2 := hb.size
  clear hb HB1 HR
  go_wp2_with (refine wpList_load_mid rfl 28 _ rfl b0 0 rfl c.cells _ HR2.out Try.underlying28 rfl HI.out ?_; rw [HCS.out])
  refine (HE.out w2).mono ?_
  rintro e w3 ⟨A, n, cp, rfl, hn, ho, hb⟩
  have HB3 := Lib.hid (HB2.out.trans (hb.mono (by omega)))
  have HR3 := Lib.hid (range_below HR2.out hb (by omega))
  have hz3 := hb.size
  have HO3 := Lib.hid ho
  have HN := Lib.hid hn
  clear hb HB2 HR2 ho hn
  go_wp2_with (refine wpList_load_mid rfl 28 _ rfl b0 0 rfl c.cells _ HR3.out Try.underlying28 rfl HI.out ?_; rw [HCS.out])
  refine (HF.out w3).mono ?_
  rintro e w4 ⟨A', n', cp', rfl, hn', ho', hb⟩
  have HB4 := Lib.hid (HB3.out.trans (hb.mono (by omega)))
  have HR4 := Lib.hid (range_below HR3.out hb (by omega))
  have HO4 := Lib.hid ((RB.of_own HO3.out).below hb)
  have HO4' := Lib.hid (RB.of_own ho')
  have hz4 := hb.size
  have hcp := own_cap HO3.out
  have hnn : n ≤ 32 := by rw [← HN.out]; exact HLN.out
  clear hb HB3 HR3 HO3 ho' hn'
  have eE : (E != E) = false := by simp
  have hnE : n ≤ 140737488355328 := by omega
  go_wp2_with fail
  refine wp_region_noPanic ?_
  refine wp_region_held_drew (S := fun w' => w'.rangeAt b0 0 c.cells) (by kernel_rfl) ?_ (fun hHeld => ?_)
  · (try dsimp only)
    exact HR4.out
  refine wpAnyH_take (i := 0) (v := ?v1) rfl (by kernel_rfl) (by kernel_rfl) (by kernel_rfl) (fun _ _ _ h => h) (Or.inl ⟨by rfl, ?y1⟩) (by assumption) ?r1
  case y1 => (intro w hSw; (try dsimp only at hSw); first | (go_simp; done) | (go_simp; with_reducible rfl))
  (try simp only [List.getElem_toArray, List.getElem_cons_zero, Act.put, List.setIfInBounds_toArray, List.set_cons_zero, List.set_cons_succ])
  refine wpAnyH_take (i := 1) (v := ?v2) rfl (by kernel_rfl) (by kernel_rfl) (by kernel_rfl) (fun _ _ _ h => h) (Or.inl ⟨by rfl, ?y2⟩) (by assumption) ?r2
  case y2 => (intro w hSw; (try dsimp only at hSw); first | (go_simp; done) | (go_simp; with_reducible rfl))
  (try simp only [List.getElem_toArray, List.getElem_cons_zero, List.getElem_cons_succ, Act.put, List.setIfInBounds_toArray, List.set_cons_zero, List.set_cons_succ])
  refine wpAnyH_ready (rs := [2]) (by kernel_rfl) (by simp) ?_
  refine AllReadyH.cons rfl (fun K hK => ?_) AllReadyH.nil
  go_simp
  refine (Equal_any A A' n n' cp cp' l l _ w3.heap.size w4.heap.size (by exact HO4.out) (by exact HO4'.out) hnE).mono fun e w5 h => ?_
  obtain ⟨rfl, hb5⟩ := h.below
  rw [show decide (l = l) = true by simp]
  have HBw5 := Lib.hid (show Below w4.heap.size w4 w5 from (Below.refl _ _).drew.trans hb5)
  have R5 := range_below HR4.out HBw5.out (by omega)
  have hz5 : w4.heap.size ≤ w5.heap.size := HBw5.out.size
  clear h hb5
  first | (refine hK.out _ _ ?_ (fun hHeld => ?_)) | (go_wp2_with fail; refine hK.out _ _ ?_ (fun hHeld => ?_))
  · (try dsimp only)
    exact R5
  clear hK K
  (try simp only [List.getElem_toArray, List.getElem_cons_zero, List.getElem_cons_succ, Act.put, List.setIfInBounds_toArray, List.set_cons_zero, List.set_cons_succ])
  refine wpAnyH_take (i := 3) (v := ?v4) rfl (by kernel_rfl) (by kernel_rfl) (by kernel_rfl) (fun _ _ _ h => h) (Or.inl ⟨by rfl, ?y4⟩) (by assumption) ?r4
  case y4 => (intro w hSw; (try dsimp only at hSw); first | (go_simp; done) | (go_simp; with_reducible rfl))
  (try simp only [List.getElem_toArray, List.getElem_cons_zero, List.getElem_cons_succ, Act.put, List.setIfInBounds_toArray, List.set_cons_zero, List.set_cons_succ])
  refine wpAnyH_take (i := 4) (v := ?v5) rfl (by kernel_rfl) (by kernel_rfl) (by kernel_rfl) (fun _ _ _ h => h) (Or.inl ⟨by rfl, ?y5⟩) (by assumption) ?r5
  case y5 => (intro w hSw; (try dsimp only at hSw); first | (go_simp; done) | (go_simp; with_reducible rfl))
  (try simp only [List.getElem_toArray, List.getElem_cons_zero, List.getElem_cons_succ, Act.put, List.setIfInBounds_toArray, List.set_cons_zero, List.set_cons_succ])
  refine wpAnyH_take (i := 5) (v := ?v6) rfl (by kernel_rfl) (by kernel_rfl) (by kernel_rfl) (fun _ _ _ h => h) (Or.inl ⟨by rfl, ?y6⟩) (by assumption) ?r6
  case y6 => (intro w hSw; (try dsimp only at hSw); first | (go_simp; done) | (go_simp; with_reducible rfl))
  (try simp only [List.getElem_toArray, List.getElem_cons_zero, List.getElem_cons_succ, Act.put, List.setIfInBounds_toArray, List.set_cons_zero, List.set_cons_succ])
  refine wpAnyH_take (i := 6) (v := ?v7) rfl (by kernel_rfl) (by kernel_rfl) (by kernel_rfl) (fun _ _ _ h => h) (Or.inl ⟨by rfl, ?y7⟩) (by assumption) ?r7
  case y7 => (intro w hSw; (try dsimp only at hSw); first | (go_simp; done) | (go_simp; with_reducible rfl))
  (try simp only [List.getElem_toArray, List.getElem_cons_zero, List.getElem_cons_succ, Act.put, List.setIfInBounds_toArray, List.set_cons_zero, List.set_cons_succ])
  refine wpAnyH_take (i := 7) (v := ?v8) rfl (by kernel_rfl) (by kernel_rfl) (by kernel_rfl) (fun _ _ _ h => h) (Or.inl ⟨by rfl, ?y8⟩) (by assumption) ?r8
  case y8 => (intro w hSw; (try dsimp only at hSw); first | (go_simp; done) | (go_simp; with_reducible rfl))
  (try simp only [List.getElem_toArray, List.getElem_cons_zero, List.getElem_cons_succ, Act.put, List.setIfInBounds_toArray, List.set_cons_zero, List.set_cons_succ])
  refine wpAnyH_take (i := 8) (v := ?v9) rfl (by kernel_rfl) (by kernel_rfl) (by kernel_rfl) (fun _ _ _ h => h) (Or.inl ⟨by rfl, ?y9⟩) (by assumption) ?r9
  case y9 => (intro w hSw; (try dsimp only at hSw); first | (go_simp; done) | (go_simp; with_reducible rfl))
  (try simp only [List.getElem_toArray, List.getElem_cons_zero, List.getElem_cons_succ, Act.put, List.setIfInBounds_toArray, List.set_cons_zero, List.set_cons_succ])
  refine wpAnyH_take (i := 9) (v := ?v10) rfl (by kernel_rfl) (by kernel_rfl) (by kernel_rfl) (fun _ _ _ h => h) (Or.inl ⟨by rfl, ?y10⟩) (by assumption) ?r10
  case y10 => (intro w hSw; (try dsimp only at hSw); first | (go_simp; done) | (go_simp; with_reducible rfl))
  (try simp only [List.getElem_toArray, List.getElem_cons_zero, List.getElem_cons_succ, Act.put, List.setIfInBounds_toArray, List.set_cons_zero, List.set_cons_succ])
  refine wpAnyH_take (i := 10) rfl (by kernel_rfl) (by kernel_rfl) (by kernel_rfl) (fun _ _ _ h => h) (yieldsIf_load_mid (by rfl) 28 _ rfl b0 0 rfl c.cells _ (fun w hSw => hSw) Try.underlying28 rfl HI.out) (by assumption) ?_
  (try simp only [List.getElem_toArray, List.getElem_cons_zero, List.getElem_cons_succ, Act.put, List.setIfInBounds_toArray, List.set_cons_zero, List.set_cons_succ])
  refine wpAnyH_take (i := 12) rfl (by kernel_rfl) (by kernel_rfl) (by kernel_rfl) (fun _ _ _ h => h) (yieldsIf_load_mid (by rfl) 28 _ rfl b0 0 rfl c.cells _ (fun w hSw => hSw) Try.underlying28 rfl HI.out) (by assumption) ?_
  (try simp only [List.getElem_toArray, List.getElem_cons_zero, List.getElem_cons_succ, Act.put, List.setIfInBounds_toArray, List.set_cons_zero, List.set_cons_succ])
  refine wpAnyH_ready (rs := [11]) (by kernel_rfl) (by simp) ?_
  refine AllReadyH.cons rfl (fun K hK => ?_) AllReadyH.nil
  go_simp
  (try rw [HCS.out])
  refine (HK.out _).mono ?_
  rintro e w6 ⟨rfl, hbw6⟩
  have HBw6 := Lib.hid (HBw5.out.trans (show Below w4.heap.size w5 w6 from hbw6.mono (by omega)))
  have hzw6 : w4.heap.size ≤ w6.heap.size := HBw6.out.size
  have Rw6 := range_below HR4.out HBw6.out (by omega)
  clear hbw6
  first | (refine hK.out _ _ ?_ (fun hHeld => ?_)) | (go_wp2_with fail; refine hK.out _ _ ?_ (fun hHeld => ?_))
  · (try dsimp only)
    exact Rw6
  clear hK K
  (try simp only [List.getElem_toArray, List.getElem_cons_zero, List.getElem_cons_succ, Act.put, List.setIfInBounds_toArray, List.set_cons_zero, List.set_cons_succ])
  refine wpAnyH_ready (rs := [13]) (by kernel_rfl) (by simp) ?_
  refine AllReadyH.cons rfl (fun K hK => ?_) AllReadyH.nil
  go_simp
  (try rw [HCS.out])
  refine (HQ.out _).mono ?_
  rintro e w7 ⟨rfl, hbw7⟩
  have HBw7 := Lib.hid (HBw6.out.trans (show Below w4.heap.size w6 w7 from hbw7.mono (by omega)))
  have hzw7 : w4.heap.size ≤ w7.heap.size := HBw7.out.size
  have Rw7 := range_below HR4.out HBw7.out (by omega)
  clear hbw7
  first | (refine hK.out _ _ ?_ (fun hHeld => ?_)) | (go_wp2_with fail; refine hK.out _ _ ?_ (fun hHeld => ?_))
  · (try dsimp only)
    exact Rw7
  clear hK K
  (try simp only [List.getElem_toArray, List.getElem_cons_zero, List.getElem_cons_succ, Act.put, List.setIfInBounds_toArray, List.set_cons_zero, List.set_cons_succ])
  refine wpAnyH_take (i := 14) (v := ?v15) rfl (by kernel_rfl) (by kernel_rfl) (by kernel_rfl) (fun _ _ _ h => h) (Or.inl ⟨by rfl, ?y15⟩) (by assumption) ?r15
  case y15 => (intro w hSw; (try dsimp only at hSw); first | (go_simp; done) | (go_simp; with_reducible rfl))
  (try simp only [List.getElem_toArray, List.getElem_cons_zero, List.getElem_cons_succ, Act.put, List.setIfInBounds_toArray, List.set_cons_zero, List.set_cons_succ])
  refine wpAnyH_take (i := 15) (v := ?v16) rfl (by kernel_rfl) (by kernel_rfl) (by kernel_rfl) (fun _ _ _ h => h) (Or.inl ⟨by rfl, ?y16⟩) (by assumption) ?r16
  case y16 => (intro w hSw; (try dsimp only at hSw); first | (go_simp; done) | (go_simp; with_reducible rfl))
  (try simp only [List.getElem_toArray, List.getElem_cons_zero, List.getElem_cons_succ, Act.put, List.setIfInBounds_toArray, List.set_cons_zero, List.set_cons_succ])
  refine wpAnyH_done (by kernel_rfl) ?_ _
  refine NoPanic.normal ?_
  clear Rw6 HBw6 HBw5 HO4' HE HF HK HQ R5 eE
  have HO7 := Lib.hid (HO4.out.below (HBw7.out.mono hz4))
  have HB7 := Lib.hid (HB4.out.trans (HBw7.out.mono (by omega)))
  have HR7 := Lib.hid Rw7
  clear Rw7 HO4 HBw7 HB4
  by_cases h0 : E = 0
  · obtain ⟨d1, d2⟩ := HDE.out h0
    subst h0
    clear HDE
    go_wp2_with fail
    refine (Decode_any A n cp l _ w3.heap.size HO7.out (by omega) hnE hcp).mono ?_
    rintro e w8 ⟨rfl, hb8⟩
    rw [d1, d2]
    unfold Cmd.v
    rw [HCS.out]
    have HB8 := Lib.hid (HB7.out.trans (hb8.mono (by omega)))
    have HR8 := Lib.hid (range_below HR7.out hb8 (by omega))
    have hz8 := hb8.size
    have hzero := zeroCmd
    obtain ⟨zc, hzc⟩ : ∃ zc, zeroC.cells.toArray = zc := ⟨_, rfl⟩
    have hst := cmd_store_new HC.out zeroC_ok w8
    rw [hzc] at hzero hst
    rw [HCS.out] at hst
    have HR9 := Lib.hid (show (w8.alloc (.cells cs 28)).rangeAt b0 0 c.cells from range_below HR8.out ((Below.refl w8.heap.size w8).alloc (Nat.le_refl _) _) (by omega))
    have HN9 := Lib.hid (show (w8.alloc (.cells cs 28)).rangeAt w8.heap.size 0 c.cells by rw [← HCS.out]; exact blk_range (cmd_new_blk w8 c))
    have HB9 := Lib.hid (HB8.out.alloc (by omega) (.cells cs 28))
    clear hb8 d1 d2 hzc HB7 HR7 HR8 HB8 HO7
    go_wp2_with (first | (refine wl_load_mid rfl 28 (.tmp 7) rfl w8.heap.size 0 rfl c.cells _ HN9.out Try.underlying28 rfl HI.out ?_; rw [HCS.out]) | (refine wl_load_mid rfl 28 (.tmp 1) rfl b0 0 rfl c.cells _ HR9.out Try.underlying28 rfl HI.out ?_; rw [HCS.out]))
    go_ret
    exact ⟨rfl, by rw [HB0.out]; exact HB9.out⟩
  · have hne : (E != 0) = true := by rw [bne_iff_ne]; exact h0
    clear h0 HDE
    go_wp2_with fail
    go_ret
    exact ⟨rfl, by rw [HB0.out]; exact HB7.out⟩
end Go.Proofs.Ytngjllbdjaanaaa
