/-
  Contract of frame.Parse: the part whose frame the bytes are, its data in new memory, or the error's number. Conditions: the sizes that slices can have.
-/
import Derived.Test.YtobmopjfbgkfbaaZero
import Derived.Test.YtobmopjfbgkfbaaRowsOf
import Derived.Deep.RegionHeld3
namespace Go.Proofs.Ytobmopjfbgkfbaa
open Go Go.RowKit Go.Sh

def parS (l : List UInt8) : Nat := val (dig 2 l 28 2) 2
def parI (l : List UInt8) : Nat := val (dig 2 l 20 8) 8
def parQ (l : List UInt8) : Pt := ⟨bt l 16, (parI l : Int), bt l 17, bt l 18, (l.drop 30).take (parS l)⟩
def parE (l : List UInt8) : Int :=
  if l.length ≠ 480 then 2 else if allZ (l.take 16) = false then 7 else if bt l 16 < 1 ∨ 3 < bt l 16 then 1
  else if bt l 19 ≠ 0 ∨ 450 < parS l then 3 else if (parQ l).chk ≠ 0 ∨ allZ (l.drop (30 + parS l)) = false then 3 else 0
def parP (l : List UInt8) : Pt := if parE l = 0 then parQ l else zp
theorem parS_lt (l : List UInt8) : parS l < 65536 := val_lt (f := dig 2 l 28 2) (fun j => by rw [dig_two]; exact by8_lt _ _) 2
theorem parI_lt (l : List UInt8) : parI l < 18446744073709551616 := val_lt (f := dig 2 l 20 8) (fun j => by rw [dig_two]; exact by8_lt _ _) 8
theorem get_in (l : List UInt8) (a d : Nat) (h1 : 1 ≤ d) (h2 : d ≤ 8) (h : a + d ≤ 480) : getE 2 480 (a : Int) (d : Int) = 0 ∧ getV 2 l 480 (a : Int) (d : Int) = val (dig 2 l a d) d := by
  have h0 : okW 2 (d : Int) = true := by simp [okW]; omega
  have h3 : getE 2 480 (a : Int) (d : Int) = 0 := by
    unfold getE
    rw [if_neg (by rw [h0]; simp), if_neg (by omega)]
  refine ⟨h3, ?_⟩
  unfold getV
  rw [if_pos h3]
  simp

theorem PBlk.store {w : World} {b : Nat} {p : Pt} {s : Value} (h : PBlk w b p s) (q : Pt) (t : Value) : PBlk (w.setRow b ((pcell p s).toArray.toList.take 0 ++ (pcell q t).toArray.toList ++ (pcell p s).toArray.toList.drop (0 + (pcell q t).toArray.size)).toArray) b q t :=
  setRow_heap w b _ _ _ _ h

set_option maxHeartbeats 4000000 in
set_option maxRecDepth 100000 in
theorem Parse_any (A : Option Addr) (n c : Nat) (l : List UInt8) (w : World) (B : Nat) (hr : RB w B A n l) (hB : B ≤ w.heap.size) (hn : n ≤ 140737488355328) (hc : n ≤ c) :
    Calls Try.prog 26 #[.slice A n c] w (RetPt w (parP l) (parE l)) := by
  have HL := Lib.hid hr.len
  have HR := Lib.hid hr
  clear hr
  have HZB := Lib.hid (PBlk.new w zp (.slice none 0 0))
  have HB0 := Lib.hid ((Below.refl w.heap.size w).alloc (Nat.le_refl _) (.cells (pcell zp (.slice none 0 0)).toArray 56))
  have HPE := Lib.hid (show parP l = if parE l = 0 then parQ l else zp from rfl)
  have hbad : ∀ er : Int, parE l = er → er ≠ 0 → RetPt w (parP l) (parE l) (.returned (.tuple #[.agg (pcell zp (.slice none 0 0)).toArray, .int .i64 er])) (w.alloc (.cells (pcell zp (.slice none 0 0)).toArray 56)) := by
    intro er h1 h2
    rw [parP, h1, if_neg h2]
    exact ⟨none, 0, 0, rfl, World.ownsRow_nil _ _ _ _, HB0.out⟩
  have HBAD := Lib.hid hbad
  clear hbad
  by_cases h480 : n = 480
  · subst h480
    by_cases hz : allZ (l.take 16) = true
    · skip

      have HAZ := Lib.hid (fun A' (w : World) B (hr : RB w B A' 16 (l.take 16)) => by
        have h := allZ_any A' 16 c (l.take 16) w B hr (by omega)
        rw [hz] at h
        exact h)
      have hz0 : ¬ allZ (l.take 16) = false := by rw [hz]; decide
      obtain ⟨ad, rfl, hab, q16⟩ := HR.out.at_ (k := 16) (by omega)
      obtain ⟨_, hh, _, q17⟩ := HR.out.at_ (k := 17) (by omega)
      obtain rfl := Option.some.inj hh
      obtain ⟨_, hh, _, q18⟩ := HR.out.at_ (k := 18) (by omega)
      obtain rfl := Option.some.inj hh
      obtain ⟨_, hh, _, q19⟩ := HR.out.at_ (k := 19) (by omega)
      obtain rfl := Option.some.inj hh
      have hablt : ad.block < w.heap.size := by omega
      have r16 : (w.alloc (.cells #[.int .u8 0, .int .u64 0, .int .i64 0, .int .i64 0, .slice none 0 0] 56)).cell? ⟨ad.block, ad.off + 16, none⟩ = some (.int .u8 (bt l 16)) := (HB0.out.cell (p := ad.add 16) (by rw [block_of_add]; exact hablt)).trans q16
      have r17 : (w.alloc (.cells #[.int .u8 0, .int .u64 0, .int .i64 0, .int .i64 0, .slice none 0 0] 56)).cell? ⟨ad.block, ad.off + 17, none⟩ = some (.int .u8 (bt l 17)) := (HB0.out.cell (p := ad.add 17) (by rw [block_of_add]; exact hablt)).trans q17
      have r18 : (w.alloc (.cells #[.int .u8 0, .int .u64 0, .int .i64 0, .int .i64 0, .slice none 0 0] 56)).cell? ⟨ad.block, ad.off + 18, none⟩ = some (.int .u8 (bt l 18)) := (HB0.out.cell (p := ad.add 18) (by rw [block_of_add]; exact hablt)).trans q18
      have r19 : (w.alloc (.cells #[.int .u8 0, .int .u64 0, .int .i64 0, .int .i64 0, .slice none 0 0] 56)).cell? ⟨ad.block, ad.off + 19, none⟩ = some (.int .u8 (bt l 19)) := (HB0.out.cell (p := ad.add 19) (by rw [block_of_add]; exact hablt)).trans q19
      have b16 := bt_lo l 16
      have b16' := bt_hi l 16
      have b17 := bt_lo l 17
      have b17' := bt_hi l 17
      have b18 := bt_lo l 18
      have b18' := bt_hi l 18
      have b19 := bt_lo l 19
      have b19' := bt_hi l 19
      have hsl : ∀ W, (Instr.slice 26 (.slice (some ad) 480 c) none (some (.int .i64 16)) none).run Try.prog W = .ok (.slice (some ad) 16 c) W := fun W => run_sl_hi TB W (some ad) 480 c .i64 16 (by omega)
      clear hz q16 q17 q18 q19 hh
      by_cases hk : bt l 16 < 1 ∨ 3 < bt l 16
      · have HE := Lib.hid (show parE l = 1 by rw [parE, if_neg (by rw [HL.out]; decide), if_neg hz0, if_pos hk])
        clear hz0
        have hk' : bt l 16 < 1 ∨ (¬ bt l 16 < 1 ∧ 3 < bt l 16) := by omega
        generalize bt l 16 = k at *
        clear hk
        rcases hk' with hk | ⟨hk1, hk⟩
        · skip
          go_enter Try.func26, Try.ntmps26
          go_wp2_with fail
          refine (HAZ.out (some ad) _ B ((HR.out.take (k := 16) (by omega)).alloc hB _)).mono ?_
          rintro e w1 ⟨rfl, rfl⟩
          go_wp2_with fail
          exact bodyPost_ret (v := .tuple #[.agg (pcell zp (.slice none 0 0)).toArray, .int .i64 1]) (part_results (by rfl) _ _ w.heap.size zp none 0 0 HZB.out _ (by rfl) (by rfl)) rfl (HBAD.out 1 HE.out (by decide))
        · skip
          go_enter Try.func26, Try.ntmps26
          go_wp2_with fail
          refine (HAZ.out (some ad) _ B ((HR.out.take (k := 16) (by omega)).alloc hB _)).mono ?_
          rintro e w1 ⟨rfl, rfl⟩
          go_wp2_with fail
          exact bodyPost_ret (v := .tuple #[.agg (pcell zp (.slice none 0 0)).toArray, .int .i64 1]) (part_results (by rfl) _ _ w.heap.size zp none 0 0 HZB.out _ (by rfl) (by rfl)) rfl (HBAD.out 1 HE.out (by decide))
      · have hk1 : ¬ bt l 16 < 1 := by omega
        have hk2 : ¬ 3 < bt l 16 := by omega
        have HG1 := Lib.hid (show ∀ (w : World) B, RB w B (some ad) 480 l → Calls Try.prog 65 #[.int .i64 2, .slice (some ad) 480 c, .int .i64 20, .int .i64 8] w (GetPost w (parI l) 0) from fun w B hr => by
          have h := Get_any 2 (some ad) 480 c l (20 : Nat) (8 : Nat) w B hr hn (by omega)
          rw [(get_in l 20 8 (by decide) (by decide) (by decide)).1, (get_in l 20 8 (by decide) (by decide) (by decide)).2] at h
          exact h)
        have HG2 := Lib.hid (show ∀ (w : World) B, RB w B (some ad) 480 l → Calls Try.prog 65 #[.int .i64 2, .slice (some ad) 480 c, .int .i64 28, .int .i64 2] w (GetPost w (parS l) 0) from fun w B hr => by
          have h := Get_any 2 (some ad) 480 c l (28 : Nat) (2 : Nat) w B hr hn (by omega)
          rw [(get_in l 28 2 (by decide) (by decide) (by decide)).1, (get_in l 28 2 (by decide) (by decide) (by decide)).2] at h
          exact h)
        have hS := parS_lt l
        have hI := parI_lt l
        by_cases hs : bt l 19 ≠ 0 ∨ 450 < parS l
        · have HE := Lib.hid (show parE l = 3 by rw [parE, if_neg (by rw [HL.out]; decide), if_neg hz0, if_neg hk, if_pos hs])
          clear hz0 hk
          generalize bt l 16 = k at *
          rcases (by omega : bt l 19 ≠ 0 ∨ (bt l 19 = 0 ∧ 450 < parS l)) with h19 | ⟨h19, hbig⟩
          · have h19' : (bt l 19 != 0) = true := by rw [bne_iff_ne]; exact h19
            clear hs h19
            generalize bt l 19 = x19 at *
            generalize parS l = S at *
            generalize parI l = I at *
            go_enter Try.func26, Try.ntmps26
            go_wp2_with fail
            refine (HAZ.out (some ad) _ B ((HR.out.take (k := 16) (by omega)).alloc hB _)).mono ?_
            rintro e w1 ⟨rfl, rfl⟩
            go_wp2_with fail
            refine (HG1.out _ B (HR.out.alloc hB _)).mono ?_
            rintro e w1 ⟨rfl, rfl⟩
            go_wp2_with fail
            refine (HG2.out _ B (HR.out.alloc hB _)).mono ?_
            rintro e w1 ⟨rfl, rfl⟩
            go_wp2_with fail
            exact bodyPost_ret (v := .tuple #[.agg (pcell zp (.slice none 0 0)).toArray, .int .i64 3]) (part_results (by rfl) _ _ w.heap.size zp none 0 0 HZB.out _ (by rfl) (by rfl)) rfl (HBAD.out 3 HE.out (by decide))
          · have h19' : (bt l 19 != 0) = false := by simp [h19]
            have hbig' : (450 : Int) < (parS l : Int) := by omega
            clear hs h19
            generalize bt l 19 = x19 at *
            generalize parS l = S at *
            generalize parI l = I at *
            go_enter Try.func26, Try.ntmps26
            go_wp2_with fail
            refine (HAZ.out (some ad) _ B ((HR.out.take (k := 16) (by omega)).alloc hB _)).mono ?_
            rintro e w1 ⟨rfl, rfl⟩
            go_wp2_with fail
            refine (HG1.out _ B (HR.out.alloc hB _)).mono ?_
            rintro e w1 ⟨rfl, rfl⟩
            go_wp2_with fail
            refine (HG2.out _ B (HR.out.alloc hB _)).mono ?_
            rintro e w1 ⟨rfl, rfl⟩
            go_wp2_with fail
            exact bodyPost_ret (v := .tuple #[.agg (pcell zp (.slice none 0 0)).toArray, .int .i64 3]) (part_results (by rfl) _ _ w.heap.size zp none 0 0 HZB.out _ (by rfl) (by rfl)) rfl (HBAD.out 3 HE.out (by decide))
        · have h19' : (bt l 19 != 0) = false := by rw [bne_eq_false_iff_eq]; omega
          have hS450 : parS l ≤ 450 := by omega
          have hS450' : ¬ (450 : Int) < (parS l : Int) := by omega
          have HEX := Lib.hid (show parE l = if (parQ l).chk ≠ 0 ∨ allZ (l.drop (30 + parS l)) = false then 3 else 0 by rw [parE, if_neg (by rw [HL.out]; decide), if_neg hz0, if_neg hk, if_neg hs])
          have HQ := Lib.hid (show parQ l = ⟨bt l 16, (parI l : Int), bt l 17, bt l 18, (l.drop 30).take (parS l)⟩ from rfl)
          clear hz0 hk hs
          generalize bt l 16 = k at *
          generalize bt l 17 = x17 at *
          generalize bt l 18 = x18 at *
          generalize bt l 19 = x19 at *
          generalize parS l = S at *
          generalize parI l = I at *
          go_enter Try.func26, Try.ntmps26
          go_wp2_with fail
          refine (HAZ.out (some ad) _ B ((HR.out.take (k := 16) (by omega)).alloc hB _)).mono ?_
          rintro e w1 ⟨rfl, rfl⟩
          go_wp2_with fail
          refine (HG1.out _ B (HR.out.alloc hB _)).mono ?_
          rintro e w1 ⟨rfl, rfl⟩
          go_wp2_with fail
          refine (HG2.out _ B (HR.out.alloc hB _)).mono ?_
          rintro e w1 ⟨rfl, rfl⟩
          go_wp2_with fail
          obtain ⟨w1, hw1⟩ : ∃ w1, w.alloc (.cells #[.int .u8 0, .int .u64 0, .int .i64 0, .int .i64 0, .slice none 0 0] 56) = w1 := ⟨_, rfl⟩
          have HB1 := Lib.hid (show Below w.heap.size w w1 from by rw [← hw1]; exact HB0.out)
          have HP1 := Lib.hid (show PBlk w1 w.heap.size zp (.slice none 0 0) from by rw [← hw1]; exact HZB.out)
          rw [hw1] at r16 r17 r18 r19 ⊢
          have hz1 : w.heap.size < w1.heap.size := HP1.out.lt
          clear hw1 HZB HB0 HBAD HAZ HG1 HG2
          have KK := Lib.hid (show ∀ o : Obj, (w1.alloc o).drew.cell? ⟨ad.block, ad.off + 16, none⟩ = some (.int .u8 k) ∧ (w1.alloc o).drew.cell? ⟨ad.block, ad.off + 17, none⟩ = some (.int .u8 x17) ∧ (w1.alloc o).drew.cell? ⟨ad.block, ad.off + 18, none⟩ = some (.int .u8 x18) from fun o =>
            ⟨(((Below.refl w1.heap.size w1).alloc (Nat.le_refl _) o).drew.cell (p := ⟨ad.block, ad.off + 16, none⟩) (by show ad.block < _; omega)).trans r16, (((Below.refl w1.heap.size w1).alloc (Nat.le_refl _) o).drew.cell (p := ⟨ad.block, ad.off + 17, none⟩) (by show ad.block < _; omega)).trans r17, (((Below.refl w1.heap.size w1).alloc (Nat.le_refl _) o).drew.cell (p := ⟨ad.block, ad.off + 18, none⟩) (by show ad.block < _; omega)).trans r18⟩)
          go_region_held3 (fun w' => w'.cell? ⟨ad.block, ad.off + 16, none⟩ = some (.int .u8 k) ∧ w'.cell? ⟨ad.block, ad.off + 17, none⟩ = some (.int .u8 x17) ∧ w'.cell? ⟨ad.block, ad.off + 18, none⟩ = some (.int .u8 x18)) (first | (exact ⟨r16, r17, r18⟩) | (exact KK.out _) | (go_keep; done)) (first | fail)
          have e17 : IntKind.i64.wrap x17 = x17 := by rw [IntKind.wrap_i64]; omega
          have e18 : IntKind.i64.wrap x18 = x18 := by rw [IntKind.wrap_i64]; omega
          rw [e17, e18]
          obtain ⟨w2, hw2⟩ : ∃ w2, (w1.alloc (.cells #[.int .u8 k, .int .u64 (I : Int), .int .i64 x17, .int .i64 x18, .slice none 0 0] 56)).drew = w2 := ⟨_, rfl⟩
          have hb2 : Below w1.heap.size w1 w2 := by rw [← hw2]; exact ((Below.refl _ _).alloc (Nat.le_refl _) _).drew
          have HP2 := Lib.hid (show PBlk w2 w1.heap.size ⟨k, (I : Int), x17, x18, (l.drop 30).take S⟩ (.slice none 0 0) from by rw [← hw2]; exact heap_alloc_new w1 _)
          have HP02 := Lib.hid (HP1.out.below hb2 hz1)
          have HB2 := Lib.hid (HB1.out.trans (hb2.mono (by omega)))
          rw [hw2]
          generalize hgp : w1.heap.size = gp at *
          generalize hg0 : w.heap.size = g0 at *
          have HG0 := Lib.hid hg0
          clear e17 e18 hw2 hb2 r16 r17 r18 r19 HP1 HB1 KK hgp hg0
          have hgl := HP2.out.lt
          have HHI := Lib.hid (show (30 : Int) + (S : Int) = ((30 + S : Nat) : Int) by omega)
          have HD := Lib.hid (show ((l.drop 30).take S).length = S by rw [List.length_take, List.length_drop, HL.out]; omega)
          have HCK := Lib.hid (show (parQ l).chk = chk k I x17 x18 S by rw [HQ.out]; unfold Pt.chk; rw [HD.out])
          have HQD := Lib.hid (show (parQ l).d = (l.drop 30).take S by rw [HQ.out])
          go_wp2_with (refine wl_sliceB TB rfl (.tmp 72) (.const (.int .i64 30)) (.tmp 73) rfl (some ad) 480 c rfl .i64 .i64 _ _ rfl rfl 30 S rfl HHI.out B l (HR.out.below (HB2.out.mono hB)) (by omega) hc ?_; intro A5 hr5)
          refine (copied_any A5 S _ _ w2 B hr5 (by omega) (by omega)).mono ?_
          rintro e w3 ⟨g3, c3, rfl, ho3, hb3⟩
          have HO3 := Lib.hid ho3
          have HP3 := Lib.hid (HP2.out.below hb3 HP2.out.lt)
          have HP03 := Lib.hid (HP02.out.below hb3 HP02.out.lt)
          have HB3 := Lib.hid (HB2.out.trans (hb3.mono (by omega)))
          have hz3 := hb3.size
          have a0 : w3.cell? ⟨gp, 0, none⟩ = some (.int .u8 k) := HP3.out.c0
          have a1 : w3.cell? ⟨gp, 1, none⟩ = some (.int .u64 (I : Int)) := HP3.out.c1
          have a2 : w3.cell? ⟨gp, 2, none⟩ = some (.int .i64 x17) := HP3.out.c2
          have a3 : w3.cell? ⟨gp, 3, none⟩ = some (.int .i64 x18) := HP3.out.c3
          have hc4 := HP3.out.c4
          have hf4 : w3.frozen? ⟨gp, 4, none⟩ = false := frozen_of_row _ _ 4 _ _ HP3.out
          have hg3 := (ho3.lt g3 rfl).1
          clear ho3 hb3 hr5 HP2 HP02 HB2
          have HP4 := Lib.hid (show PBlk (w3.setCell ⟨gp, 4, none⟩ (.slice (some ⟨g3, 0, none⟩) S c3)) gp ⟨k, (I : Int), x17, x18, (l.drop 30).take S⟩ (.slice (some ⟨g3, 0, none⟩) S c3) from by
            unfold PBlk
            rw [blk_set HP3.out]
            rfl)
          have hg4 := grown_setCell w3 gp 4 (.slice (some ⟨g3, 0, none⟩) S c3)
          have HP04 := Lib.hid (HP03.out.grown hg4 (by simp; omega))
          have HO4 := Lib.hid (HO3.out.kept hg4 (far_own HO3.out (by omega)))
          have HB4 := Lib.hid (HB3.out.grown hg4 (by omega) (fun q hq => by injection hq with hq; omega))
          have hz4 := hg4.size
          clear hg4 HP3 HP03 HB3 HO3
          have hpc := fun w => PCheck_any k (I : Int) x17 x18 (some ⟨g3, 0, none⟩) S c3 w ⟨b16, by omega⟩ (by omega)
          rw [← HCK.out] at hpc
          have HPC := Lib.hid hpc
          clear hpc HCK
          generalize (parQ l).chk = ck at *
          have HBE := Lib.hid (show ∀ w', PBlk w' g0 zp (.slice none 0 0) → Below g0 w w' → parE l = 3 → RetPt w (parP l) (parE l) (.returned (.tuple #[.agg (pcell zp (.slice none 0 0)).toArray, .int .i64 3])) w' from fun w' _ hb he => by
            rw [HPE.out, he, if_neg (by decide)]
            exact ⟨none, 0, 0, rfl, World.ownsRow_nil _ _ _ _, by rw [HG0.out]; exact hb⟩)
          go_wp2_with fail
          refine (HPC.out _).mono ?_
          rintro e w5 ⟨rfl, hb5⟩
          have HP5 := Lib.hid (HP4.out.below hb5 HP4.out.lt)
          have HP05 := Lib.hid (HP04.out.below hb5 HP04.out.lt)
          have HO5 := Lib.hid (own_later HO4.out hb5)
          have HB5 := Lib.hid (HB4.out.trans (hb5.mono (by omega)))
          clear hb5 a0 a1 a2 a3 hc4 hf4 HP4 HP04 HO4 HB4 HPC
          have a0 : w5.cell? ⟨gp, 0, none⟩ = some (.int .u8 k) := HP5.out.c0
          have a1 : w5.cell? ⟨gp, 1, none⟩ = some (.int .u64 (I : Int)) := HP5.out.c1
          have a2 : w5.cell? ⟨gp, 2, none⟩ = some (.int .i64 x17) := HP5.out.c2
          have a3 : w5.cell? ⟨gp, 3, none⟩ = some (.int .i64 x18) := HP5.out.c3
          have a4 : w5.cell? ⟨gp, 4, none⟩ = some (.slice (some ⟨g3, 0, none⟩) S c3) := HP5.out.c4
          by_cases hck : ck = 0
          · subst hck
            obtain ⟨A6, hsl6, hrb6⟩ : ∃ A6, (∀ W, (Instr.slice 26 (.slice (some ad) 480 c) (some (.int .i64 (30 + (S : Int)))) none none).run Try.prog W = .ok (.slice A6 (480 - (30 + S)) (c - (30 + S))) W) ∧ RB w5 B A6 (480 - (30 + S)) (l.drop (30 + S)) := by
              refine ⟨if c = 30 + S then some ad else (some ad).map (·.add (30 + S)), fun W => ?_, (HR.out.below (HB5.out.mono hB)).cut (by omega) hc⟩
              have h := run_sl_lo TB W (some ad) 480 c .i64 (30 + S) (by omega)
              rw [show ((30 + S : Nat) : Int) = 30 + (S : Int) by omega, Nat.mul_one] at h
              exact h
            go_wp2_with fail
            refine (allZ_any A6 _ _ _ w5 B hrb6 (by omega)).mono ?_
            rintro e w6 ⟨rfl, rfl⟩
            cases hz : allZ (l.drop (30 + S)) with
            | true =>
              have HE := Lib.hid (show parE l = 0 by rw [HEX.out, hz]; simp)
              clear hsl6 hrb6 hz
              go_wp2_with (first | (refine wl_load_mid rfl 56 (.tmp 8) rfl gp 0 rfl (pcell ⟨k, (I : Int), x17, x18, (l.drop 30).take S⟩ (.slice (some ⟨g3, 0, none⟩) S c3)) _ (blk_range HP5.out) Try.underlying56 rfl infoP ?_) | (refine wl_store_blk rfl 56 (.tmp 2) (.tmp 88) rfl g0 0 (pcell ⟨k, (I : Int), x17, x18, (l.drop 30).take S⟩ (.slice (some ⟨g3, 0, none⟩) S c3)).toArray rfl rfl (pcell zp (.slice none 0 0)).toArray 56 HP05.out (Nat.le_refl 5) infoP (pcell_one _ _ _ _) ?_))
              refine bodyPost_ret (v := .tuple #[.agg (pcell ⟨k, (I : Int), x17, x18, (l.drop 30).take S⟩ (.slice (some ⟨g3, 0, none⟩) S c3)).toArray, .int .i64 0]) (part_results (by rfl) _ _ g0 ⟨k, (I : Int), x17, x18, (l.drop 30).take S⟩ (some ⟨g3, 0, none⟩) S c3 (PBlk.store HP05.out _ _) _ (by rfl) (by rfl)) rfl ?_
              rw [HPE.out, HE.out, if_pos rfl, HQ.out]
              refine ⟨_, S, c3, rfl, ?_, ?_⟩
              · rw [HG0.out]
                exact own_base (HO5.out.kept (grown_setRow w5 g0 _) (far_own HO5.out (by omega))) (by omega)
              · rw [HG0.out]
                exact below_setRow HB5.out (Nat.le_refl _) _
            | false =>
              have HE := Lib.hid (show parE l = 3 by rw [HEX.out, hz]; simp)
              clear hsl6 hrb6 hz
              go_wp2_with (refine wl_store_blk rfl 56 (.tmp 2) (.tmp 87) rfl g0 0 (pcell zp (.slice none 0 0)).toArray rfl rfl (pcell zp (.slice none 0 0)).toArray 56 HP05.out (Nat.le_refl 5) infoP (pcell_one _ _ _ _) ?_)
              exact bodyPost_ret (v := .tuple #[.agg (pcell zp (.slice none 0 0)).toArray, .int .i64 3]) (part_results (by rfl) _ _ g0 zp none 0 0 (PBlk.store HP05.out _ _) _ (by rfl) (by rfl)) rfl (HBE.out _ (PBlk.store HP05.out _ _) (below_setRow HB5.out (Nat.le_refl _) _) HE.out)
          · have hck' : (ck != 0) = true := by rw [bne_iff_ne]; exact hck
            have HE := Lib.hid (show parE l = 3 by rw [HEX.out, if_pos (Or.inl hck)])
            clear hck
            go_wp2_with (refine wl_store_blk rfl 56 (.tmp 2) (.tmp 87) rfl g0 0 (pcell zp (.slice none 0 0)).toArray rfl rfl (pcell zp (.slice none 0 0)).toArray 56 HP05.out (Nat.le_refl 5) infoP (pcell_one _ _ _ _) ?_)
            exact bodyPost_ret (v := .tuple #[.agg (pcell zp (.slice none 0 0)).toArray, .int .i64 3]) (part_results (by rfl) _ _ g0 zp none 0 0 (PBlk.store HP05.out _ _) _ (by rfl) (by rfl)) rfl (HBE.out _ (PBlk.store HP05.out _ _) (below_setRow HB5.out (Nat.le_refl _) _) HE.out)
    · have hz' : allZ (l.take 16) = false := by simpa using hz
      have HE := Lib.hid (show parE l = 7 by rw [parE, if_neg (by rw [HL.out]; decide), if_pos hz'])
      have HAZ := Lib.hid (fun A' (w : World) B (hr : RB w B A' 16 (l.take 16)) => by
        have h := allZ_any A' 16 c (l.take 16) w B hr (by omega)
        rw [hz'] at h
        exact h)
      have hsl : ∀ W, (Instr.slice 26 (.slice A 480 c) none (some (.int .i64 16)) none).run Try.prog W = .ok (.slice A 16 c) W := fun W => run_sl_hi TB W A 480 c .i64 16 (by omega)
      clear hz hz'
      go_enter Try.func26, Try.ntmps26
      go_wp2_with fail
      refine (HAZ.out A _ B ((HR.out.take (k := 16) (by omega)).alloc hB _)).mono ?_
      rintro e w1 ⟨rfl, rfl⟩
      go_wp2_with fail
      exact bodyPost_ret (v := .tuple #[.agg (pcell zp (.slice none 0 0)).toArray, .int .i64 7]) (part_results (by rfl) _ _ w.heap.size zp none 0 0 HZB.out _ (by rfl) (by rfl)) rfl (HBAD.out 7 HE.out (by decide))
  · have hne : ((n : Int) != 480) = true := by rw [bne_iff_ne]; omega
    have HE := Lib.hid (show parE l = 2 by rw [parE, if_pos (by rw [HL.out]; exact h480)])
    clear h480
    go_enter Try.func26, Try.ntmps26
    go_wp2_with fail
    exact bodyPost_ret (v := .tuple #[.agg (pcell zp (.slice none 0 0)).toArray, .int .i64 2]) (part_results (by rfl) _ _ w.heap.size zp none 0 0 HZB.out _ (by rfl) (by rfl)) rfl (HBAD.out 2 HE.out (by decide))
end Go.Proofs.Ytobmopjfbgkfbaa
