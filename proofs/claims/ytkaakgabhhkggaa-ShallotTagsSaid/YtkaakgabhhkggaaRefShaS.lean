/-
  Contract of shallotref02.Sum: the sum of bytes. Conditions: at most 2^46 bytes.
-/
import Derived.Test.YtkaakgabhhkggaaRefShaC
import Derived.Test.YtkaakgabhhkggaaRefShaP
import Derived.Test.YtkaakgabhhkggaaShaFin
import Derived.Test.YtkaakgabhhkggaaCopy
namespace Go.Proofs.Ytkaakgabhhkggaa
open Go Go.RowKit Go.Sh

/-- byte i of the words -/
def ob (s : List Int) (i : Nat) : UInt8 := pc (it s (i / 4)).toNat (3 - i % 4)
theorem outW_ob (s : List Int) : outW s 8 = rowf 32 (ob s) := rfl

set_option maxHeartbeats 4000000 in
set_option maxRecDepth 100000 in
theorem RefSum_any (A : Option Addr) (n c : Nat) (l : List UInt8) (w : World) (B : Nat) (hr : RB w B A n l) (hB : B ≤ w.heap.size) (hn : n ≤ 70368744177664) :
    Calls Try.prog 48 #[.slice A n c] w (fun e w' => e = .returned (.agg (bv (sumB l)).toArray) ∧ Below w.heap.size w w') := by
  have HLN := Lib.hid hr.len
  have hzb := zero32b
  have hz8 := zero8
  have hzbs : (bv (zs 32)).toArray.size = 32 := rfl
  have hz8s : (wv (zw 8)).toArray.size = 8 := rfl
  have HR := Lib.hid (hr.alloc hB (.cells (bv (zs 32)).toArray 29))
  have HR0 := Lib.hid (RowB.new w 29 (zs 32))
  have HB0 := Lib.hid ((Below.refl w.heap.size w).alloc (Nat.le_refl _) (.cells (bv (zs 32)).toArray 29))
  have hs0 : (w.alloc (.cells (bv (zs 32)).toArray 29)).heap.size = w.heap.size + 1 := by simp
  generalize hzc : (bv (zs 32)).toArray = zc at *
  generalize hzd : (wv (zw 8)).toArray = zd at *
  have HZC := Lib.hid hzc
  have HZD := Lib.hid hzd
  have hze : ¬ zc = #[] := by intro h; rw [h] at hzbs; cases hzbs
  have hzf : ¬ zd = #[] := by intro h; rw [h] at hz8s; cases hz8s
  clear hzc hzd hr
  go_enter Try.func48, Try.ntmps48
  go_wp2_with fail
  have HS0 := Lib.hid hs0
  clear hs0
  generalize w.alloc (.cells zc 29) = w0 at *
  refine (Copy_any A n c l w0 B HR.out (by have := HS0.out; omega) (by omega)).mono ?_
  rintro e w1 ⟨g1, c1, rfl, ho1, hb1⟩
  have HO1 := Lib.hid ho1
  have HB1 := Lib.hid hb1
  clear ho1 hb1
  go_wp2_with fail
  refine (RefPadding_any n w1 (by omega)).mono ?_
  rintro e w2 ⟨g2, c2, rfl, ho2, hb2⟩
  have HFULL := Lib.hid (shPad_full n)
  obtain ⟨q, hq⟩ : ∃ q, shPad n = q := ⟨_, rfl⟩
  have HPL := Lib.hid (show 9 ≤ (shPad n).length ∧ (shPad n).length ≤ 72 by rw [length_shPad]; unfold padZ; omega)
  rw [hq] at ho2 HFULL HPL ⊢
  obtain ⟨m, hm⟩ : ∃ m, q.length = m := ⟨_, rfl⟩
  rw [hm] at ho2 HFULL HPL ⊢
  have HQ := Lib.hid hq
  have HM := Lib.hid hm
  have HO1b := Lib.hid (own_later HO1.out hb2)
  have HP2 := Lib.hid (RB.of_own ho2)
  have HB2 := Lib.hid (HB1.out.trans (hb2.mono HB1.out.size))
  have hz1 := HB1.out.size
  have hz2 := hb2.size
  clear ho2 hb2 HO1 HB1 hq hm
  obtain ⟨G0, hG0⟩ : ∃ G0, w0.heap.size = G0 := ⟨_, rfl⟩
  rw [hG0] at HO1b HB2 hz1
  go_wp2_with (at_builtin; refine wl_app TB rfl (.tmp 9) (.tmp 12) rfl (.slice (some ⟨g1, 0, none⟩) n c1) rfl (some ⟨g2, 0, none⟩) m c2 rfl G0 n (bv l) HO1b.out w2.heap.size (bv q) HP2.out (bv_one _) ?c3 ?c4 ?c5 ?c6)
  case c3 => have := HPL.out; omega
  case c4 => have := HPL.out; omega
  case c5 => omega
  case c6 =>
    intro A3 c3 w3 hown3 hg3 hat3
    have hA : ∃ g, A3 = some ⟨g, 0, none⟩ := by
      rcases hat3 with h | h <;> exact ⟨_, own_some hown3 (h.trans rfl)⟩
    obtain ⟨g3, rfl⟩ := hA
    have HO3 := Lib.hid (show w3.ownsRow G0 5 1 (.slice (some ⟨g3, 0, none⟩) (n + m) c3) (n + m) (bv (l ++ q)) by rw [bv_append]; exact hown3)
    have HB3 := Lib.hid (HB2.out.grown hg3 (by omega) (own_drop HO1b.out))
    have hz3 := hg3.size
    clear hown3 hg3 hat3
    obtain ⟨N, hN⟩ : ∃ N, n + m = N := ⟨_, rfl⟩
    rw [hN] at HO3 HFULL ⊢
    have HN := Lib.hid hN
    clear hN
    go_wp2_with fail
    refine (RefFirst_any w3).mono ?_
    rintro e w4 ⟨rfl, hb4⟩
    have hz4 := hb4.size
    have HR4 := Lib.hid (RB.of_own (own_later HO3.out hb4))
    have HB4 := Lib.hid (HB3.out.trans (hb4.mono (by omega)))
    have hcap := own_cap HO3.out
    have hst := storeW_new w4 36 (r := shStart) (s := zw 8) rfl
    have HRW := Lib.hid (RowW.new w4 36 shStart)
    have HBW := Lib.hid ((Below.refl w4.heap.size w4).alloc (Nat.le_refl _) (.cells (wv shStart).toArray 36))
    rw [HZD.out] at hst
    have hxs : (wv shStart).toArray.size = 8 := rfl
    generalize hX : (wv shStart).toArray = X at *
    have hxe : ¬ X = #[] := by intro h; rw [h] at hxs; cases hxs
    clear hb4 hX
    go_wp2_with fail
    clear hst hxs hxe hz8 hz8s hzf
    generalize w4.alloc (.cells X 36) = w5 at *
    have HG4 := Lib.hid (show G0 ≤ w4.heap.size by omega)
    clear hz1 hz2 hz3
    obtain ⟨K, hK⟩ : ∃ K, N = 64 * K := ⟨N / 64, by have := HFULL.out; have := HN.out; omega⟩
    have HK := Lib.hid hK
    have hNN : N < 9223372036854775000 := by have := HN.out; have := HPL.out; omega
    clear hK
    generalize hg4 : w4.heap.size = g4 at *
    have HG := Lib.hid hg4
    clear hg4
    go_loopw [5] (fun i wr => ∃ k j : Nat, k ≤ K ∧ j = 64 * k ∧ i = .int .i64 (j : Int) ∧ RowW wr 36 g4 (shSt (l ++ q) k) ∧ Below g4 w4 wr) (fun i _ => N - (intOf i).toNat)
    case atStart => exact ⟨0, 0, by omega, rfl, rfl, HRW.out, HBW.out⟩
    case round =>
      obtain ⟨k, j, hk, hj, rfl, hrow, hb⟩ := hrel
      have HRr := Lib.hid hrow
      have HBr := Lib.hid hb
      have HJ := Lib.hid hj
      clear hrow hb HRW HBW hj
      by_cases hlt : k < K
      · have dj : (j : Int) < (N : Int) := by have := HJ.out; have := HK.out; omega
        have hj64 : j + 64 ≤ N := by have := HJ.out; have := HK.out; omega
        obtain ⟨A6, hA6⟩ : ∃ A6, (if c3 = j then (some ⟨g3, 0, none⟩ : Option Addr) else (some ⟨g3, 0, none⟩ : Option Addr).map (·.add j)) = A6 := ⟨_, rfl⟩
        have HRB := Lib.hid (show RB w4 g4 A6 64 (((l ++ q).drop j).take 64) by
          have := ((HR4.out.cut (k := j) (cap := c3) (by omega) hcap).take (k := 64) (by omega))
          rw [hA6] at this
          exact this)
        have hrun : ∀ W, (Instr.slice 22 (.slice (some ⟨g3, 0, none⟩) N c3) (some (.int .i64 (j : Int))) (some (.int .i64 ((j : Int) + 64))) none).run Try.prog W = .ok (.slice A6 64 (c3 - j)) W := fun W => by
          have := run_sl TB W (some ⟨g3, 0, none⟩) N c3 .i64 .i64 j (j + 64) (by omega) (by omega)
          rw [Nat.mul_one, Nat.add_sub_cancel_left, hA6] at this
          exact this
        have HLS := Lib.hid (length_shSt (l ++ q) k)
        have HAW := Lib.hid (AW.shSt (l ++ q) k)
        have HSS := Lib.hid (show shSt (l ++ q) (k + 1) = shComp (shSt (l ++ q) k) (((l ++ q).drop j).take 64) by rw [HJ.out]; rfl)
        generalize ((l ++ q).drop j).take 64 = blk at *
        generalize shSt (l ++ q) k = s at *
        have d0 := HRr.out.cell (k := 0) (by rw [HLS.out]; decide)
        have d1 := HRr.out.cell (k := 1) (by rw [HLS.out]; decide)
        have d2 := HRr.out.cell (k := 2) (by rw [HLS.out]; decide)
        have d3 := HRr.out.cell (k := 3) (by rw [HLS.out]; decide)
        have d4 := HRr.out.cell (k := 4) (by rw [HLS.out]; decide)
        have d5 := HRr.out.cell (k := 5) (by rw [HLS.out]; decide)
        have d6 := HRr.out.cell (k := 6) (by rw [HLS.out]; decide)
        have d7 := HRr.out.cell (k := 7) (by rw [HLS.out]; decide)
        have hagg : (#[.int .u32 (it s 0), .int .u32 (it s 1), .int .u32 (it s 2), .int .u32 (it s 3), .int .u32 (it s 4), .int .u32 (it s 5), .int .u32 (it s 6), .int .u32 (it s 7)] : Array Value) = (wv s).toArray := by
          conv => rhs; rw [list8 HLS.out]
          rfl
        have HAG := Lib.hid hagg
        clear hagg
        have hu : IntKind.i64.wrap ((j : Int) + 64) = (j : Int) + 64 := by rw [IntKind.wrap_i64]; omega
        clear hA6
        go_wp2_with fail
        refine wp_region_quiet_tail 6 (by kernel_rfl) (by kernel_rfl) ?_
        simp only [List.take_succ_cons, List.take_zero, List.drop_succ_cons, List.drop_zero]
        repeat (go_big_quiet_step (fail))
        refine wpQuiet_nil ?_
        intro _ hw'
        obtain ⟨nr, hw''⟩ := hw'
        subst hw''
        rw [HAG.out]
        go_wp2_with fail
        have HRn := Lib.hid (HRr.out.drewN nr)
        have HBn := Lib.hid (below_drewN HBr.out nr)
        clear d0 d1 d2 d3 d4 d5 d6 d7 HRr HBr HAG
        generalize wr.drewN nr = wn at *
        refine (RefCompress_any A6 (c3 - j) blk s wn g4 (HRB.out.below HBn.out) (Nat.le_of_lt HRn.out.lt) HLS.out HAW.out).mono ?_
        rintro e w6 ⟨rfl, hb6⟩
        have HR6 := Lib.hid (HRn.out.below hb6 HRn.out.lt)
        have HB6 := Lib.hid (HBn.out.trans (hb6.mono (Nat.le_of_lt HRn.out.lt)))
        have hst := HR6.out.store (r := shComp s blk) (by rw [HLS.out]; rfl)
        have HRF := Lib.hid (HR6.out.setRow (r := shComp s blk))
        have HBF := Lib.hid (below_setRow HB6.out (Nat.le_refl g4) (wv (shComp s blk)).toArray)
        have hys : (wv (shComp s blk)).toArray.size = 8 := rfl
        clear hb6 HR6 HB6
        generalize (wv (shComp s blk)).toArray = Y at *
        have hye : ¬ Y = #[] := by intro h; rw [h] at hys; cases hys
        go_wp2_with fail
        refine ⟨⟨k + 1, j + 64, by omega, by have := HJ.out; omega, by go_num, ?_, HBF.out⟩, by simp [intOf]; omega⟩
        rw [HSS.out]
        exact HRF.out
      · obtain rfl : k = K := by omega
        obtain rfl : j = N := by have := HJ.out; have := HK.out; omega
        have HSW := Lib.hid (show shSt (l ++ q) k = shSumW l by
          unfold shSumW
          rw [HLN.out, HQ.out, List.length_append, HLN.out, HM.out, HN.out, HK.out, Nat.mul_div_cancel_left k (by decide)])
        have HLS := Lib.hid (length_shSt (l ++ q) k)
        have HAW := Lib.hid (AW.shSt (l ++ q) k)
        generalize shSt (l ++ q) k = s at *
        have hg0 : w.heap.size < g4 := by have := HS0.out; have := HG4.out; omega
        have hBall : Below w.heap.size w wr := (HB0.out.trans (HB4.out.mono (by have := HS0.out; omega))).trans (HBr.out.mono (by omega))
        have hb7 := (Below.refl wr.heap.size wr).alloc (Nat.le_refl _) (.cells zc 29)
        have hlt4 := HRr.out.lt
        have HR7 := Lib.hid (HRr.out.below hb7 hlt4)
        have HRes := Lib.hid ((((HR0.out.below HB4.out (by have := HS0.out; omega)).below HBr.out (by omega)).below hb7 (by omega)))
        have HB7 := Lib.hid (hBall.trans (hb7.mono (by omega)))
        have hn7 := RowB.new wr 29 (zs 32)
        rw [HZC.out] at hn7
        have HN7 := Lib.hid (show RowB (wr.alloc (.cells zc 29)) 29 wr.heap.size (rowf 32 fun j => if j < 0 then ob s j else 0) from hn7)
        clear hn7 hb7 hBall HRr HBr
        have HG7 := Lib.hid (show g4 < wr.heap.size from hlt4)
        go_wp2_with fail
        clear hzb hze hzbs
        generalize wr.alloc (.cells zc 29) = w7 at *
        generalize wr.heap.size = g7 at *
        generalize hgw : w.heap.size = g0 at *
        have HGW := Lib.hid hgw
        clear hgw
        have hsz := HG.out
        clear hlt4 hsz
        go_loopw [7] (fun i wx => ∃ k : Nat, k ≤ 32 ∧ i = .int .i64 (k : Int) ∧ RowB wx 29 g7 (rowf 32 fun j => if j < k then ob s j else 0) ∧ RowW wx 36 g4 s ∧ RowB wx 29 g0 (zs 32) ∧ Below g0 w wx) (fun i _ => 32 - (intOf i).toNat)
        case atStart => exact ⟨0, by omega, rfl, HN7.out, HR7.out, HRes.out, HB7.out⟩
        case round =>
          obtain ⟨i, hi, rfl, r1, r2, r3, hb⟩ := hrel
          have R1 := Lib.hid r1
          have R2 := Lib.hid r2
          have R3 := Lib.hid r3
          have RB' := Lib.hid hb
          clear r1 r2 r3 hb HN7 HR7 HRes HB7
          by_cases hi32 : i < 32
          · have di : (i : Int) < 32 := by omega
            have ca := R2.out.cell (k := i / 4) (by rw [HLS.out]; omega)
            have ci := R1.out.cell (k := i) (by rw [length_rowf]; omega)
            have fi := R1.out.free i
            have HOB := Lib.hid (show ob s i = pc (it s (i / 4)).toNat (3 - i % 4) from rfl)
            have hx1 := (HAW.out.at_ (i / 4)).lo
            have hx2 := (HAW.out.at_ (i / 4)).hi
            obtain ⟨x, hx⟩ := Int.eq_ofNat_of_zero_le hx1
            rw [hx] at ca hx2
            rw [hx, Int.toNat_natCast] at HOB
            clear hx1 hx
            have hsh : IntKind.i64.wrap (24 - 8 * ((i : Int) % 4)) = 24 - 8 * ((i : Int) % 4) := by rw [IntKind.wrap_i64]; omega
            have hsh2 : (24 - 8 * ((i : Int) % 4)).toNat = 8 * (3 - i % 4) := by omega
            have hsh0 : 0 ≤ 24 - 8 * ((i : Int) % 4) := by omega
            have HPC := Lib.hid (piece_wrap x (3 - i % 4))
            go_wp2_with fail
            rw [HPC.out, ← HOB.out]
            have hr := R1.out.set i (ob s i)
            rw [rowf_set] at hr
            rw [show (rowf 32 fun j => if j = i then ob s i else if j < i then ob s j else 0) = rowf 32 (fun j => if j < i + 1 then ob s j else 0) from rowf_congr fun j hj => by
              by_cases hji : j = i
              · subst hji; simp
              · rw [if_neg hji]; split <;> split <;> first | rfl | omega] at hr
            refine ⟨⟨i + 1, by omega, by go_num, hr, ?_, ?_, RB'.out.setCell (by have := HG7.out; simp only; omega) _⟩, by simp [intOf]; omega⟩
            · exact R2.out.keep (Below.heap_setCell _ _ _ g4 (by have := HG7.out; simp only; omega))
            · exact R3.out.keep (Below.heap_setCell _ _ _ g0 (by have := HG7.out; simp only; omega))
          · obtain rfl : i = 32 := by omega
            have HF := Lib.hid (show RowB wr 29 g7 (sumB l) by
              have := R1.out
              rw [show (rowf 32 fun j => if j < 32 then ob s j else 0) = rowf 32 (ob s) from rowf_congr fun j hj => by rw [if_pos hj], ← outW_ob, HSW.out] at this
              exact this)
            have hst := R3.out.store (r := sumB l) (length_sumB l)
            have HF2 := Lib.hid ((R3.out.setRow (r := sumB l)).load32 (length_sumB l))
            have HBF := Lib.hid (below_setRow RB'.out (Nat.le_refl g0) (bv (sumB l)).toArray)
            have hxs : (bv (sumB l)).toArray.size = 32 := by rw [List.size_toArray, length_bv, length_sumB]
            have HI32 := Lib.hid (show (Try.prog.info? 29).map (·.size) = some (bv (sumB l)).length by rw [length_bv, length_sumB]; exact info32b)
            have HRG5 := Lib.hid (blk_range HF.out)
            generalize hZ : (bv (sumB l)).toArray = Z at *
            have HZ := Lib.hid hZ
            have hze : ¬ Z = #[] := by intro h; rw [h] at hxs; cases hxs
            clear hZ
            go_wp2_with (refine wl_load_mid (by rfl) _ (.tmp 6) rfl g7 0 rfl (bv (sumB l)) _ HRG5.out Try.underlying29 rfl HI32.out ?_; rw [HZ.out])
            (try simp only [Exit.inBlock, Exit.then])
            refine bodyPost_ret (v := .agg Z) (results_cellW rfl _ _ _ ⟨g0, 0, none⟩ _ rfl HF2.out) rfl ?_
            exact ⟨by rw [HZ.out], by rw [HGW.out]; exact HBF.out⟩
end Go.Proofs.Ytkaakgabhhkggaa
