/-
  Contract of shallotref02.Compress: the state behind a block. Conditions: the state has eight words, the block 64 bytes.
-/
import Derived.Test.YtkaakgabhhkggaaRefShaW
import Derived.Test.YtkaakgabhhkggaaQTail
import Derived.Deep.DeepCutAuto
import Derived.StillTailTactics
namespace Go.Proofs.Ytkaakgabhhkggaa
open Go Go.RowKit Go.Sh

theorem ad4 (a b c d : Int) : ad (ad (ad a b) c) d = (a + b + c + d) % 4294967296 := by unfold ad; omega
theorem ad5 (a b c d e : Int) : ad (ad (ad (ad a b) c) d) e = ((a + b + c + d) % 4294967296 + e) % 4294967296 := by unfold ad; omega
theorem shT1_eq (kt wt : Int) (s : List Int) : ((it s 7 + bits .xor .u32 (bits .xor .u32 (rr (it s 4) 6) (rr (it s 4) 11)) (rr (it s 4) 25) + bits .xor .u32 (bits .and .u32 (it s 4) (it s 5)) (bits .and .u32 (bits .xor .u32 IntKind.u32.max (it s 4)) (it s 6)) + kt) % 4294967296 + wt) % 4294967296 = shT1 kt wt s := (ad5 _ _ _ _ _).symm
theorem shT2_eq (s : List Int) : (bits .xor .u32 (bits .xor .u32 (rr (it s 0) 2) (rr (it s 0) 13)) (rr (it s 0) 22) + bits .xor .u32 (bits .xor .u32 (bits .and .u32 (it s 0) (it s 1)) (bits .and .u32 (it s 0) (it s 2))) (bits .and .u32 (it s 1) (it s 2))) % 4294967296 = shT2 s := rfl
theorem RefRight_int (x n : Int) (hx : W32 x) (h1 : 1 ≤ n) (h2 : n < 32) (w : World) :
    Calls Try.prog 71 #[.int .u32 x, .int .i64 n] w (fun e w' => e = .returned (.int .u32 (rr x n.toNat)) ∧ ∃ m, w' = w.drewN m) := by
  obtain ⟨k, rfl⟩ := Int.eq_ofNat_of_zero_le (show 0 ≤ n by omega)
  exact RefRight_any x k hx (by omega) (by omega) w
theorem wl_load8 {w : World} {p : Nat} {s : List Int} {ops : Array Oper} {rest : List Oper} {op : Oper} {a : Act} {Q : Exit → Act → World → Prop} (x : Operand) (h : RowW w 36 p s) (hs : s.length = 8) (hw : Region.wanted op (yielded ops a.tmps) = true) (ho : op.op = .load 36 x)
    (hx : a.eval x = .pointer (some ⟨p, 0, none⟩)) (X : Array Value) (hX : (wv s).toArray = X) (hk : wpList Try.prog ops Q rest (a.put op.dst (.agg X)) w) : wpList Try.prog ops Q (op :: rest) a w :=
  wl_load_mid hw _ x ho p 0 hx (wv s) _ (blk_range h) Try.underlying36 rfl (by rw [length_wv, hs]; exact info8) (by rw [hX]; exact hk)

set_option maxRecDepth 100000 in
set_option maxHeartbeats 8000000 in
theorem RefCompress_any (A : Option Addr) (c : Nat) (blk : List UInt8) (s : List Int) (w : World) (B : Nat) (hr : RB w B A 64 blk) (hB : B ≤ w.heap.size) (hs : s.length = 8) (hw : AW s) :
    Calls Try.prog 63 #[.agg (wv s).toArray, .slice A 64 c] w (fun e w' => e = .returned (.agg (wv (shComp s blk)).toArray) ∧ Below w.heap.size w w') := by
  have HR := Lib.hid hr
  clear hr
  have hzero8 := zero8
  have hzero64 := zero64
  have hz8 : (wv (zw 8)).toArray.size = 8 := rfl
  have hz64 : (wv (zw 64)).toArray.size = 64 := rfl
  have hss : (wv s).toArray.size = 8 := by rw [List.size_toArray, length_wv, hs]
  have hb1 := ((Below.refl w.heap.size w).alloc (Nat.le_refl _) (.cells (wv s).toArray 36))
  have hb2 := hb1.alloc (by simp) (.cells (wv (zw 8)).toArray 36)
  have hb3 := hb2.alloc (by simp; omega) (.cells (wv (zw 64)).toArray 90)
  have hs1 : (w.alloc (.cells (wv s).toArray 36)).heap.size = w.heap.size + 1 := by simp
  have hs2 : ((w.alloc (.cells (wv s).toArray 36)).alloc (.cells (wv (zw 8)).toArray 36)).heap.size = w.heap.size + 2 := by simp
  have hs3 : (((w.alloc (.cells (wv s).toArray 36)).alloc (.cells (wv (zw 8)).toArray 36)).alloc (.cells (wv (zw 64)).toArray 90)).heap.size = w.heap.size + 3 := by simp
  have hn0 := ((RowW.new w 36 s).below ((Below.refl (w.heap.size + 1) _).alloc (by rw [hs1]; exact Nat.le_refl _) (.cells (wv (zw 8)).toArray 36)) (Nat.lt_succ_self _))
  have HN0 := Lib.hid (hn0.below ((Below.refl (w.heap.size + 2) _).alloc (by rw [hs2]; exact Nat.le_refl _) (.cells (wv (zw 64)).toArray 90)) (by omega))
  have hn1 := RowW.new (w.alloc (.cells (wv s).toArray 36)) 36 (zw 8)
  rw [hs1] at hn1
  have HN1 := Lib.hid (hn1.below ((Below.refl (w.heap.size + 2) _).alloc (by rw [hs2]; exact Nat.le_refl _) (.cells (wv (zw 64)).toArray 90)) (by omega))
  have hn2 := RowW.new ((w.alloc (.cells (wv s).toArray 36)).alloc (.cells (wv (zw 8)).toArray 36)) 90 (zw 64)
  rw [hs2] at hn2
  have HN2 := Lib.hid hn2
  have HB3 := Lib.hid hb3
  have HSS := Lib.hid hs
  have HWS := Lib.hid hw
  clear hb1 hb2 hb3 hs1 hs2 hn0 hn1 hn2
  have HS3 := Lib.hid hs3
  clear hs3
  generalize hzc : (wv (zw 8)).toArray = zc at *
  generalize hzd : (wv (zw 64)).toArray = zd at *
  have hze : ¬ zc = #[] := by intro h; rw [h] at hz8; cases hz8
  have hzf : ¬ zd = #[] := by intro h; rw [h] at hz64; cases hz64
  generalize hX : (wv s).toArray = X at *
  have hXe : ¬ X = #[] := by intro h; rw [h] at hss; cases hss
  have HZD := Lib.hid hzd
  have HZC := Lib.hid hzc
  have HX := Lib.hid hX
  clear hzd hzc hX hs
  go_enter Try.func63, Try.ntmps63
  go_wp2_with fail
  generalize ((w.alloc (.cells X 36)).alloc (.cells zc 36)).alloc (.cells zd 90) = w3 at *
  refine (RefTable_any w3).mono ?_
  rintro e w4 ⟨rfl, hb⟩
  have hkl : (wv shK).toArray.size = 64 := by kernel_rfl
  have hst1 := storeW_new w4 90 (r := shK) (s := zw 64) (by rw [length_shK]; rfl)
  have hrk := RowW.new w4 90 shK
  have hbk := ((Below.refl w4.heap.size w4).alloc (Nat.le_refl _) (.cells (wv shK).toArray 90))
  have hsk : (w4.alloc (.cells (wv shK).toArray 90)).heap.size = w4.heap.size + 1 := by simp
  have hst2 := storeW_new (w4.alloc (.cells (wv shK).toArray 90)) 36 (r := s) (s := zw 8) (by rw [HSS.out]; rfl)
  have hrv := RowW.new (w4.alloc (.cells (wv shK).toArray 90)) 36 s
  have hbv := ((Below.refl (w4.heap.size + 1) (w4.alloc (.cells (wv shK).toArray 90))).alloc (by rw [hsk]; exact Nat.le_refl _) (.cells (wv s).toArray 36))
  have hz4 := hb.size
  rw [HS3.out] at hz4
  have hbx := (HB3.out.trans (hb.mono (by rw [HS3.out]; omega))).trans ((hbk.trans (hbv.mono (by omega))).mono (by omega))
  have hby := hb.trans (((hbk.trans (hbv.mono (by omega))).mono (by rw [HS3.out]; omega)))
  have HLD := Lib.hid (((HN0.out.below hb (by rw [HS3.out]; omega)).below hbk (by omega)))
  rw [hsk] at hst2 hrv
  have hc5 : CSt w ((w4.alloc (.cells (wv shK).toArray 90)).alloc (.cells (wv s).toArray 36)) w.heap.size w4.heap.size s (zw 64) s :=
    ⟨HN0.out.below hby (by rw [HS3.out]; omega), HN1.out.below hby (by rw [HS3.out]; omega), HN2.out.below hby (by rw [HS3.out]; omega), hrk.below hbv (by omega), hrv, hbx⟩
  rw [HZC.out, HX.out] at hst2
  rw [HZD.out] at hst1
  rw [HX.out] at hc5
  have HC5 := Lib.hid hc5
  have HGH := Lib.hid hz4
  clear hc5 hbx hby hrk hbk hsk hrv hbv hb HN0 HN1 HN2 HB3 hz4
  generalize hKS : (wv shK).toArray = KS at *
  have hke : ¬ KS = #[] := by intro h; rw [h] at hkl; cases hkl
  have HKS := Lib.hid hKS
  clear hKS
  go_wp2_with (refine wl_load8 (.tmp 2) HLD.out HSS.out rfl rfl rfl X HX.out ?_)
  have hR0 : shR (shSched blk) s 0 = s := rfl
  have hRS : ∀ n, shR (shSched blk) s (n + 1) = shRound (it shK n) (swd blk n) (shR (shSched blk) s n) := fun n => rfl
  have hRL : ∀ n, (shR (shSched blk) s n).length = 8 := fun n => length_shR _ HSS.out n
  have hRW : ∀ n, AW (shR (shSched blk) s n) := fun n => AW.shR _ HWS.out n
  have hRF : add8 s (shR (shSched blk) s 64) = shComp s blk := rfl
  generalize shR (shSched blk) s = R at *
  have HRS := Lib.hid hRS
  have HRL := Lib.hid hRL
  have HRW := Lib.hid hRW
  have HRF := Lib.hid hRF
  have HC0 := Lib.hid (show CSt w ((w4.alloc (.cells KS 90)).alloc (.cells X 36)) w.heap.size w4.heap.size s (wrow blk 0) (R 0) by rw [hR0, wrow_zero]; exact HC5.out)
  clear hRS hRL hRW hRF hR0 HC5 hst1 hst2 hke hkl hze hzf hXe hss hz64 hz8 hzero64 hzero8 HLD HZD HZC HX
  generalize (w4.alloc (.cells KS 90)).alloc (.cells X 36) = w5 at *
  generalize w4.heap.size = hq at *
  generalize hg : w.heap.size = g at *
  have HG := Lib.hid hg
  have HGL := Lib.hid (show g + 2 < hq by have := HGH.out; omega)
  obtain ⟨adr, rfl, _⟩ := HR.out.at_ (k := 0) (by omega)
  clear hg HGH
  rw [show g + 1 + 1 = g + 2 from rfl]
  go_loopw [8, 9, 10, 11, 12, 13, 14, 15, 16] (fun i _ _ _ _ _ _ _ _ wr => ∃ k : Nat, k ≤ 64 ∧ i = .int .i64 (k : Int) ∧ CSt w wr g hq s (wrow blk k) (R k)) (fun i _ _ _ _ _ _ _ _ _ => 64 - (intOf i).toNat)
  case atStart => exact ⟨0, by omega, rfl, HC0.out⟩
  case round =>
    obtain ⟨k, hk, rfl, hc⟩ := hrel
    have HC := Lib.hid hc
    clear hc HC0
    by_cases hlt : k < 64
    · have hi : (k : Int) < 64 := by omega
      go_upto_if 25 with fail
      go_cut [9, 10, 11] (fun _ _ _ wx => CSt w wx g hq s (wrow blk (k + 1)) (R k))
      case first =>
        by_cases h16 : k < 16
        · have d16 : (k : Int) < 16 := by omega
          have HHB := Lib.hid (show ∀ i, i < 4 → 0 ≤ hb blk (4 * k) i ∧ hb blk (4 * k) i < 16777216 from fun i => hb_lt blk (4 * k))
          have HH4 := Lib.hid (show hb blk (4 * k) 4 = swd blk k by rw [hb_beW, swd_lo blk h16])
          have HHS := Lib.hid (show ∀ i, hb blk (4 * k) (i + 1) = hb blk (4 * k) i * 256 + bt blk (4 * k + i) from fun i => rfl)
          have HL0 := Lib.hid (show CSt w wr g hq s ((wrow blk k).set k (hb blk (4 * k) 0)) (R k) by
            have e : (wrow blk k).set k (hb blk (4 * k) 0) = wrow blk k := by
              refine List.ext_getElem (by simp) fun j h1 h2 => ?_
              rw [List.getElem_set]
              split
              · next e => subst e; have := it_wrow_at blk hlt; unfold it at this; rw [List.getD_eq_getElem?_getD, List.getElem?_eq_getElem h2] at this; exact this.symm
              · rfl
            rw [e]; exact HC.out)
          have HLW := Lib.hid (length_wrow blk hk)
          have HWS2 := Lib.hid (wrow_set blk hlt)
          clear HC
          generalize wrow blk k = wk at *
          generalize hb blk (4 * k) = hbk at *
          rw [decide_eq_true d16]
          go_wp2_with fail
          go_loopw [9] (fun j wx => ∃ i : Nat, i ≤ 4 ∧ j = .int .i64 (i : Int) ∧ CSt w wx g hq s (wk.set k (hbk i)) (R k)) (fun j _ => 4 - (intOf j).toNat)
          case atStart => exact ⟨0, by omega, rfl, HL0.out⟩
          case round =>
            obtain ⟨i, hi4, rfl, hc⟩ := hrel
            have HC := Lib.hid hc
            clear hc HL0
            by_cases hi' : i < 4
            · have di : (i : Int) < 4 := by omega
              obtain ⟨ad', had, _, hcb⟩ := (HR.out.below (HC.out.2.2.2.2.2.mono hB)).at_ (k := 4 * k + i) (by omega)
              obtain rfl := Option.some.inj had
              clear had
              have hcw := HC.out.2.2.1.cell (k := k) (by rw [List.length_set, HLW.out]; exact hlt)
              rw [show it (wk.set k (hbk i)) k = hbk i by unfold it; rw [List.getD_eq_getElem?_getD, List.getElem?_set_self (by rw [HLW.out]; exact hlt)]; rfl] at hcw
              have hfr := HC.out.2.2.1.free k
              obtain ⟨l0, l1⟩ := HHB.out i hi'
              have b0 := bt_lo blk (4 * k + i)
              have b1 := bt_hi blk (4 * k + i)
              have HN := Lib.hid (HHS.out i)
              generalize hbk i = x at *
              generalize bt blk (4 * k + i) = b at *
              have e1 : IntKind.u32.wrap (x * 256) = x * 256 := by rw [IntKind.wrap_u32]; omega
              have e2 : IntKind.u32.wrap b = b := by rw [IntKind.wrap_u32]; omega
              have e3 : IntKind.u32.wrap (x * 256 + b) = x * 256 + b := by rw [IntKind.wrap_u32]; omega
              have u0 : IntKind.i64.wrap ((4 : Int) * (k : Int)) = (4 : Int) * (k : Int) := by rw [IntKind.wrap_i64]; omega
              have u1 : IntKind.i64.wrap ((4 : Int) * (k : Int) + (i : Int)) = (4 : Int) * (k : Int) + (i : Int) := by rw [IntKind.wrap_i64]; omega
              have p1 : 0 ≤ (4 : Int) * (k : Int) + (i : Int) := by omega
              have q1 : (4 : Int) * (k : Int) + (i : Int) < 64 := by omega
              have t1 : ((4 : Int) * (k : Int) + (i : Int)).toNat = 4 * k + i := by omega
              go_wp2_with fail
              go_still_tail 15, (by kernel_rfl)
              change wpList _ _ _ _ _ (World.drew _)
              go_wp2
              refine ⟨⟨i + 1, by omega, by go_num, ?_⟩, by simp [intOf]; omega⟩
              rw [HN.out]
              have hx := (HC.out.setW (by have := HGL.out; omega) k (x * 256 + b)).drewN 1
              rw [List.set_set] at hx
              exact hx
            · obtain rfl : i = 4 := by omega
              rw [HH4.out, HWS2.out] at HC
              go_wp2_with fail
              go_meet
              exact HC.out
        · have d16 : ¬ (k : Int) < 16 := by omega
          have e15 : k - 15 < k := by omega
          have e2 : k - 2 < k := by omega
          have e7 : k - 7 < k := by omega
          have e16 : k - 16 < k := by omega
          have cx := HC.out.2.2.1.cell (k := k - 15) (by rw [length_wrow blk hk]; omega)
          have cy := HC.out.2.2.1.cell (k := k - 2) (by rw [length_wrow blk hk]; omega)
          have cz := HC.out.2.2.1.cell (k := k - 7) (by rw [length_wrow blk hk]; omega)
          have cv := HC.out.2.2.1.cell (k := k - 16) (by rw [length_wrow blk hk]; omega)
          have fr := HC.out.2.2.1.free k
          have ck := HC.out.2.2.1.cell (k := k) (by rw [length_wrow blk hk]; omega)
          rw [it_wrow blk e15] at cx
          rw [it_wrow blk e2] at cy
          rw [it_wrow blk e7] at cz
          rw [it_wrow blk e16] at cv
          rw [it_wrow_at blk hlt] at ck
          have WX := Lib.hid (swd_w blk (k - 15))
          have WY := Lib.hid (swd_w blk (k - 2))
          have WZ := Lib.hid (swd_w blk (k - 7))
          have WV := Lib.hid (swd_w blk (k - 16))
          have HSW := Lib.hid (swd_hi blk (j := k) (by omega) hlt)
          have HWS2 := Lib.hid (wrow_set blk hlt)
          generalize wrow blk k = wk at *
          generalize swd blk k = wn at *
          generalize swd blk (k - 15) = x at *
          generalize swd blk (k - 2) = y at *
          generalize swd blk (k - 7) = z at *
          generalize swd blk (k - 16) = v at *
          have x1 := WX.out.1
          have x2 := WX.out.2
          have y1 := WY.out.1
          have y2 := WY.out.2
          have u15 : IntKind.i64.wrap ((k : Int) - 15) = (k : Int) - 15 := by rw [IntKind.wrap_i64]; omega
          have u2 : IntKind.i64.wrap ((k : Int) - 2) = (k : Int) - 2 := by rw [IntKind.wrap_i64]; omega
          have u7 : IntKind.i64.wrap ((k : Int) - 7) = (k : Int) - 7 := by rw [IntKind.wrap_i64]; omega
          have u16 : IntKind.i64.wrap ((k : Int) - 16) = (k : Int) - 16 := by rw [IntKind.wrap_i64]; omega
          have p15 : 0 ≤ (k : Int) - 15 := by omega
          have p2 : 0 ≤ (k : Int) - 2 := by omega
          have p7 : 0 ≤ (k : Int) - 7 := by omega
          have p16 : 0 ≤ (k : Int) - 16 := by omega
          have q15 : (k : Int) - 15 < 64 := by omega
          have q2 : (k : Int) - 2 < 64 := by omega
          have q7 : (k : Int) - 7 < 64 := by omega
          have q16 : (k : Int) - 16 < 64 := by omega
          have t15 : ((k : Int) - 15).toNat = k - 15 := by omega
          have t2 : ((k : Int) - 2).toNat = k - 2 := by omega
          have t7 : ((k : Int) - 7).toNat = k - 7 := by omega
          have t16 : ((k : Int) - 16).toNat = k - 16 := by omega
          clear e15 e2 e7 e16
          rw [decide_eq_false d16]
          go_wp2_with fail
          go_quiet (fail)
          have HCq := Lib.hid (HC.out.drewN nq)
          have cz' : (wr.drewN nq).cell? ⟨g + 2, k - 7, none⟩ = some (.int .u32 z) := cz
          have cv' : (wr.drewN nq).cell? ⟨g + 2, k - 16, none⟩ = some (.int .u32 v) := cv
          have ck' : (wr.drewN nq).cell? ⟨g + 2, k, none⟩ = some (.int .u32 0) := ck
          have fr' : (wr.drewN nq).frozen? ⟨g + 2, k, none⟩ = false := fr
          clear cx cy cz cv ck fr HC
          generalize wr.drewN nq = wq at *
          go_wp2_with fail
          refine wp_region_quiet_tail 29 (by kernel_rfl) (by kernel_rfl) ?_
          simp only [List.take_succ_cons, List.take_zero, List.drop_succ_cons, List.drop_zero]
          repeat (go_big_quiet_step ((go_at_call 71; refine Calls.quiet_of (RefRight_int _ _ ?_ ?_ ?_ _); (first | exact WY.out | exact WX.out); decide; decide)))
          refine wpQuiet_nil ?_
          intro _ hw'
          obtain ⟨nr, hw''⟩ := hw'
          subst hw''
          go_wp2_with fail
          go_meet
          have hx := (HCq.out.drewN nr).setW (by have := HGL.out; omega) k wn
          rw [HWS2.out] at hx
          rw [show (bits BinOp.xor IntKind.u32 (bits BinOp.xor IntKind.u32 (rr y 17) (rr y 19)) (y / 1024) + z + bits BinOp.xor IntKind.u32 (bits BinOp.xor IntKind.u32 (rr x 7) (rr x 18)) (x / 8) + v) % 4294967296 = wn by
            rw [HSW.out]; exact (ad4 _ _ _ _).symm]
          exact hx
      case rest =>
        have HC := Lib.hid hcut
        clear hcut
        have HKL := Lib.hid (HRL.out k)
        have HKW := Lib.hid (HRW.out k)
        have HKS2 := Lib.hid (HRS.out k)
        generalize R k = r at *
        have c0 := HC.out.2.2.2.2.1.cell (k := 0) (by rw [HKL.out]; decide)
        have c1 := HC.out.2.2.2.2.1.cell (k := 1) (by rw [HKL.out]; decide)
        have c2 := HC.out.2.2.2.2.1.cell (k := 2) (by rw [HKL.out]; decide)
        have c4 := HC.out.2.2.2.2.1.cell (k := 4) (by rw [HKL.out]; decide)
        have c5 := HC.out.2.2.2.2.1.cell (k := 5) (by rw [HKL.out]; decide)
        have c6 := HC.out.2.2.2.2.1.cell (k := 6) (by rw [HKL.out]; decide)
        have c7 := HC.out.2.2.2.2.1.cell (k := 7) (by rw [HKL.out]; decide)
        have ck := HC.out.2.2.2.1.cell (k := k) (by rw [length_shK]; omega)
        have cw := HC.out.2.2.1.cell (k := k) (by rw [length_wrow blk (by omega)]; omega)
        rw [it_wrow blk (Nat.lt_succ_self k)] at cw
        have W0 := Lib.hid (HKW.out.at_ 0)
        have W4 := Lib.hid (HKW.out.at_ 4)
        have HT1 := Lib.hid (shT1_eq (it shK k) (swd blk k) r)
        have HT2 := Lib.hid (shT2_eq r)
        generalize it r 0 = x0 at *
        generalize it r 1 = x1 at *
        generalize it r 2 = x2 at *
        generalize it r 4 = x4 at *
        generalize it r 5 = x5 at *
        generalize it r 6 = x6 at *
        generalize it r 7 = x7 at *
        have hw0 := W0.out.1
        have hw0' := W0.out.2
        have hw4 := W4.out.1
        have hw4' := W4.out.2
        go_wp2_with fail
        go_quiet ((go_at_call 71; refine Calls.quiet_of (RefRight_int _ _ ?_ ?_ ?_ _); (first | exact W4.out | exact W0.out); decide; decide))
        have HCq := Lib.hid (HC.out.drewN nq)
        have c0' : (wc.drewN nq).cell? ⟨hq + 1, 0, none⟩ = some (.int .u32 x0) := c0
        clear c0 c1 c2 c4 c5 c6 c7 ck cw HC
        rw [HT1.out]
        generalize wc.drewN nq = wq at *
        go_wp2_with fail
        go_quiet ((go_at_call 71; refine Calls.quiet_of (RefRight_int _ _ ?_ ?_ ?_ _); (first | exact W4.out | exact W0.out); decide; decide))
        have HCr := Lib.hid (HCq.out.drewN nq)
        clear HCq c0'
        generalize wq.drewN nq = wz at *
        rw [HT2.out]
        have HRD := Lib.hid (shv_round r (it shK k) (swd blk k))
        have HW0 := Lib.hid (show CSt w wz g hq s (wrow blk (k + 1)) (shv r 7) by rw [shv_seven HKL.out]; exact HCr.out)
        clear HCr HT1 HT2 W0 W4 hw0 hw0' hw4 hw4'
        generalize shT1 (it shK k) (swd blk k) r = T1 at *
        generalize shT2 r = T2 at *
        go_wp2_with fail
        go_loopw [16] (fun i wx => ∃ j : Nat, j ≤ 7 ∧ i = .int .i64 (j : Int) ∧ CSt w wx g hq s (wrow blk (k + 1)) (shv r j)) (fun i _ => (intOf i).toNat)
        case atStart => exact ⟨7, by omega, rfl, HW0.out⟩
        case round =>
          obtain ⟨j, hj, rfl, hc⟩ := hrel
          have HCj := Lib.hid hc
          clear hc HW0
          by_cases hj0 : 0 < j
          · have dj : (0 : Int) < (j : Int) := by omega
            have cj := HCj.out.2.2.2.2.1.cell (k := j - 1) (by rw [length_shv]; omega)
            rw [it_shv r j (by omega), if_neg (by omega)] at cj
            have cjj := HCj.out.2.2.2.2.1.cell (k := j) (by rw [length_shv]; omega)
            have fr := HCj.out.2.2.2.2.1.free j
            have u1 : IntKind.i64.wrap ((j : Int) - 1) = (j : Int) - 1 := by rw [IntKind.wrap_i64]; omega
            have t1 : ((j : Int) - 1).toNat = j - 1 := by omega
            have p1 : 0 ≤ (j : Int) - 1 := by omega
            have q1 : (j : Int) - 1 < 8 := by omega
            have q2 : (j : Int) < 8 := by omega
            go_wp2_with fail
            refine ⟨⟨j - 1, by omega, by rw [show ((j - 1 : Nat) : Int) = (j : Int) - 1 by omega], ?_⟩, by simp [intOf]; omega⟩
            have hx := HCj.out.setV (by have := HGL.out; omega) j (it r (j - 1))
            rw [shv_step HKL.out (by omega) (by omega)] at hx
            exact hx
          · obtain rfl : j = 0 := by omega
            have d4 := HCj.out.2.2.2.2.1.cell (k := 4) (by rw [length_shv]; decide)
            rw [show it (shv r 0) 4 = it r 3 from rfl] at d4
            have d0 := HCj.out.2.2.2.2.1.cell (k := 0) (by rw [length_shv]; decide)
            have f4 := HCj.out.2.2.2.2.1.free 4
            have f0 := HCj.out.2.2.2.2.1.free 0
            go_wp2_with fail
            refine ⟨⟨k + 1, by omega, by go_num, ?_⟩, by simp [intOf]; omega⟩
            rw [HKS2.out]
            have hx := (HCj.out.setV (by have := HGL.out; omega) 4 (ad (it r 3) T1)).setV (by have := HGL.out; omega) 0 (ad T1 T2)
            rw [HRD.out] at hx
            exact hx
    · obtain rfl : k = 64 := by omega
      have HLR := Lib.hid (HRL.out 64)
      have HA0 := Lib.hid (show CSt w wr g hq (adv s (R 64) 0) (wrow blk 64) (R 64) by rw [adv_zero HSS.out]; exact HC.out)
      clear HC
      generalize R 64 = r at *
      simp only [Int.cast_ofNat_Int]
      go_wp2_with fail
      go_loopw [17] (fun i wx => ∃ j : Nat, j ≤ 8 ∧ i = .int .i64 (j : Int) ∧ CSt w wx g hq (adv s r j) (wrow blk 64) r) (fun i _ => 8 - (intOf i).toNat)
      case atStart => exact ⟨0, by omega, rfl, HA0.out⟩
      case round =>
        obtain ⟨j, hj, rfl, hc⟩ := hrel
        have HCj := Lib.hid hc
        clear hc HA0
        by_cases hj8 : j < 8
        · have dj : (j : Int) < 8 := by omega
          have cs := HCj.out.1.cell (k := j) (by rw [length_adv]; omega)
          rw [it_adv s r hj8] at cs
          have cv := HCj.out.2.2.2.2.1.cell (k := j) (by rw [HLR.out]; omega)
          have fr := HCj.out.1.free j
          go_wp2_with fail
          go_still_tail 9, (by kernel_rfl)
          change wpList _ _ _ _ _ (World.drew _)
          go_wp2
          refine ⟨⟨j + 1, by omega, by go_num, ?_⟩, by simp [intOf]; omega⟩
          have hx := (HCj.out.setS (by have := HGL.out; omega) j (ad (it s j) (it r j))).drewN 1
          rw [adv_step s r hj8] at hx
          exact hx
        · obtain rfl : j = 8 := by omega
          rw [adv_eight, HRF.out] at HCj
          have HRR := Lib.hid HCj.out.1
          have hst := HCj.out.2.1.store (r := shComp s blk) rfl
          have HF := Lib.hid ((HCj.out.2.1.setRow (r := shComp s blk)).load8 rfl)
          have HBF := Lib.hid (below_setRow HCj.out.2.2.2.2.2 (show g ≤ g + 1 by omega) (wv (shComp s blk)).toArray)
          have hxs : (wv (shComp s blk)).toArray.size = 8 := rfl
          have HLN := Lib.hid (show (shComp s blk).length = 8 from rfl)
          generalize hY : (wv (shComp s blk)).toArray = Y at *
          have HY := Lib.hid hY
          have hye : ¬ Y = #[] := by intro h; rw [h] at hxs; cases hxs
          clear hY
          go_wp2_with (refine wl_load8 (.tmp 2) HRR.out HLN.out rfl rfl rfl Y HY.out ?_)
          (try simp only [Exit.inBlock, Exit.then])
          refine bodyPost_ret (v := .agg Y) (results_cellW rfl _ _ _ ⟨g + 1, 0, none⟩ _ rfl HF.out) rfl ?_
          exact ⟨by rw [HY.out], by rw [HG.out]; exact HBF.out⟩
end Go.Proofs.Ytkaakgabhhkggaa
