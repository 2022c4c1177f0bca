/-
  Contract of chacha.Block: 64 bytes of the stream in new memory, or a refusal. No conditions but the sizes that a slice can have.
-/
import Derived.Test.YtkaakgabhhkggaaChaIni
namespace Go.Proofs.Ytkaakgabhhkggaa
open Go Go.RowKit Go.Sh

/-- the four bytes of a word as the walk lays them -/
theorem four_cells (x y : Int) : [Value.int .u8 ((x + y) % 256), .int .u8 ((x + y) % 4294967296 / 256 % 256), .int .u8 ((x + y) % 4294967296 / 65536 % 256), .int .u8 ((x + y) % 4294967296 / 16777216)] = bv (fourB (ad x y)) := by
  have h := ad_w x y
  have e0 : (x + y) % 256 = ad x y % 256 := by unfold ad; omega
  have e1 : (x + y) % 4294967296 = ad x y := rfl
  rw [e0, e1]
  unfold W32 at h
  generalize ad x y = z at *
  obtain ⟨n, rfl⟩ := Int.eq_ofNat_of_zero_le h.1
  simp [fourB, putB, rowf, bv, List.range, List.range.loop, pc_nat]
  omega
def blkE (n m : Nat) : Int := if n = 32 ∧ m = 12 then 0 else 2
def blkL (key nonce : List UInt8) (n m : Nat) (ctr : Int) : List UInt8 := if n = 32 ∧ m = 12 then blk key nonce ctr else []

set_option maxRecDepth 100000 in
theorem index16 (w : World) (Y : Array Value) (k : Nat) (v : Value) (hk : k < 16) (h : Y[k]? = some v) : (Instr.index 103 (.agg Y) (.int .i64 (k : Int))).run Try.prog w = .ok v w := by
  have h0 : (Try.prog.info? 35).map (·.size) = some 1 := by kernel_rfl
  obtain ⟨i, hi, hz⟩ := Option.map_eq_some_iff.1 h0
  simp [Instr.index, run_underlying Try.underlying103, asIntOf, hk, part, isAgg, run_underlying Try.underlying35, sizeOf, typeInfo, hi, hz, h]

set_option maxRecDepth 100000 in
set_option maxHeartbeats 4000000 in
theorem Block_ok (A A' : Option Addr) (c c' : Nat) (key nonce : List UInt8) (ctr : Int) (w : World) (B : Nat) (hk : RB w B A 32 key) (hn : RB w B A' 12 nonce) (hB : B ≤ w.heap.size) (hc : W32 ctr) :
    Calls Try.prog 60 #[.slice A 32 c, .slice A' 12 c', .int .u32 ctr] w (RetBE w (blk key nonce ctr) 0) := by
  have HIN := Lib.hid (initial_any A A' c c' key nonce ctr w B hk hn hB)
  obtain ⟨s0, hs0⟩ : ∃ s0, ini key nonce ctr = s0 := ⟨_, rfl⟩
  have hl0 : s0.length = 16 := by rw [← hs0]; exact length_ini _ _ _
  have HW0 := Lib.hid (show AW s0 by rw [← hs0]; exact AW.ini key nonce hc)
  have HBK := Lib.hid (show blk key nonce ctr = outB (rnd s0 80) s0 16 by rw [← hs0]; rfl)
  rw [hs0] at HIN
  obtain ⟨rf, hrf⟩ : ∃ rf, rnd s0 = rf := ⟨_, rfl⟩
  have HF8 := Lib.hid (rnd_eight s0)
  have HF0 := Lib.hid (show rnd s0 0 = s0 from rfl)
  have HFW := Lib.hid (HW0.out.rnd)
  have HFL := Lib.hid (fun i => (length_rnd s0 i).trans hl0)
  rw [hrf] at HBK HF8 HF0 HFW HFL
  clear hrf
  have hzero := zero16
  have HST := Lib.hid (fun W : World => store16_new W (r := s0) (s := pad16 []) hl0 rfl)
  have HNW := Lib.hid (fun W : World => Row16.new W hl0)
  have hzs : (wv (pad16 [])).toArray.size = 16 := rfl
  have hxs : (wv s0).toArray.size = 16 := by rw [List.size_toArray, length_wv, hl0]
  have HL0 := Lib.hid hl0
  clear hk hn hs0 hl0 hc
  generalize hzc : (wv (pad16 [])).toArray = zc at *
  generalize hX : (wv s0).toArray = X at *
  have HX := Lib.hid hX
  have hze : ¬ zc = #[] := by intro h; rw [h] at hzs; cases hzs
  have hxe : ¬ X = #[] := by intro h; rw [h] at hxs; cases hxs
  clear hX hzc
  go_enter Try.func60, Try.ntmps60
  go_wp2_with fail
  refine HIN.out.mono ?_
  rintro e w1 ⟨rfl, hb1⟩
  have HB1 := Lib.hid hb1
  have hst1 := HST.out w1
  have hs1 : (w1.alloc (.cells X 103)).heap.size = w1.heap.size + 1 := by simp
  have hst2 := HST.out (w1.alloc (.cells X 103))
  have hr1 := HNW.out w1
  have hr2 := HNW.out (w1.alloc (.cells X 103))
  rw [hs1] at hst2 hr2
  have HR1a := Lib.hid hr1
  have hsz := hb1.size
  have HR1 := Lib.hid (hr1.below ((Below.refl (w1.heap.size + 1) (w1.alloc (.cells X 103))).alloc (by rw [hs1]; exact Nat.le_refl _) (.cells X 103)) (Nat.lt_succ_self _))
  have HR2 := Lib.hid hr2
  have HB := Lib.hid ((hb1.alloc hsz (.cells X 103)).alloc (by rw [hs1]; omega) (.cells X 103))
  have hs2 : ((w1.alloc (.cells X 103)).alloc (.cells X 103)).heap.size = w1.heap.size + 2 := by simp
  have HS2 := Lib.hid hs2
  clear hs1 hs2 hr1 hr2 hb1 HST HNW HIN
  go_wp2_with (refine wl_load16 (.tmp 8) HR1a.out rfl rfl rfl X HX.out ?_)
  clear hst1 hst2 HR1a hzs hze hxs hxe hzero HB1
  generalize (w1.alloc (.cells X 103)).alloc (.cells X 103) = w2 at *
  generalize hg1 : w1.heap.size = g1 at *
  clear hg1 w1
  generalize hg : w.heap.size = g at *
  have HG := Lib.hid hg
  clear hg
  go_loopw [26] (fun i wr => ∃ k : Nat, k ≤ 10 ∧ i = .int .i64 k ∧ Row16 wr g1 s0 ∧ Row16 wr (g1 + 1) (rf (8 * k)) ∧ Below g w wr ∧ wr.heap.size = g1 + 2) (fun i _ => 10 - (intOf i).toNat)
  case atStart => exact ⟨0, by omega, rfl, HR1.out, by rw [Nat.mul_zero, HF0.out]; exact HR2.out, HB.out, HS2.out⟩
  case round =>
    obtain ⟨k, hk, rfl, r1, r2, hb, hs⟩ := hrel
    have R0 := Lib.hid r1
    have Q0 := Lib.hid r2
    have B0 := Lib.hid hb
    have S0 := Lib.hid hs
    have W0 := Lib.hid (HFW.out (8 * k))
    clear r1 r2 hb hs HR1 HR2 HB HS2
    by_cases hlt : k < 10
    · have hR := Lib.hid (HF8.out k)
      obtain ⟨s1, hs1⟩ : ∃ s1, rf (8 * k) = s1 := ⟨_, rfl⟩
      rw [hs1] at Q0 W0 hR
      clear hs1
      go_wp2_with fail
      refine (round_any wr (g1 + 1) 0 4 8 12 _ Q0.out W0.out (by decide) (by decide) (by decide) (by decide) (by decide) (by decide) (by decide) (by decide) (by decide) (by decide)).mono ?_
      rintro e v1 ⟨rfl, r2, hg, hs⟩
      have R1 := Lib.hid (R0.out.grown hg (by simp))
      have Q1 := Lib.hid r2
      have B1 := Lib.hid (B0.out.grown hg (by rw [S0.out]; omega) (by intro x hx; simp at hx; omega))
      have S1 := Lib.hid (hs.trans S0.out)
      have W1 := Lib.hid (W0.out.qr 0 4 8 12)
      clear r2 hg hs R0 Q0 B0 S0 W0
      go_wp2_with fail
      refine (round_any v1 (g1 + 1) 1 5 9 13 _ Q1.out W1.out (by decide) (by decide) (by decide) (by decide) (by decide) (by decide) (by decide) (by decide) (by decide) (by decide)).mono ?_
      rintro e v2 ⟨rfl, r2, hg, hs⟩
      have R2 := Lib.hid (R1.out.grown hg (by simp))
      have Q2 := Lib.hid r2
      have B2 := Lib.hid (B1.out.grown hg (by rw [S1.out]; omega) (by intro x hx; simp at hx; omega))
      have S2 := Lib.hid (hs.trans S1.out)
      have W2 := Lib.hid (W1.out.qr 1 5 9 13)
      clear r2 hg hs R1 Q1 B1 S1 W1
      go_wp2_with fail
      refine (round_any v2 (g1 + 1) 2 6 10 14 _ Q2.out W2.out (by decide) (by decide) (by decide) (by decide) (by decide) (by decide) (by decide) (by decide) (by decide) (by decide)).mono ?_
      rintro e v3 ⟨rfl, r2, hg, hs⟩
      have R3 := Lib.hid (R2.out.grown hg (by simp))
      have Q3 := Lib.hid r2
      have B3 := Lib.hid (B2.out.grown hg (by rw [S2.out]; omega) (by intro x hx; simp at hx; omega))
      have S3 := Lib.hid (hs.trans S2.out)
      have W3 := Lib.hid (W2.out.qr 2 6 10 14)
      clear r2 hg hs R2 Q2 B2 S2 W2
      go_wp2_with fail
      refine (round_any v3 (g1 + 1) 3 7 11 15 _ Q3.out W3.out (by decide) (by decide) (by decide) (by decide) (by decide) (by decide) (by decide) (by decide) (by decide) (by decide)).mono ?_
      rintro e v4 ⟨rfl, r2, hg, hs⟩
      have R4 := Lib.hid (R3.out.grown hg (by simp))
      have Q4 := Lib.hid r2
      have B4 := Lib.hid (B3.out.grown hg (by rw [S3.out]; omega) (by intro x hx; simp at hx; omega))
      have S4 := Lib.hid (hs.trans S3.out)
      have W4 := Lib.hid (W3.out.qr 3 7 11 15)
      clear r2 hg hs R3 Q3 B3 S3 W3
      go_wp2_with fail
      refine (round_any v4 (g1 + 1) 0 5 10 15 _ Q4.out W4.out (by decide) (by decide) (by decide) (by decide) (by decide) (by decide) (by decide) (by decide) (by decide) (by decide)).mono ?_
      rintro e v5 ⟨rfl, r2, hg, hs⟩
      have R5 := Lib.hid (R4.out.grown hg (by simp))
      have Q5 := Lib.hid r2
      have B5 := Lib.hid (B4.out.grown hg (by rw [S4.out]; omega) (by intro x hx; simp at hx; omega))
      have S5 := Lib.hid (hs.trans S4.out)
      have W5 := Lib.hid (W4.out.qr 0 5 10 15)
      clear r2 hg hs R4 Q4 B4 S4 W4
      go_wp2_with fail
      refine (round_any v5 (g1 + 1) 1 6 11 12 _ Q5.out W5.out (by decide) (by decide) (by decide) (by decide) (by decide) (by decide) (by decide) (by decide) (by decide) (by decide)).mono ?_
      rintro e v6 ⟨rfl, r2, hg, hs⟩
      have R6 := Lib.hid (R5.out.grown hg (by simp))
      have Q6 := Lib.hid r2
      have B6 := Lib.hid (B5.out.grown hg (by rw [S5.out]; omega) (by intro x hx; simp at hx; omega))
      have S6 := Lib.hid (hs.trans S5.out)
      have W6 := Lib.hid (W5.out.qr 1 6 11 12)
      clear r2 hg hs R5 Q5 B5 S5 W5
      go_wp2_with fail
      refine (round_any v6 (g1 + 1) 2 7 8 13 _ Q6.out W6.out (by decide) (by decide) (by decide) (by decide) (by decide) (by decide) (by decide) (by decide) (by decide) (by decide)).mono ?_
      rintro e v7 ⟨rfl, r2, hg, hs⟩
      have R7 := Lib.hid (R6.out.grown hg (by simp))
      have Q7 := Lib.hid r2
      have B7 := Lib.hid (B6.out.grown hg (by rw [S6.out]; omega) (by intro x hx; simp at hx; omega))
      have S7 := Lib.hid (hs.trans S6.out)
      have W7 := Lib.hid (W6.out.qr 2 7 8 13)
      clear r2 hg hs R6 Q6 B6 S6 W6
      go_wp2_with fail
      refine (round_any v7 (g1 + 1) 3 4 9 14 _ Q7.out W7.out (by decide) (by decide) (by decide) (by decide) (by decide) (by decide) (by decide) (by decide) (by decide) (by decide)).mono ?_
      rintro e v8 ⟨rfl, r2, hg, hs⟩
      have R8 := Lib.hid (R7.out.grown hg (by simp))
      have Q8 := Lib.hid r2
      have B8 := Lib.hid (B7.out.grown hg (by rw [S7.out]; omega) (by intro x hx; simp at hx; omega))
      have S8 := Lib.hid (hs.trans S7.out)
      have W8 := Lib.hid (W7.out.qr 3 4 9 14)
      clear r2 hg hs R7 Q7 B7 S7 W7
      go_wp2_with fail
      exact ⟨⟨k + 1, by omega, by go_num, R8.out, by rw [hR.out]; exact Q8.out, B8.out, S8.out⟩, by simp [intOf]; omega⟩
    · obtain rfl : k = 10 := by omega
      simp only [Int.cast_ofNat_Int]
      have HFF := Lib.hid (HFL.out 80)
      have HFV := Lib.hid (HFW.out 80)
      obtain ⟨sf, hsf⟩ : ∃ sf, rf 80 = sf := ⟨_, rfl⟩
      rw [show 8 * 10 = 80 from rfl, hsf] at Q0 W0
      rw [hsf] at HBK HFF HFV
      clear hsf
      obtain ⟨Y, hY⟩ : ∃ Y, (wv sf).toArray = Y := ⟨_, rfl⟩
      have HY := Lib.hid hY
      clear hY
      go_wp2_with (at_make; refine wl_make0 TB rfl (.const (.int .i64 0)) (.const (.int .i64 64)) rfl .i64 .i64 _ rfl rfl 64 rfl (by omega) (by omega) (g1 + 2) (by rw [S0.out]; omega) ?m5)
      case m5 =>
        intro w4 hown hgr hlt4
        rw [S0.out] at hown hlt4 ⊢
        have O4 := Lib.hid hown
        have R4 := Lib.hid (R0.out.grown hgr (by simp))
        have Q4 := Lib.hid (Q0.out.grown hgr (by simp))
        have B4 := Lib.hid (B0.out.grown hgr (by rw [S0.out]; omega) (by simp))
        clear hown hgr R0 Q0 B0 S0
        go_wp2_with (refine wl_load16 (.tmp 9) Q4.out rfl rfl rfl Y HY.out ?_)
        go_loopw [10, 39] (fun v i wr => ∃ (k : Nat) (A2 : Option Addr) (c2 : Nat), k ≤ 16 ∧ i = .int .i64 k ∧ v = .slice A2 (4 * k) c2 ∧ wr.ownsRow (g1 + 2) 5 1 (.slice A2 (4 * k) c2) (4 * k) (bv (outB sf s0 k)) ∧ Row16 wr g1 s0 ∧ Below g w wr ∧ g1 + 2 ≤ wr.heap.size) (fun _ i _ => 16 - (intOf i).toNat)
        case atStart => exact ⟨0, _, _, by omega, rfl, rfl, O4.out, R4.out, B4.out, by omega⟩
        case round =>
          obtain ⟨k, A2, c2, hk, rfl, rfl, o, r, b, hsz5⟩ := hrel
          have O5 := Lib.hid o
          have R5 := Lib.hid r
          have B5 := Lib.hid b
          clear o r b O4 R4 Q4 B4
          by_cases hlt : k < 16
          · have hi : (k : Int) < 16 := by omega
            have hYk : Y[k]? = some (.int .u32 (it sf k)) := by rw [← HY.out, List.getElem?_toArray, wv_at sf k (by rw [HFF.out]; exact hlt)]
            have hidx := index16 wr Y k _ hlt hYk
            clear hYk
            have hq := R5.out.cell (k := k) hlt
            obtain ⟨x1, x2⟩ := HFV.out.at_ k
            obtain ⟨y1, y2⟩ := HW0.out.at_ k
            generalize hx : it sf k = x at *
            generalize hy : it s0 k = y at *
            have HXE := Lib.hid hx
            have HYE := Lib.hid hy
            clear hx hy
            go_wp2_with (at_builtin; refine wl_app TB rfl (.tmp 48) (.tmp 60) rfl _ rfl _ 4 4 rfl (g1 + 2) (4 * k) _ (O5.out.alloc _) (wr.heap.size + 1) (bv (fourB (ad x y))) ?h2 (bv_one _) ?h3 ?h4 ?h5 ?h6)
            case h2 => exact RB.lit wr _ (fourB (ad x y)) _ (four_cells x y) 4 (length_fourB _)
            case h3 => omega
            case h4 => omega
            case h5 =>
              simp
              omega
            case h6 =>
              intro A3 c3 w3 hown hgr hat
              have h4 : 4 * k + 4 = 4 * (k + 1) := by omega
              rw [← bv_append, ← HXE.out, ← HYE.out, ← outB_succ, h4] at hown
              rw [h4]
              have O6 := Lib.hid hown
              have hob := own_drop O5.out
              have R6 := Lib.hid ((R5.out.below (OBB_alloc_help _ (Nat.le_refl _)) R5.out.lt).grown hgr (fun e => by have := hob g1 e; omega))
              have B6 := Lib.hid ((B5.out.alloc (by omega) _).grown hgr (by simp; omega) (fun x hx => by have := hob x hx; omega))
              have hs6 := hgr.size
              have hs7 : g1 + 2 ≤ w3.heap.size := by
                simp at hs6
                omega
              clear hown hgr hat h4 hob hs6 O5 R5 B5 hidx hq
              go_wp2_with fail
              exact ⟨⟨k + 1, A3, c3, by omega, by go_num, rfl, O6.out, R6.out, B6.out, hs7⟩, by simp [intOf]; omega⟩
          · obtain rfl : k = 16 := by omega
            simp only [Int.cast_ofNat_Int]
            go_wp2_with fail
            go_ret2
            refine ⟨A2, 64, c2, rfl, length_blk _ _ _, ?_, ?_⟩
            · rw [HBK.out, HG.out]
              exact own_base O5.out (by omega)
            · rw [HG.out]
              exact B5.out

set_option maxRecDepth 100000 in
theorem Block_any (A A' : Option Addr) (n m c c' : Nat) (key nonce : List UInt8) (ctr : Int) (w : World) (B : Nat) (hk : RB w B A n key) (hn : RB w B A' m nonce) (hB : B ≤ w.heap.size) (hc : W32 ctr) :
    Calls Try.prog 60 #[.slice A n c, .slice A' m c', .int .u32 ctr] w (RetBE w (blkL key nonce n m ctr) (blkE n m)) := by
  by_cases h : n = 32 ∧ m = 12
  · unfold blkL blkE
    rw [if_pos h, if_pos h]
    obtain ⟨rfl, rfl⟩ := h
    exact Block_ok A A' c c' key nonce ctr w B hk hn hB hc
  · unfold blkL blkE
    rw [if_neg h, if_neg h]
    clear hk hn
    by_cases h1 : n = 32
    · have h2 : ((m : Int) != 12) = true := by rw [bne_iff_ne]; omega
      subst h1
      go_enter Try.func60, Try.ntmps60
      go_wp2
      go_ret2
      exact RetBE.nil w 2
    · have h2 : ((n : Int) != 32) = true := by rw [bne_iff_ne]; omega
      clear h
      go_enter Try.func60, Try.ntmps60
      go_wp2
      go_ret2
      exact RetBE.nil w 2
end Go.Proofs.Ytkaakgabhhkggaa
