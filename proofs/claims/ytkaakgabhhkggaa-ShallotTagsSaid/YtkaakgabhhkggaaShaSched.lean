/-
  Contract of sha.schedule: the 64 words of a block. Conditions: the block has 64 bytes.
-/
import Derived.Test.YtkaakgabhhkggaaSha
import Derived.StillTailTactics
namespace Go.Proofs.Ytkaakgabhhkggaa
open Go Go.RowKit Go.Sh

theorem RowW.store {w : World} {ty : TypeId} {p : Nat} {s : List Int} (h : RowW w ty p s) {r : List Int} (hr : r.length = s.length) : (storeCells ⟨p, 0, none⟩ (wv r).toArray.toList).run Try.prog w = .ok () (w.setRow p (wv r).toArray) :=
  run_cells_whole w p _ _ _ h (by rw [h.size, List.size_toArray, length_wv, hr]) (wv_one r)
theorem RowW.setRow {w : World} {ty : TypeId} {p : Nat} {s : List Int} (h : RowW w ty p s) {r : List Int} : RowW (w.setRow p (wv r).toArray) ty p r := setRow_heap w p _ _ _ _ h
theorem wl_load64 {w : World} {p : Nat} {s : List Int} {ops : Array Oper} {rest : List Oper} {op : Oper} {a : Act} {Q : Exit → Act → World → Prop} (x : Operand) (h : RowW w 90 p s) (hs : s.length = 64) (hw : Region.wanted op (yielded ops a.tmps) = true) (ho : op.op = .load 90 x)
    (hx : a.eval x = .pointer (some ⟨p, 0, none⟩)) (X : Array Value) (hX : (wv s).toArray = X) (hk : wpList Try.prog ops Q rest (a.put op.dst (.agg X)) w) : wpList Try.prog ops Q (op :: rest) a w :=
  wl_load_mid hw _ x ho p 0 hx (wv s) _ (blk_range h) Try.underlying90 rfl (by rw [length_wv, hs]; exact info64) (by rw [hX]; exact hk)

/-- the word at a place, the greatest byte first -/
def beW (l : List UInt8) (a : Nat) : Int := bits .or .u32 (bits .or .u32 (bits .or .u32 (bt l a * 16777216) (bt l (a + 1) * 65536)) (bt l (a + 2) * 256)) (bt l (a + 3))
theorem beW_w (l : List UInt8) (a : Nat) : W32 (beW l a) := bounds_u32 (wf_bits _ _ _ _)
def beWs (l : List UInt8) (m : Nat) : List Int := (List.range m).map fun i => beW l (4 * i)
theorem length_beWs (l : List UInt8) (m : Nat) : (beWs l m).length = m := by simp [beWs]
theorem beWs_succ (l : List UInt8) (m : Nat) : beWs l (m + 1) = beWs l m ++ [beW l (4 * m)] := by simp [beWs, List.range_succ]
theorem AW.beWs (l : List UInt8) (m : Nat) : AW (beWs l m) := by
  intro x hx
  obtain ⟨i, _, rfl⟩ := List.mem_map.1 hx
  exact beW_w _ _
def sg0 (x : Int) : Int := xo (xo (rr x 7) (rr x 18)) (x / 8)
def sg1 (x : Int) : Int := xo (xo (rr x 17) (rr x 19)) (x / 1024)
/-- the next word of the schedule -/
def shNew (s : List Int) : Int := ad (ad (ad (sg1 (it s (s.length - 2))) (it s (s.length - 7))) (sg0 (it s (s.length - 15)))) (it s (s.length - 16))
def shExt (s : List Int) : Nat → List Int
  | 0 => s
  | n + 1 => shExt s n ++ [shNew (shExt s n)]
theorem length_shExt (s : List Int) : ∀ n, (shExt s n).length = s.length + n
  | 0 => rfl
  | n + 1 => by rw [shExt, List.length_append, length_shExt s n]; rfl
theorem AW.shExt {s : List Int} (h : AW s) : ∀ n, AW (shExt s n)
  | 0 => h
  | n + 1 => (AW.shExt h n).append (fun x hx => by rw [List.mem_singleton.1 hx]; exact ad_w _ _)
def shSched (l : List UInt8) : List Int := shExt (beWs l 16) 48
theorem length_shSched (l : List UInt8) : (shSched l).length = 64 := by rw [shSched, length_shExt, length_beWs]
theorem AW.shSched (l : List UInt8) : AW (shSched l) := (AW.beWs l 16).shExt 48
/-- filled up with noughts to 64 words -/
def padw (s : List Int) : List Int := s ++ zw (64 - s.length)
theorem length_padw {s : List Int} (h : s.length ≤ 64) : (padw s).length = 64 := by simp [padw, zw]; omega
theorem padw_set {s : List Int} {n : Nat} (hn : s.length = n) (h : n < 64) (x : Int) : (padw s).set n x = padw (s ++ [x]) := by
  subst hn
  unfold padw zw
  rw [List.set_append_right _ _ (Nat.le_refl _), Nat.sub_self]
  obtain ⟨m, hm⟩ : ∃ m, 64 - s.length = m + 1 := ⟨63 - s.length, by omega⟩
  have e : 64 - (s ++ [x]).length = m := by simp; omega
  rw [hm, e, List.replicate_succ, List.set_cons_zero, List.append_assoc]
  rfl
theorem padw_all {s : List Int} (h : s.length = 64) : padw s = s := by unfold padw; rw [h]; simp [zw]
theorem padw_at {s : List Int} {k : Nat} (h : k < s.length) : it (padw s) k = it s k := by
  unfold it padw
  rw [List.getD_eq_getElem?_getD, List.getD_eq_getElem?_getD, List.getElem?_append_left h]

set_option maxRecDepth 100000 in
set_option maxHeartbeats 4000000 in
theorem schedule_any (A : Option Addr) (c : Nat) (blk : List UInt8) (w : World) (B : Nat) (hr : RB w B A 64 blk) (hB : B ≤ w.heap.size) :
    Calls Try.prog 55 #[.slice A 64 c] w (fun e w' => e = .returned (.agg (wv (shSched blk)).toArray) ∧ Below w.heap.size w w') := by
  have HR := Lib.hid hr
  clear hr
  have hzero := zero64
  have hzs : (wv (zw 64)).toArray.size = 64 := rfl
  have HZ := Lib.hid (fun W : World => RowW.new W 90 (zw 64))
  have hs1 : (w.alloc (.cells (wv (zw 64)).toArray 90)).heap.size = w.heap.size + 1 := by simp
  have hr0 := HZ.out w
  have hr1 := HZ.out (w.alloc (.cells (wv (zw 64)).toArray 90))
  rw [hs1] at hr1
  have HR0 := Lib.hid (hr0.below ((Below.refl (w.heap.size + 1) (w.alloc (.cells (wv (zw 64)).toArray 90))).alloc (by rw [hs1]; exact Nat.le_refl _) (.cells (wv (zw 64)).toArray 90)) (Nat.lt_succ_self _))
  have HR1 := Lib.hid hr1
  have HB := Lib.hid (((Below.refl w.heap.size w).alloc (Nat.le_refl _) (.cells (wv (zw 64)).toArray 90)).alloc (by rw [hs1]; omega) (.cells (wv (zw 64)).toArray 90))
  clear hs1 hr0 hr1 HZ
  have HPZ := Lib.hid (show padw (beWs blk 0) = zw 64 from rfl)
  generalize hzc : (wv (zw 64)).toArray = zc at *
  have hze : ¬ zc = #[] := by intro h; rw [h] at hzs; cases hzs
  go_enter Try.func55, Try.ntmps55
  go_wp2_with fail
  clear hzs hze hzero hzc
  generalize (w.alloc (.cells zc 90)).alloc (.cells zc 90) = w2 at *
  generalize hg : w.heap.size = g at *
  have HG := Lib.hid hg
  clear hg
  go_loopw [4] (fun i wr => ∃ k : Nat, k ≤ 16 ∧ i = .int .i64 k ∧ RowW wr 90 (g + 1) (padw (beWs blk k)) ∧ RowW wr 90 g (zw 64) ∧ Below g w wr) (fun i _ => 16 - (intOf i).toNat)
  case atStart => exact ⟨0, by omega, rfl, by rw [HPZ.out]; exact HR1.out, HR0.out, HB.out⟩
  case round =>
    obtain ⟨k, hk, rfl, r1, r0, hb⟩ := hrel
    have R1 := Lib.hid r1
    have R0 := Lib.hid r0
    have HBr := Lib.hid hb
    clear r1 r0 hb
    by_cases hlt : k < 16
    · have HRr := Lib.hid (HR.out.below (HBr.out.mono (by omega)))
      obtain ⟨ad, rfl, _, c0⟩ := HRr.out.at_ (k := 4 * k) (by omega)
      obtain ⟨ad1, h1, _, c1⟩ := HRr.out.at_ (k := 4 * k + 1) (by omega)
      obtain ⟨ad2, h2, _, c2⟩ := HRr.out.at_ (k := 4 * k + 2) (by omega)
      obtain ⟨ad3, h3, _, c3⟩ := HRr.out.at_ (k := 4 * k + 3) (by omega)
      obtain rfl := Option.some.inj h1
      obtain rfl := Option.some.inj h2
      obtain rfl := Option.some.inj h3
      clear h1 h2 h3
      rw [show ad.add (4 * k + 1) = ⟨ad.block, ad.off + (4 * k + 1), none⟩ by rw [Addr.add, if_neg (by omega)]] at c1
      rw [show ad.add (4 * k + 2) = ⟨ad.block, ad.off + (4 * k + 2), none⟩ by rw [Addr.add, if_neg (by omega)]] at c2
      rw [show ad.add (4 * k + 3) = ⟨ad.block, ad.off + (4 * k + 3), none⟩ by rw [Addr.add, if_neg (by omega)]] at c3
      have HW := Lib.hid (show bits .or .u32 (bits .or .u32 (bits .or .u32 (bt blk (4 * k) * 16777216) (bt blk (4 * k + 1) * 65536)) (bt blk (4 * k + 2) * 256)) (bt blk (4 * k + 3)) = beW blk (4 * k) from rfl)
      have b0 := bt_lo blk (4 * k)
      have b1 := bt_lo blk (4 * k + 1)
      have b2 := bt_lo blk (4 * k + 2)
      have b3 := bt_lo blk (4 * k + 3)
      have d0 := bt_hi blk (4 * k)
      have d1 := bt_hi blk (4 * k + 1)
      have d2 := bt_hi blk (4 * k + 2)
      have d3 := bt_hi blk (4 * k + 3)
      generalize bt blk (4 * k) = x0 at *
      generalize bt blk (4 * k + 1) = x1 at *
      generalize bt blk (4 * k + 2) = x2 at *
      generalize bt blk (4 * k + 3) = x3 at *
      have q := R1.out.cell (k := k) (by rw [length_padw (by rw [length_beWs]; omega)]; omega)
      have f := R1.out.free k
      have g0 : (4 : Int) * (k : Int) < 64 := by omega
      have p0 : 0 ≤ (4 : Int) * (k : Int) := by omega
      have u0 : IntKind.i64.wrap ((4 : Int) * (k : Int)) = (4 : Int) * (k : Int) := by rw [IntKind.wrap_i64]; omega
      have t0 : ((4 : Int) * (k : Int)).toNat = 4 * k := by omega
      have g1 : (4 : Int) * (k : Int) + 1 < 64 := by omega
      have p1 : 0 ≤ (4 : Int) * (k : Int) + 1 := by omega
      have u1 : IntKind.i64.wrap ((4 : Int) * (k : Int) + 1) = (4 : Int) * (k : Int) + 1 := by rw [IntKind.wrap_i64]; omega
      have t1 : ((4 : Int) * (k : Int) + 1).toNat = 4 * k + 1 := by omega
      have g2 : (4 : Int) * (k : Int) + 2 < 64 := by omega
      have p2 : 0 ≤ (4 : Int) * (k : Int) + 2 := by omega
      have u2 : IntKind.i64.wrap ((4 : Int) * (k : Int) + 2) = (4 : Int) * (k : Int) + 2 := by rw [IntKind.wrap_i64]; omega
      have t2 : ((4 : Int) * (k : Int) + 2).toNat = 4 * k + 2 := by omega
      have g3 : (4 : Int) * (k : Int) + 3 < 64 := by omega
      have p3 : 0 ≤ (4 : Int) * (k : Int) + 3 := by omega
      have u3 : IntKind.i64.wrap ((4 : Int) * (k : Int) + 3) = (4 : Int) * (k : Int) + 3 := by rw [IntKind.wrap_i64]; omega
      have t3 : ((4 : Int) * (k : Int) + 3).toNat = 4 * k + 3 := by omega
      have i64 : (k : Int) < 64 := by omega
      have j64 : k < 64 := by omega
      have v0 : IntKind.u32.wrap x0 = x0 := by rw [IntKind.wrap_u32]; omega
      have v1 : IntKind.u32.wrap x1 = x1 := by rw [IntKind.wrap_u32]; omega
      have v2 : IntKind.u32.wrap x2 = x2 := by rw [IntKind.wrap_u32]; omega
      have v3 : IntKind.u32.wrap x3 = x3 := by rw [IntKind.wrap_u32]; omega
      have y0 : IntKind.u32.wrap (x0 * 16777216) = x0 * 16777216 := by rw [IntKind.wrap_u32]; omega
      have y1 : IntKind.u32.wrap (x1 * 65536) = x1 * 65536 := by rw [IntKind.wrap_u32]; omega
      have y2 : IntKind.u32.wrap (x2 * 256) = x2 * 256 := by rw [IntKind.wrap_u32]; omega
      go_wp2
      go_still_tail 35, (by kernel_rfl)
      change wpList _ _ _ _ _ (World.drew _)
      go_wp2
      rw [HW.out]
      refine ⟨⟨k + 1, by omega, by go_num, ?_, ?_, ?_⟩, by simp [intOf]; omega⟩
      · have := R1.out.set k (beW blk (4 * k))
        rw [padw_set (length_beWs _ _) (by omega), ← beWs_succ] at this
        exact this
      · exact R0.out.keep (Below.heap_setCell wr ⟨g + 1, k, none⟩ _ g (by simp only; omega))
      · exact (HBr.out.setCell (by simp) _).drew
    · obtain rfl : k = 16 := by omega
      have R1' := Lib.hid (show RowW wr 90 (g + 1) (padw (shExt (beWs blk 16) 0)) from R1.out)
      have HL := Lib.hid (show ∀ m, (shExt (beWs blk 16) m).length = 16 + m from fun m => by rw [length_shExt, length_beWs])
      have HA := Lib.hid (show ∀ m, AW (shExt (beWs blk 16) m) from fun m => (AW.beWs blk 16).shExt m)
      have HS := Lib.hid (show ∀ m, shExt (beWs blk 16) (m + 1) = shExt (beWs blk 16) m ++ [shNew (shExt (beWs blk 16) m)] from fun m => rfl)
      have HF := Lib.hid (show shSched blk = shExt (beWs blk 16) 48 from rfl)
      clear R1
      generalize shExt (beWs blk 16) = ex at *
      simp only [Int.cast_ofNat_Int]
      go_wp2_with fail
      go_loopw [5, 6, 7, 8, 9] (fun i _ _ _ _ wr => ∃ k : Nat, k ≤ 48 ∧ i = .int .i64 (16 + (k : Int)) ∧ RowW wr 90 (g + 1) (padw (ex k)) ∧ RowW wr 90 g (zw 64) ∧ Below g w wr) (fun i _ _ _ _ _ => 64 - (intOf i).toNat)
      case atStart => exact ⟨0, by omega, rfl, R1'.out, R0.out, HBr.out⟩
      case round =>
        obtain ⟨k, hk, rfl, r1, r0, hb⟩ := hrel
        have Q1 := Lib.hid r1
        have Q0 := Lib.hid r0
        have HBq := Lib.hid hb
        clear r1 r0 hb R1' R0 HBr
        by_cases hlt : k < 48
        · have hl := HL.out k
          have HAk := Lib.hid (HA.out k)
          have HSk := Lib.hid (HS.out k)
          generalize ex k = s at *
          have cx := Q1.out.cell (k := k + 1) (by rw [length_padw (by omega)]; omega)
          have cy := Q1.out.cell (k := k + 14) (by rw [length_padw (by omega)]; omega)
          have cz := Q1.out.cell (k := k + 9) (by rw [length_padw (by omega)]; omega)
          have cv := Q1.out.cell (k := k) (by rw [length_padw (by omega)]; omega)
          have ct := Q1.out.cell (k := 16 + k) (by rw [length_padw (by omega)]; omega)
          rw [padw_at (by omega)] at cx cy cz cv
          have f := Q1.out.free (16 + k)
          have WX := Lib.hid (HAk.out.at_ (k + 1))
          have WY := Lib.hid (HAk.out.at_ (k + 14))
          have hx1 := WX.out.1
          have hx2 := WX.out.2
          have hy1 := WY.out.1
          have hy2 := WY.out.2
          have hz1 := (HAk.out.at_ (k + 9)).1
          have hz2 := (HAk.out.at_ (k + 9)).2
          have hv1 := (HAk.out.at_ k).1
          have hv2 := (HAk.out.at_ k).2
          have HN := Lib.hid (show shNew s = ad (ad (ad (sg1 (it s (k + 14))) (it s (k + 9))) (sg0 (it s (k + 1)))) (it s k) by
            unfold shNew
            rw [hl, show 16 + k - 2 = k + 14 by omega, show 16 + k - 7 = k + 9 by omega, show 16 + k - 15 = k + 1 by omega, show 16 + k - 16 = k by omega])
          generalize it s (k + 1) = x at *
          generalize it s (k + 14) = y at *
          generalize it s (k + 9) = z at *
          generalize it s k = v at *
          have u15 : IntKind.i64.wrap ((16 : Int) + (k : Int) - 15) = (16 : Int) + (k : Int) - 15 := by rw [IntKind.wrap_i64]; omega
          have p15 : 0 ≤ (16 : Int) + (k : Int) - 15 := by omega
          have q15 : (16 : Int) + (k : Int) - 15 < 64 := by omega
          have t15 : ((16 : Int) + (k : Int) - 15).toNat = k + 1 := by omega
          have u2 : IntKind.i64.wrap ((16 : Int) + (k : Int) - 2) = (16 : Int) + (k : Int) - 2 := by rw [IntKind.wrap_i64]; omega
          have p2 : 0 ≤ (16 : Int) + (k : Int) - 2 := by omega
          have q2 : (16 : Int) + (k : Int) - 2 < 64 := by omega
          have t2 : ((16 : Int) + (k : Int) - 2).toNat = k + 14 := by omega
          have u7 : IntKind.i64.wrap ((16 : Int) + (k : Int) - 7) = (16 : Int) + (k : Int) - 7 := by rw [IntKind.wrap_i64]; omega
          have p7 : 0 ≤ (16 : Int) + (k : Int) - 7 := by omega
          have q7 : (16 : Int) + (k : Int) - 7 < 64 := by omega
          have t7 : ((16 : Int) + (k : Int) - 7).toNat = k + 9 := by omega
          have u16 : IntKind.i64.wrap ((16 : Int) + (k : Int) - 16) = (16 : Int) + (k : Int) - 16 := by rw [IntKind.wrap_i64]; omega
          have p16 : 0 ≤ (16 : Int) + (k : Int) - 16 := by omega
          have q16 : (16 : Int) + (k : Int) - 16 < 64 := by omega
          have t16 : ((16 : Int) + (k : Int) - 16).toNat = k := by omega
          have u0 : IntKind.i64.wrap ((16 : Int) + (k : Int)) = (16 : Int) + (k : Int) := by rw [IntKind.wrap_i64]; omega
          have p0 : 0 ≤ (16 : Int) + (k : Int) := by omega
          have q0 : (16 : Int) + (k : Int) < 64 := by omega
          have t0 : ((16 : Int) + (k : Int)).toNat = 16 + k := by omega
          go_wp2_with fail
          go_quiet (fail)
          have D1 := Lib.hid (Q1.out.drewN nq)
          have D0 := Lib.hid (Q0.out.drewN nq)
          have DB := Lib.hid (below_drewN HBq.out nq)
          have cz' : (wr.drewN nq).cell? ⟨g + 1, k + 9, none⟩ = some (.int .u32 z) := cz
          have cv' : (wr.drewN nq).cell? ⟨g + 1, k, none⟩ = some (.int .u32 v) := cv
          have ct' : (wr.drewN nq).cell? ⟨g + 1, 16 + k, none⟩ = some (.int .u32 (it (padw s) (16 + k))) := ct
          have f' : (wr.drewN nq).frozen? ⟨g + 1, 16 + k, none⟩ = false := f
          clear cx cy cz cv ct f Q1 Q0 HBq
          generalize wr.drewN nq = wq at *
          go_wp2_with fail
          refine (right_any x 7 WX.out (by decide) (by decide) _).mono ?_
          rintro e w' ⟨rfl, rfl⟩
          have r7 := rr_w x 7
          have r18 := rr_w x 18
          have l17 := rr_w y 17
          have l19 := rr_w y 19
          have HS0 := Lib.hid (show sg0 x = bits .xor .u32 (bits .xor .u32 (rr x 7) (rr x 18)) (x / 8) from rfl)
          have HS1 := Lib.hid (show sg1 y = bits .xor .u32 (bits .xor .u32 (rr y 17) (rr y 19)) (y / 1024) from rfl)
          unfold W32 at r7 r18 l17 l19
          obtain ⟨r7a, r7b⟩ := r7
          obtain ⟨r18a, r18b⟩ := r18
          obtain ⟨l17a, l17b⟩ := l17
          obtain ⟨l19a, l19b⟩ := l19
          generalize rr x 7 = x7 at *
          go_wp2_with fail
          refine (right_any x 18 WX.out (by decide) (by decide) _).mono ?_
          rintro e w' ⟨rfl, rfl⟩
          generalize rr x 18 = x18 at *
          go_wp2_with fail
          refine (right_any y 17 WY.out (by decide) (by decide) _).mono ?_
          rintro e w' ⟨rfl, rfl⟩
          generalize rr y 17 = y17 at *
          go_wp2_with fail
          refine (right_any y 19 WY.out (by decide) (by decide) _).mono ?_
          rintro e w' ⟨rfl, rfl⟩
          generalize rr y 19 = y19 at *
          rw [← HS0.out]
          have s0w : W32 (sg0 x) := xo_w _ _
          have s1w : W32 (sg1 y) := xo_w _ _
          unfold W32 at s0w s1w
          obtain ⟨s0a, s0b⟩ := s0w
          obtain ⟨s1a, s1b⟩ := s1w
          go_wp2_with fail
          rw [← HS1.out]
          generalize sg0 x = a at *
          generalize sg1 y = b at *
          have a1 : IntKind.u32.wrap (b + z) = ad b z := by rw [IntKind.wrap_u32]; rfl
          have a2 : IntKind.u32.wrap (ad b z + a) = ad (ad b z) a := by rw [IntKind.wrap_u32]; rfl
          have a3 : IntKind.u32.wrap (ad (ad b z) a + v) = ad (ad (ad b z) a) v := by rw [IntKind.wrap_u32]; rfl
          obtain ⟨j9, hj9⟩ : ∃ j, k + 9 = j := ⟨_, rfl⟩
          obtain ⟨n16, hn16⟩ : ∃ j, 16 + k = j := ⟨_, rfl⟩
          rw [hj9] at cz'
          rw [hn16] at ct' f'
          obtain ⟨i, hi⟩ : ∃ i, (16 : Int) + (k : Int) = i := ⟨_, rfl⟩
          rw [hi]
          clear u15 p15 q15 t15 u2 p2 q2 t2 u7 p7 q7 t7 u16 p16 q16 t16 u0 p0 q0 t0
          have u7 : IntKind.i64.wrap (i - 7) = (j9 : Int) := by rw [IntKind.wrap_i64]; omega
          have u16 : IntKind.i64.wrap (i - 16) = (k : Int) := by rw [IntKind.wrap_i64]; omega
          have q9 : (j9 : Int) < 64 := by omega
          have q9' : j9 < 64 := by omega
          have qk : (k : Int) < 64 := by omega
          have qk' : k < 64 := by omega
          have p0 : 0 ≤ i := by omega
          have q0 : i < 64 := by omega
          have t0 : i.toNat = n16 := by omega
          have HI := Lib.hid hi
          have HJ := Lib.hid hj9
          have HN16 := Lib.hid hn16
          clear hi hj9 hn16
          go_still_tail 15, (by kernel_rfl)
          change wpList _ _ _ _ _ (World.drew _)
          go_wp2
          rw [← HN.out]
          have hi := HI.out
          have hn := HN16.out
          refine ⟨⟨k + 1, by omega, by rw [← hi]; go_num, ?_, ?_, ?_⟩, by simp [intOf]; omega⟩
          · have := D1.out.set n16 (shNew s)
            rw [padw_set (hl.trans hn) (by omega), ← HSk.out] at this
            exact this
          · exact D0.out.keep (Below.heap_setCell wq ⟨g + 1, n16, none⟩ _ g (by simp only; omega))
          · exact (DB.out.setCell (by simp) _).drew
        · obtain rfl : k = 48 := by omega
          have HI := Lib.hid (show RowW wr 90 (g + 1) (shSched blk) by have := Q1.out; rw [← HF.out, padw_all (length_shSched blk)] at this; exact this)
          have hst := Q0.out.store (r := shSched blk) (length_shSched blk)
          have HF2 := Lib.hid ((Q0.out.setRow (r := shSched blk)).load64 (length_shSched blk))
          have hxs := HI.out.size
          rw [length_shSched] at hxs
          have HX0 := Lib.hid (length_shSched blk)
          generalize hX : (wv (shSched blk)).toArray = X at *
          have HX := Lib.hid hX
          clear hX
          go_wp2_with (refine wl_load64 (.tmp 3) HI.out HX0.out rfl rfl rfl X HX.out ?_)
          (try simp only [Exit.inBlock, Exit.then])
          refine bodyPost_ret (v := .agg X) (results_cellW rfl _ _ _ ⟨g, 0, none⟩ _ rfl HF2.out) rfl ?_
          exact ⟨by rw [HX.out], by rw [HG.out]; exact below_setRow HBq.out (Nat.le_refl _) _⟩
end Go.Proofs.Ytkaakgabhhkggaa
