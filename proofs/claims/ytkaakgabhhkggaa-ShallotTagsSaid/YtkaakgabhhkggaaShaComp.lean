/-
  Contract of sha.Compress: the state behind a block. Conditions: the state has eight words, the block 64 bytes.
-/
import Derived.Test.YtkaakgabhhkggaaShaSched
namespace Go.Proofs.Ytkaakgabhhkggaa
open Go Go.RowKit Go.Sh

/-- the word with every bit turned -/
def nt (x : Int) : Int := bits .xor .u32 4294967295 x
def an (x y : Int) : Int := bits .and .u32 x y
def shT1 (kt wt : Int) (s : List Int) : Int :=
  ad (ad (ad (ad (it s 7) (xo (xo (rr (it s 4) 6) (rr (it s 4) 11)) (rr (it s 4) 25))) (xo (an (it s 4) (it s 5)) (an (nt (it s 4)) (it s 6)))) kt) wt
def shT2 (s : List Int) : Int :=
  ad (xo (xo (rr (it s 0) 2) (rr (it s 0) 13)) (rr (it s 0) 22)) (xo (xo (an (it s 0) (it s 1)) (an (it s 0) (it s 2))) (an (it s 1) (it s 2)))
/-- one of the 64 rounds -/
def shRound (kt wt : Int) (s : List Int) : List Int := [ad (shT1 kt wt s) (shT2 s), it s 0, it s 1, it s 2, ad (it s 3) (shT1 kt wt s), it s 4, it s 5, it s 6]
def shR (ws s : List Int) : Nat → List Int
  | 0 => s
  | n + 1 => shRound (it shK n) (it ws n) (shR ws s n)
theorem length_shR (ws : List Int) {s : List Int} (h : s.length = 8) : ∀ n, (shR ws s n).length = 8
  | 0 => h
  | _ + 1 => rfl
theorem AW.shRound {s : List Int} (h : AW s) (kt wt : Int) : AW (shRound kt wt s) := by
  intro x hx
  simp only [Go.Proofs.Ytkaakgabhhkggaa.shRound, List.mem_cons, List.not_mem_nil, or_false] at hx
  rcases hx with rfl | rfl | rfl | rfl | rfl | rfl | rfl | rfl
  · exact ad_w _ _
  · exact h.at_ _
  · exact h.at_ _
  · exact h.at_ _
  · exact ad_w _ _
  · exact h.at_ _
  · exact h.at_ _
  · exact h.at_ _
theorem AW.shR (ws : List Int) {s : List Int} (h : AW s) : ∀ n, AW (shR ws s n)
  | 0 => h
  | n + 1 => (AW.shR ws h n).shRound _ _
/-- the sums of two lists of eight words -/
def add8 (s r : List Int) : List Int := [ad (it s 0) (it r 0), ad (it s 1) (it r 1), ad (it s 2) (it r 2), ad (it s 3) (it r 3), ad (it s 4) (it r 4), ad (it s 5) (it r 5), ad (it s 6) (it r 6), ad (it s 7) (it r 7)]
theorem length_add8 (s r : List Int) : (add8 s r).length = 8 := rfl
theorem AW.add8 (s r : List Int) : AW (add8 s r) := by
  intro x hx
  simp only [Go.Proofs.Ytkaakgabhhkggaa.add8, List.mem_cons, List.not_mem_nil, or_false] at hx
  rcases hx with rfl | rfl | rfl | rfl | rfl | rfl | rfl | rfl <;> exact ad_w _ _
/-- the state behind a block -/
def shComp (s : List Int) (blk : List UInt8) : List Int := add8 s (shR (shSched blk) s 64)

/-- the loop of the rounds -/
def shF (r : List Int) (j : Nat) : Value := .int .u32 (it r j)
theorem W32.lo {x : Int} (h : W32 x) : 0 ≤ x := h.1
theorem W32.hi {x : Int} (h : W32 x) : x ≤ 4294967295 := h.2
set_option maxRecDepth 100000 in
theorem results_cell_tmp2 {fn : Func} {t u : Tmp} {ty : TypeId} (h : fn.results = #[.cell t ty, .tmp u]) (ts : Array Value) (P : Program) (w : World) (ad : Addr) (v : Value) (h2 : ts.getD t undef = .pointer (some ad)) (h3 : (loadVar ty ad).run P w = .ok v w) :
    (results fn ts).run P w = .ok (.tuple #[v, ts.getD u undef]) w := by
  have h2' : ts[t]?.getD undef = .pointer (some ad) := by simpa using h2
  simp [results, h, h2', asAddr, h3]
theorem wrapU (x y : Int) : IntKind.u32.wrap (x + y) = ad x y := by rw [IntKind.wrap_u32]; rfl

set_option maxRecDepth 100000 in
set_option maxHeartbeats 8000000 in
theorem Compress_any (A : Option Addr) (c : Nat) (blk : List UInt8) (s : List Int) (w : World) (B : Nat) (hr : RB w B A 64 blk) (hB : B ≤ w.heap.size) (hs : s.length = 8) (hw : AW s) :
    Calls Try.prog 43 #[.agg (wv s).toArray, .slice A 64 c] w (fun e w' => e = .returned (.tuple #[.agg (wv (shComp s blk)).toArray, .int .i64 0]) ∧ Below w.heap.size w w') := by
  have HR := Lib.hid hr
  clear hr
  have hzero8 := zero8
  have hzero64 := zero64
  have hz8 : (wv (zw 8)).toArray.size = 8 := rfl
  have hz64 : (wv (zw 64)).toArray.size = 64 := rfl
  have hss : (wv s).toArray.size = 8 := by rw [List.size_toArray, length_wv, hs]
  have hb1 := ((Below.refl w.heap.size w).alloc (Nat.le_refl _) (.cells (wv s).toArray 36))
  have hb2 := hb1.alloc (by simp) (.cells (wv (zw 8)).toArray 36)
  have hs1 : (w.alloc (.cells (wv s).toArray 36)).heap.size = w.heap.size + 1 := by simp
  have hs2 : ((w.alloc (.cells (wv s).toArray 36)).alloc (.cells (wv (zw 8)).toArray 36)).heap.size = w.heap.size + 2 := by simp
  have HN0 := Lib.hid ((RowW.new w 36 s).below ((Below.refl (w.heap.size + 1) _).alloc (by rw [hs1]; exact Nat.le_refl _) (.cells (wv (zw 8)).toArray 36)) (Nat.lt_succ_self _))
  have hn1 := RowW.new (w.alloc (.cells (wv s).toArray 36)) 36 (zw 8)
  rw [hs1] at hn1
  have HN1 := Lib.hid hn1
  have HB2 := Lib.hid hb2
  have HR2 := Lib.hid (HR.out.below (hb2.mono hB))
  have HSS := Lib.hid hs
  have HWS := Lib.hid hw
  clear hb1 hb2 hs1 hn1 HR
  generalize hzc : (wv (zw 8)).toArray = zc at *
  generalize hzd : (wv (zw 64)).toArray = zd at *
  have hze : ¬ zc = #[] := by intro h; rw [h] at hz8; cases hz8
  have hzf : ¬ zd = #[] := by intro h; rw [h] at hz64; cases hz64
  generalize hX : (wv s).toArray = X at *
  have hXe : ¬ X = #[] := by intro h; rw [h] at hss; cases hss
  have HZD := Lib.hid hzd
  clear hzd hs
  go_enter Try.func43, Try.ntmps43
  go_wp2_with fail
  have HZ8 := Lib.hid hzero8
  have HZC := Lib.hid hzc
  have HZE := Lib.hid hze
  have HZS := Lib.hid hz8
  clear hss hXe hX hz8 hze hzero8 hzc
  generalize (w.alloc (.cells X 36)).alloc (.cells zc 36) = w2 at *
  refine (schedule_any A c blk w2 B HR2.out (by omega)).mono ?_
  rintro e w3 ⟨rfl, hb⟩
  have HN0' := Lib.hid (HN0.out.below hb (by omega))
  have HN1' := Lib.hid (HN1.out.below hb (by omega))
  have HB3 := Lib.hid (HB2.out.trans (hb.mono (by omega)))
  have hz3 := hb.size
  clear HN0 HN1 HB2 hb HR2
  obtain ⟨ws, hws⟩ : ∃ ws, shSched blk = ws := ⟨_, rfl⟩
  have HLW := Lib.hid (show ws.length = 64 by rw [← hws]; exact length_shSched blk)
  have HAW := Lib.hid (show AW ws by rw [← hws]; exact AW.shSched blk)
  have HFIN := Lib.hid (show shComp s blk = add8 s (shR ws s 64) by rw [← hws]; rfl)
  rw [hws]
  clear hws
  have hwl : (wv ws).toArray.size = 64 := by rw [List.size_toArray, length_wv, HLW.out]
  generalize hWS : (wv ws).toArray = WS at *
  have HWSE := Lib.hid hWS
  clear hWS
  have hwe : ¬ WS = #[] := by intro h; rw [h] at hwl; cases hwl
  go_wp2_with fail
  refine (Constants_any w3).mono ?_
  rintro e w4 ⟨rfl, hb⟩
  have HN0 := Lib.hid (HN0'.out.below hb (by omega))
  have HN1 := Lib.hid (HN1'.out.below hb (by omega))
  have HB4 := Lib.hid (HB3.out.trans (hb.mono (by omega)))
  have hz4 := hb.size
  clear HN0' HN1' HB3 hb
  have hkl : (wv shK).toArray.size = 64 := by kernel_rfl
  generalize hKS : (wv shK).toArray = KS at *
  have HKSE := Lib.hid hKS
  clear hKS
  have hke : ¬ KS = #[] := by intro h; rw [h] at hkl; cases hkl
  have hsA : (w4.alloc (.cells zd 90)).heap.size = w4.heap.size + 1 := by simp
  have hbA := ((Below.refl w4.heap.size w4).alloc (Nat.le_refl _) (.cells zd 90))
  have hbB := hbA.alloc (by rw [hsA]; omega) (.cells zd 90)
  have hrA : RowW ((w4.alloc (.cells zd 90)).alloc (.cells zd 90)) 90 w4.heap.size (zw 64) := by
    rw [← HZD.out]
    refine (RowW.new w4 90 (zw 64)).below ((Below.refl (w4.heap.size + 1) _).alloc (by simp) _) (Nat.lt_succ_self _)
  have hrB : RowW ((w4.alloc (.cells zd 90)).alloc (.cells zd 90)) 90 (w4.heap.size + 1) (zw 64) := by
    have := RowW.new (w4.alloc (.cells zd 90)) 90 (zw 64)
    rw [hsA, HZD.out] at this
    exact this
  have hst1 := hrA.store (r := ws) (by rw [HLW.out]; rfl)
  have hrA' := hrA.setRow (r := ws)
  have hrB' := hrB.keep (w' := ((w4.alloc (.cells zd 90)).alloc (.cells zd 90)).setRow w4.heap.size (wv ws).toArray) (setRow_other _ _ _ _ (by omega))
  have hst2 := hrB'.store (r := shK) (by rw [length_shK]; rfl)
  have hrB2 := hrB'.setRow (r := shK)
  have hrA2 := hrA'.keep (w' := (((w4.alloc (.cells zd 90)).alloc (.cells zd 90)).setRow w4.heap.size (wv ws).toArray).setRow (w4.heap.size + 1) (wv shK).toArray) (setRow_other _ _ _ _ (by omega))
  have hbC := below_setRow (below_setRow hbB (Nat.le_refl _) (wv ws).toArray) (show w4.heap.size ≤ w4.heap.size + 1 by omega) (wv shK).toArray
  rw [HWSE.out] at hst1 hst2 hrB2 hrA2 hbC
  rw [HKSE.out] at hst2 hrB2 hrA2 hbC
  have HRA := Lib.hid hrA2
  have HRB := Lib.hid hrB2
  have HN0' := Lib.hid (HN0.out.below hbC (by omega))
  have HN1' := Lib.hid (HN1.out.below hbC (by omega))
  have HB5 := Lib.hid (HB4.out.trans (hbC.mono (by omega)))
  clear hsA hbA hbB hrA hrB hrA' hrB' hrB2 hrA2 hbC HN0 HN1 HB4
  go_wp2_with fail
  clear hst1 hst2 hwl hwe hkl hke hzf hz64 hzero64
  generalize (((w4.alloc (.cells zd 90)).alloc (.cells zd 90)).setRow w4.heap.size WS).setRow (w4.heap.size + 1) KS = w5 at *
  generalize w4.heap.size = h at *
  generalize hg : w.heap.size = g at *
  have HG := Lib.hid hg
  clear hg
  have q0 := HN0'.out.cell (k := 0) (by rw [HSS.out]; decide)
  have q1 := HN0'.out.cell (k := 1) (by rw [HSS.out]; decide)
  have q2 := HN0'.out.cell (k := 2) (by rw [HSS.out]; decide)
  have q3 := HN0'.out.cell (k := 3) (by rw [HSS.out]; decide)
  have q4 := HN0'.out.cell (k := 4) (by rw [HSS.out]; decide)
  have q5 := HN0'.out.cell (k := 5) (by rw [HSS.out]; decide)
  have q6 := HN0'.out.cell (k := 6) (by rw [HSS.out]; decide)
  have q7 := HN0'.out.cell (k := 7) (by rw [HSS.out]; decide)
  go_quiet (fail)
  have p0 : (w5.drewN nq).cell? ⟨g, 0, none⟩ = _ := q0
  have p1 : (w5.drewN nq).cell? ⟨g, 1, none⟩ = _ := q1
  have p2 : (w5.drewN nq).cell? ⟨g, 2, none⟩ = _ := q2
  have p3 : (w5.drewN nq).cell? ⟨g, 3, none⟩ = _ := q3
  have p4 : (w5.drewN nq).cell? ⟨g, 4, none⟩ = _ := q4
  have p5 : (w5.drewN nq).cell? ⟨g, 5, none⟩ = _ := q5
  have p6 : (w5.drewN nq).cell? ⟨g, 6, none⟩ = _ := q6
  have p7 : (w5.drewN nq).cell? ⟨g, 7, none⟩ = _ := q7
  have HN0 := Lib.hid (HN0'.out.drewN nq)
  have HN1 := Lib.hid (HN1'.out.drewN nq)
  have HRA' := Lib.hid (HRA.out.drewN nq)
  have HRB' := Lib.hid (HRB.out.drewN nq)
  have HB6 := Lib.hid (below_drewN HB5.out nq)
  clear q0 q1 q2 q3 q4 q5 q6 q7 HN0' HN1' HRA HRB HB5
  generalize w5.drewN nq = w6 at *
  go_wp2_with fail
  go_quiet (fail)
  have q0 : (w6.drewN nq).cell? ⟨g, 0, none⟩ = _ := p0
  have q1 : (w6.drewN nq).cell? ⟨g, 1, none⟩ = _ := p1
  have q2 : (w6.drewN nq).cell? ⟨g, 2, none⟩ = _ := p2
  have q3 : (w6.drewN nq).cell? ⟨g, 3, none⟩ = _ := p3
  have q4 : (w6.drewN nq).cell? ⟨g, 4, none⟩ = _ := p4
  have q5 : (w6.drewN nq).cell? ⟨g, 5, none⟩ = _ := p5
  have q6 : (w6.drewN nq).cell? ⟨g, 6, none⟩ = _ := p6
  have q7 : (w6.drewN nq).cell? ⟨g, 7, none⟩ = _ := p7
  have HN0' := Lib.hid (HN0.out.drewN nq)
  have HN1' := Lib.hid (HN1.out.drewN nq)
  have HRA := Lib.hid (HRA'.out.drewN nq)
  have HRB := Lib.hid (HRB'.out.drewN nq)
  have HB5 := Lib.hid (below_drewN HB6.out nq)
  clear p0 p1 p2 p3 p4 p5 p6 p7 HN0 HN1 HRA' HRB' HB6 q0 q1 q2 q3 q4 q5 q6 q7
  generalize w6.drewN nq = w7 at *
  obtain ⟨R, hR⟩ : ∃ R, shR ws s = R := ⟨_, rfl⟩
  have HR0 := Lib.hid (show R 0 = s by rw [← hR]; rfl)
  have HRS := Lib.hid (show ∀ n, R (n + 1) = shRound (it shK n) (it ws n) (R n) from fun n => by rw [← hR]; rfl)
  have HRW := Lib.hid (show ∀ n, AW (R n) from fun n => by rw [← hR]; exact AW.shR ws HWS.out n)
  have HRL := Lib.hid hR
  rw [hR] at HFIN
  clear hR
  go_wp2_with fail
  rw [← HR0.out]
  go_loopw [8, 9, 10, 11, 12, 13, 14, 15, 16, 17, 18, 19, 20] (fun va vb vc vd ve vf vg vh i _ _ _ _ wr => ∃ k : Nat, k ≤ 64 ∧ i = .int .i64 (k : Int) ∧ va = .int .u32 (it (R k) 0) ∧ vb = .int .u32 (it (R k) 1) ∧ vc = .int .u32 (it (R k) 2) ∧ vd = .int .u32 (it (R k) 3) ∧ ve = .int .u32 (it (R k) 4) ∧ vf = .int .u32 (it (R k) 5) ∧ vg = .int .u32 (it (R k) 6) ∧ vh = .int .u32 (it (R k) 7) ∧ ∃ m, wr = w7.drewN m) (fun _ _ _ _ _ _ _ _ i _ _ _ _ _ => 64 - (intOf i).toNat)
  case atStart => exact ⟨0, by omega, rfl, rfl, rfl, rfl, rfl, rfl, rfl, rfl, rfl, 0, rfl⟩
  case round =>
    obtain ⟨k, hk, rfl, rfl, rfl, rfl, rfl, rfl, rfl, rfl, rfl, m, rfl⟩ := hrel
    obtain ⟨wq, hwq⟩ : ∃ wq, w7.drewN m = wq := ⟨_, rfl⟩
    have HRA' := Lib.hid (show RowW wq _ _ _ by rw [← hwq]; exact HRA.out.drewN m)
    have HRB' := Lib.hid (show RowW wq _ _ _ by rw [← hwq]; exact HRB.out.drewN m)
    have HN0 := Lib.hid (show RowW wq _ _ _ by rw [← hwq]; exact HN0'.out.drewN m)
    have HN1 := Lib.hid (show RowW wq _ _ _ by rw [← hwq]; exact HN1'.out.drewN m)
    have HB6 := Lib.hid (show Below g w wq by rw [← hwq]; exact below_drewN HB5.out m)
    have HWQ := Lib.hid hwq
    rw [hwq]
    clear hwq
    by_cases hlt : k < 64
    · have hK := HRS.out k
      have hWr := HRW.out k
      generalize R k = r at *
      have HRK := Lib.hid hK
      have HWR := Lib.hid hWr
      have ck : wq.cell? ⟨h + 1, k, none⟩ = some (.int .u32 (it shK k)) := HRB'.out.cell (by rw [length_shK]; exact hlt)
      have cw : wq.cell? ⟨h, k, none⟩ = some (.int .u32 (it ws k)) := HRA'.out.cell (by rw [HLW.out]; exact hlt)
      have hi : (k : Int) < 64 := by omega
      have Wva := Lib.hid (hWr.at_ 0)
      have lva := (hWr.at_ 0).lo
      have uva := (hWr.at_ 0).hi
      have Wvb := Lib.hid (hWr.at_ 1)
      have lvb := (hWr.at_ 1).lo
      have uvb := (hWr.at_ 1).hi
      have Wvc := Lib.hid (hWr.at_ 2)
      have lvc := (hWr.at_ 2).lo
      have uvc := (hWr.at_ 2).hi
      have Wvd := Lib.hid (hWr.at_ 3)
      have lvd := (hWr.at_ 3).lo
      have uvd := (hWr.at_ 3).hi
      have Wve := Lib.hid (hWr.at_ 4)
      have lve := (hWr.at_ 4).lo
      have uve := (hWr.at_ 4).hi
      have Wvf := Lib.hid (hWr.at_ 5)
      have lvf := (hWr.at_ 5).lo
      have uvf := (hWr.at_ 5).hi
      have Wvg := Lib.hid (hWr.at_ 6)
      have lvg := (hWr.at_ 6).lo
      have uvg := (hWr.at_ 6).hi
      have Wvh := Lib.hid (hWr.at_ 7)
      have lvh := (hWr.at_ 7).lo
      have uvh := (hWr.at_ 7).hi
      have lk := (AW.shK.at_ k).lo
      have uk := (AW.shK.at_ k).hi
      have lw := (HAW.out.at_ k).lo
      have uw := (HAW.out.at_ k).hi
      have HT1 := Lib.hid (show shT1 (it shK k) (it ws k) r = ad (ad (ad (ad (it r 7) (xo (xo (rr (it r 4) 6) (rr (it r 4) 11)) (rr (it r 4) 25))) (xo (an (it r 4) (it r 5)) (an (nt (it r 4)) (it r 6)))) (it shK k)) (it ws k) from rfl)
      have HT2 := Lib.hid (show shT2 r = ad (xo (xo (rr (it r 0) 2) (rr (it r 0) 13)) (rr (it r 0) 22)) (xo (xo (an (it r 0) (it r 1)) (an (it r 0) (it r 2))) (an (it r 1) (it r 2))) from rfl)
      have HRD := Lib.hid (show shRound (it shK k) (it ws k) r = [ad (shT1 (it shK k) (it ws k) r) (shT2 r), it r 0, it r 1, it r 2, ad (it r 3) (shT1 (it shK k) (it ws k) r), it r 4, it r 5, it r 6] from rfl)
      clear hK hWr
      generalize shRound (it shK k) (it ws k) r = rn at *
      generalize shT1 (it shK k) (it ws k) r = t1 at *
      generalize shT2 r = t2 at *
      generalize it r 0 = va at *
      generalize it r 1 = vb at *
      generalize it r 2 = vc at *
      generalize it r 3 = vd at *
      generalize it r 4 = ve at *
      generalize it r 5 = vf at *
      generalize it r 6 = vg at *
      generalize it r 7 = vh at *
      generalize it shK k = kt at *
      generalize it ws k = wt at *
      go_wp2_with fail
      refine (right_any ve 6 Wve.out (by decide) (by decide) _).mono ?_
      rintro e2 w' ⟨rfl, rfl⟩
      have le6 := (rr_w ve 6).lo
      have ue6 := (rr_w ve 6).hi
      generalize rr ve 6 = e6 at *
      go_wp2_with fail
      refine (right_any ve 11 Wve.out (by decide) (by decide) _).mono ?_
      rintro e2 w' ⟨rfl, rfl⟩
      have le11 := (rr_w ve 11).lo
      have ue11 := (rr_w ve 11).hi
      generalize rr ve 11 = e11 at *
      go_wp2_with fail
      refine (right_any ve 25 Wve.out (by decide) (by decide) _).mono ?_
      rintro e2 w' ⟨rfl, rfl⟩
      generalize rr ve 25 = e25 at *
      go_wp2_with fail
      generalize hb1 : bits .xor .u32 (bits .xor .u32 e6 e11) e25 = b1 at *
      have HB1 := Lib.hid hb1
      have lb1 : 0 ≤ b1 := by rw [← hb1]; exact (xo_w _ _).lo
      have ub1 : b1 ≤ 4294967295 := by rw [← hb1]; exact (xo_w _ _).hi
      clear hb1
      obtain ⟨ch, hch⟩ : ∃ ch, bits .xor .u32 (bits .and .u32 ve vf) (bits .and .u32 (bits .xor .u32 4294967295 ve) vg) = ch := ⟨_, rfl⟩
      have n1 := wrapU vh b1
      have n2 := wrapU (ad vh b1) ch
      have n3 := wrapU (ad (ad vh b1) ch) kt
      have n4 := wrapU (ad (ad (ad vh b1) ch) kt) wt
      have HT1' : ad (ad (ad (ad vh b1) ch) kt) wt = t1 := by rw [HT1.out, ← HB1.out, ← hch]; rfl
      rw [HT1'] at n4
      go_quiet (fail)
      have ht1 : ((ad vh b1 + bits .xor .u32 (bits .and .u32 ve vf) (bits .and .u32 (bits .xor .u32 (if IntKind.u32.signed = true then -1 else IntKind.u32.max) ve) vg) + kt) % 4294967296 + wt) % 4294967296 = t1 := by
        have e : t1 = ad (ad (ad (ad vh b1) (bits .xor .u32 (bits .and .u32 ve vf) (bits .and .u32 (bits .xor .u32 (if IntKind.u32.signed = true then -1 else IntKind.u32.max) ve) vg))) kt) wt := by rw [HT1.out, ← HB1.out]; rfl
        rw [e]
        generalize bits .xor .u32 (bits .and .u32 ve vf) (bits .and .u32 (bits .xor .u32 (if IntKind.u32.signed = true then -1 else IntKind.u32.max) ve) vg) = y
        unfold ad
        omega
      rw [ht1]
      clear n1 n2 n3 n4 HT1' hch ck cw ht1
      have lt1 : 0 ≤ t1 := by rw [HT1.out]; exact (ad_w _ _).lo
      have ut1 : t1 ≤ 4294967295 := by rw [HT1.out]; exact (ad_w _ _).hi
      have lt2 : 0 ≤ t2 := by rw [HT2.out]; exact (ad_w _ _).lo
      have ut2 : t2 ≤ 4294967295 := by rw [HT2.out]; exact (ad_w _ _).hi
      go_wp2_with fail
      refine (right_any va 2 Wva.out (by decide) (by decide) _).mono ?_
      rintro e2 w' ⟨rfl, rfl⟩
      have la2 := (rr_w va 2).lo
      have ua2 := (rr_w va 2).hi
      generalize rr va 2 = a2 at *
      go_wp2_with fail
      refine (right_any va 13 Wva.out (by decide) (by decide) _).mono ?_
      rintro e2 w' ⟨rfl, rfl⟩
      have la13 := (rr_w va 13).lo
      have ua13 := (rr_w va 13).hi
      generalize rr va 13 = a13 at *
      go_wp2_with fail
      refine (right_any va 22 Wva.out (by decide) (by decide) _).mono ?_
      rintro e2 w' ⟨rfl, rfl⟩
      generalize rr va 22 = a22 at *
      go_wp2_with fail
      have ht2 : (bits .xor .u32 (bits .xor .u32 a2 a13) a22 + bits .xor .u32 (bits .xor .u32 (bits .and .u32 va vb) (bits .and .u32 va vc)) (bits .and .u32 vb vc)) % 4294967296 = t2 := HT2.out.symm
      rw [ht2]
      have hrk := HRK.out
      rw [HRD.out] at hrk
      refine ⟨⟨k + 1, by omega, by go_num, by rw [hrk]; rfl, by rw [hrk]; rfl, by rw [hrk]; rfl, by rw [hrk]; rfl, by rw [hrk]; rfl, by rw [hrk]; rfl, by rw [hrk]; rfl, by rw [hrk]; rfl, m + nq, by rw [← HWQ.out, World.drewN_drewN]⟩, by simp [intOf]; omega⟩
    · obtain rfl : k = 64 := by omega
      have hzero8 := HZ8.out
      have hz8 := HZS.out
      have hze := HZE.out
      have hfin := HFIN.out
      have hlr : (R 64).length = 8 := by rw [← HRL.out]; exact length_shR ws HSS.out 64
      generalize R 64 = r at *
      have hst := HN1.out.store (r := add8 s r) rfl
      have hrr := (HN1.out.setRow (r := add8 s r)).load8 rfl
      have hys : (wv (add8 s r)).toArray.size = 8 := rfl
      have hbld : ((((((((zc.setIfInBounds 0 (.int .u32 ((it s 0 + it r 0) % 4294967296))).setIfInBounds 1 (.int .u32 ((it s 1 + it r 1) % 4294967296))).setIfInBounds 2 (.int .u32 ((it s 2 + it r 2) % 4294967296))).setIfInBounds 3 (.int .u32 ((it s 3 + it r 3) % 4294967296))).setIfInBounds 4 (.int .u32 ((it s 4 + it r 4) % 4294967296))).setIfInBounds 5 (.int .u32 ((it s 5 + it r 5) % 4294967296))).setIfInBounds 6 (.int .u32 ((it s 6 + it r 6) % 4294967296))).setIfInBounds 7 (.int .u32 ((it s 7 + it r 7) % 4294967296))) = (wv (add8 s r)).toArray := by rw [← HZC.out]; rfl
      have HYY := Lib.hid (show (wv (shComp s blk)).toArray = (wv (add8 s r)).toArray by rw [hfin])
      have HBE := Lib.hid (below_setRow HB6.out (show g ≤ g + 1 by omega) (wv (add8 s r)).toArray)
      have q0 := HN0.out.cell (k := 0) (by rw [HSS.out]; decide)
      have ls0 := (HWS.out.at_ 0).lo
      have us0 := (HWS.out.at_ 0).hi
      have q1 := HN0.out.cell (k := 1) (by rw [HSS.out]; decide)
      have ls1 := (HWS.out.at_ 1).lo
      have us1 := (HWS.out.at_ 1).hi
      have q2 := HN0.out.cell (k := 2) (by rw [HSS.out]; decide)
      have ls2 := (HWS.out.at_ 2).lo
      have us2 := (HWS.out.at_ 2).hi
      have q3 := HN0.out.cell (k := 3) (by rw [HSS.out]; decide)
      have ls3 := (HWS.out.at_ 3).lo
      have us3 := (HWS.out.at_ 3).hi
      have q4 := HN0.out.cell (k := 4) (by rw [HSS.out]; decide)
      have ls4 := (HWS.out.at_ 4).lo
      have us4 := (HWS.out.at_ 4).hi
      have q5 := HN0.out.cell (k := 5) (by rw [HSS.out]; decide)
      have ls5 := (HWS.out.at_ 5).lo
      have us5 := (HWS.out.at_ 5).hi
      have q6 := HN0.out.cell (k := 6) (by rw [HSS.out]; decide)
      have ls6 := (HWS.out.at_ 6).lo
      have us6 := (HWS.out.at_ 6).hi
      have q7 := HN0.out.cell (k := 7) (by rw [HSS.out]; decide)
      have ls7 := (HWS.out.at_ 7).lo
      have us7 := (HWS.out.at_ 7).hi
      generalize it s 0 = s0 at *
      generalize it r 0 = r0 at *
      generalize it s 1 = s1 at *
      generalize it r 1 = r1 at *
      generalize it s 2 = s2 at *
      generalize it r 2 = r2 at *
      generalize it s 3 = s3 at *
      generalize it r 3 = r3 at *
      generalize it s 4 = s4 at *
      generalize it r 4 = r4 at *
      generalize it s 5 = s5 at *
      generalize it r 5 = r5 at *
      generalize it s 6 = s6 at *
      generalize it r 6 = r6 at *
      generalize it s 7 = s7 at *
      generalize it r 7 = r7 at *
      generalize (wv (add8 s r)).toArray = Y at *
      have hye : ¬ Y = #[] := by intro h; rw [h] at hys; cases hys
      have HRR := Lib.hid hrr
      clear hfin hlr hrr
      go_wp2_with fail
      refine bodyPost_ret (v := .tuple #[.agg Y, .int .i64 0]) (by rw [results_cell_tmp2 Try.results43 _ _ _ ⟨g + 1, 0, none⟩ _ rfl HRR.out]; rfl) rfl ?_
      exact ⟨by rw [HYY.out], by rw [HG.out]; exact HBE.out⟩
end Go.Proofs.Ytkaakgabhhkggaa
