/-
  Contract of shallotref04.Block: the same 64 bytes, by lists of words. Conditions: a key of 32 bytes and a nonce of 12.
-/
import Derived.Test.YtbnlpahgpphpjaaChaWords
import Derived.Test.YtbnlpahgpphpjaaChaBlk
import Derived.Lib.SlBytesConst
import Derived.StillTailTactics
namespace Go.Proofs.Ytbnlpahgpphpjaa
open Go Go.RowKit Go.Sh

def expa : List UInt8 := [101, 120, 112, 97, 110, 100, 32, 51, 50, 45, 98, 121, 116, 101, 32, 107]
theorem wds_expa : wds expa 4 = cst := by decide
/-- a marked row of bytes, just laid -/
theorem RB.marked (w : World) (e : TypeId) (l : List UInt8) (cs : List Value) (h : cs = bv l) (fr : Nat × Nat) (n : Nat) (hn : l.length = n) : RB (w.alloc (.cells cs.toArray e fr)) (w.heap.size + 1) (some ⟨w.heap.size, 0, none⟩) n l := by
  subst h
  refine ⟨by rw [length_bv]; omega, .inr ⟨_, rfl, by simp, fun j hj => ?_⟩⟩
  rw [add_mk, cell_of_row (w.alloc (.cells (bv l).toArray e fr)) w.heap.size (0 + j) (bv l).toArray e fr (heap_alloc_new w _)]
  simp
theorem own_at {w : World} {base e size n c : Nat} {A : Option Addr} {xs : List Value} (h : w.ownsRow base e size (.slice A n c) n xs) (hn : 0 < n) : ∃ g, A = some ⟨g, 0, none⟩ ∧ base ≤ g ∧ g < w.heap.size := by
  rcases h.2 with ⟨_, h0⟩ | ⟨g, cap, cur, hv, hb, hh, _⟩
  · omega
  · injection hv with hv
    exact ⟨g, hv, hb, (Array.getElem?_eq_some_iff.1 hh).1⟩

def plc (i : Nat) : List Value := [.int .i64 (pl i 0 : Int), .int .i64 (pl i 1 : Int), .int .i64 (pl i 2 : Int), .int .i64 (pl i 3 : Int)]
def plA : Array Value := (plc 0 ++ plc 1 ++ plc 2 ++ plc 3 ++ plc 4 ++ plc 5 ++ plc 6 ++ plc 7).toArray
theorem plA_at {i : Nat} (hi : i < 8) : (plA.extract (i * 4) (i * 4 + 4)).toList = plc i := by
  have : i = 0 ∨ i = 1 ∨ i = 2 ∨ i = 3 ∨ i = 4 ∨ i = 5 ∨ i = 6 ∨ i = 7 := by omega
  rcases this with rfl | rfl | rfl | rfl | rfl | rfl | rfl | rfl <;> rfl
theorem pl_lt {i j : Nat} (hi : i < 8) (hj : j < 4) : pl i j < 16 := by
  have h1 : i = 0 ∨ i = 1 ∨ i = 2 ∨ i = 3 ∨ i = 4 ∨ i = 5 ∨ i = 6 ∨ i = 7 := by omega
  have h2 : j = 0 ∨ j = 1 ∨ j = 2 ∨ j = 3 := by omega
  rcases h1 with rfl | rfl | rfl | rfl | rfl | rfl | rfl | rfl <;> rcases h2 with rfl | rfl | rfl | rfl <;> decide
/-- the words put back one by one -/
def qst (s : List Int) (p : Nat → Nat) (q : Nat → Int) : Nat → List Int
  | 0 => s
  | j + 1 => (qst s p q j).set (p j) (q j)
theorem length_qst (s : List Int) (p : Nat → Nat) (q : Nat → Int) : ∀ j, (qst s p q j).length = s.length
  | 0 => rfl
  | j + 1 => by rw [qst, List.length_set, length_qst s p q j]
/-- word j of the quarter round's four -/
def qw (s : List Int) (p : Nat → Nat) (j : Nat) : Int :=
  let q := quarter (it s (p 0)) (it s (p 1)) (it s (p 2)) (it s (p 3))
  if j = 0 then q.1 else if j = 1 then q.2.1 else if j = 2 then q.2.2.1 else q.2.2.2
theorem qst_four (s : List Int) (p : Nat → Nat) : qst s p (qw s p) 4 = qr s (p 0) (p 1) (p 2) (p 3) := rfl

theorem plA_size : plA.size = 32 := rfl
theorem run_build80 (w : World) : (Instr.build 80 #[(0, .agg (plc 0).toArray), (1, .agg (plc 1).toArray), (2, .agg (plc 2).toArray), (3, .agg (plc 3).toArray), (4, .agg (plc 4).toArray), (5, .agg (plc 5).toArray), (6, .agg (plc 6).toArray), (7, .agg (plc 7).toArray)]).run Try.prog w = .ok (.agg plA) w := by kernel_rfl
theorem wl_build80 {w : World} {ops : Array Oper} {rest : List Oper} {o : Oper} {a : Act} {Q : Exit → Act → World → Prop} (hw : Region.wanted o (yielded ops a.tmps) = true) (x0 x1 x2 x3 x4 x5 x6 x7 : Operand)
    (ho : o.op = .build 80 #[(0, x0), (1, x1), (2, x2), (3, x3), (4, x4), (5, x5), (6, x6), (7, x7)])
    (h0 : a.eval x0 = .agg (plc 0).toArray) (h1 : a.eval x1 = .agg (plc 1).toArray) (h2 : a.eval x2 = .agg (plc 2).toArray) (h3 : a.eval x3 = .agg (plc 3).toArray) (h4 : a.eval x4 = .agg (plc 4).toArray) (h5 : a.eval x5 = .agg (plc 5).toArray) (h6 : a.eval x6 = .agg (plc 6).toArray) (h7 : a.eval x7 = .agg (plc 7).toArray)
    (h : wpList Try.prog ops Q rest (a.put o.dst (.agg plA)) w) : wpList Try.prog ops Q (o :: rest) a w := by
  refine wl_step hw fun K hK => ?_
  have hrun := run_build80 w
  unfold Oper.wp
  simp only [execOp, ho, List.map_toArray, List.map_cons, List.map_nil, h0, h1, h2, h3, h4, h5, h6, h7, Sem.run_bind, hrun, Result.andThen_ok, Sem.run_pure]
  exact hK _ _ h
theorem wl_store80 {w : World} {ops : Array Oper} {rest : List Oper} {o : Oper} {a : Act} {Q : Exit → Act → World → Prop} (hw : Region.wanted o (yielded ops a.tmps) = true) (x y : Operand) (ho : o.op = .store 80 x y)
    (hx : a.eval x = .pointer (some ⟨w.heap.size, 0, none⟩)) (hy : a.eval y = .agg plA) (zc : Array Value) (hz : zc.size = 32)
    (h : wpList Try.prog ops Q rest (a.put o.dst undef) (w.alloc (.cells plA 80))) : wpList Try.prog ops Q (o :: rest) a (w.alloc (.cells zc 80)) := by
  refine wl_store_blk hw _ x y ho w.heap.size 0 plA hx hy zc 80 (heap_alloc_new w _) (by rw [plA_size, hz]; omega) (by rw [plA_size]; kernel_rfl) ?_ ?_
  · intro v hv
    have : ∀ v ∈ plA.toList, v.oneCell' = true := by
      intro v hv
      simp only [plA, plc, List.mem_append, List.mem_cons, List.not_mem_nil, or_false] at hv
      rcases hv with ((((((h | h) | h) | h) | h) | h) | h) | h <;> rcases h with rfl | rfl | rfl | rfl <;> rfl
    exact this v hv
  · rw [List.take_zero, List.nil_append, List.drop_eq_nil_of_le (by simp [plA_size, hz]), List.append_nil, Array.toArray_toList, alloc_setRow]
    exact h

set_option maxHeartbeats 4000000 in
theorem RefBlock_any (A A' : Option Addr) (c c' : Nat) (key nonce : List UInt8) (ctr : Int) (w : World) (B : Nat) (hk : RB w B A 32 key) (hn : RB w B A' 12 nonce) (hB : B ≤ w.heap.size) (hc : W32 ctr) :
    Calls Try.prog 15 #[.slice A 32 c, .slice A' 12 c', .int .u32 ctr] w (RetB w 64 (blk key nonce ctr)) := by
  have HK := Lib.hid hk
  have HN := Lib.hid hn
  clear hk hn
  have hcv := Lib.run_convert_bytes_const (P := Try.prog) w 28 5 #[.int .u8 101, .int .u8 120, .int .u8 112, .int .u8 97, .int .u8 110, .int .u8 100, .int .u8 32, .int .u8 51, .int .u8 50, .int .u8 45, .int .u8 98, .int .u8 121, .int .u8 116, .int .u8 101, .int .u8 32, .int .u8 107] 16 16 Try.underlying28 Try.underlying5
  have HLIT := Lib.hid (RB.marked w 5 expa [.int .u8 101, .int .u8 120, .int .u8 112, .int .u8 97, .int .u8 110, .int .u8 100, .int .u8 32, .int .u8 51, .int .u8 50, .int .u8 45, .int .u8 98, .int .u8 121, .int .u8 116, .int .u8 101, .int .u8 32, .int .u8 107] rfl (16, 17) 16 rfl)
  have HBL := Lib.hid ((Below.refl w.heap.size w).alloc (Nat.le_refl _) (.cells #[.int .u8 101, .int .u8 120, .int .u8 112, .int .u8 97, .int .u8 110, .int .u8 100, .int .u8 32, .int .u8 51, .int .u8 50, .int .u8 45, .int .u8 98, .int .u8 121, .int .u8 116, .int .u8 101, .int .u8 32, .int .u8 107] 5 (16, 17)))
  go_enter Try.func15, Try.ntmps15
  go_wp2_with fail
  clear hcv
  refine (words_any _ 16 16 expa _ _ HLIT.out (by simp) (by omega)).mono ?_
  rintro e w2 ⟨A2, n2, c2, rfl, hn2, ho2, hb2⟩
  rw [show 16 / 4 = 4 from rfl, wds_expa] at hn2 ho2
  obtain rfl : 4 = n2 := hn2
  have hb2' := HBL.out.trans (hb2.mono (by simp))
  have O2 := Lib.hid (own_base ho2 (show w.heap.size ≤ _ by simp))
  have B2 := Lib.hid hb2'
  have hz2 := hb2'.size
  clear hb2 hb2' ho2 HLIT HBL
  go_wp2_with fail
  refine (words_any A 32 c key w2 B (HK.out.below (B2.out.mono hB)) (by omega) (by omega)).mono ?_
  rintro e w3 ⟨A3, n3, c3, rfl, hn3, ho3, hb3⟩
  rw [show 32 / 4 = 8 from rfl] at hn3 ho3
  obtain rfl : 8 = n3 := by rw [length_wds] at hn3; exact hn3
  have O3 := Lib.hid (own_later O2.out hb3)
  have R3 := Lib.hid (Reads.of_own ho3)
  have B3 := Lib.hid (B2.out.trans (hb3.mono hz2))
  have hz3 := B3.out.size
  clear hb3 ho3 hn3 O2 B2
  go_wp2_with (at_builtin; refine wl_app TW rfl (.tmp 21) (.tmp 23) rfl _ rfl A3 8 c3 rfl w.heap.size 4 _ O3.out w3.heap.size (wv (wds key 8)) R3.out (wv_one _) (by omega) (by omega) hz3 ?h6)
  case h6 =>
    intro A4 c4 w4 ho4 hg4 hat4
    rw [← wv_append] at ho4
    have O4 := Lib.hid ho4
    have B4 := Lib.hid (B3.out.grown hg4 hz3 (own_drop O3.out))
    have hz4 := B4.out.size
    clear ho4 hg4 hat4 O3 R3 B3
    go_wp2_with (at_builtin; refine wl_app TW rfl (.tmp 25) (.tmp 27) rfl _ rfl _ 1 1 rfl w.heap.size 12 _ (O4.out.alloc _) (w4.heap.size + 1) [.int .u32 ctr] ?i2 ?i1 (by omega) (by omega) (by simp; omega) ?i6)
    case i2 => exact Reads.lit w4 _ [.int .u32 ctr] 1 1 rfl w4.heap.size rfl
    case i1 => intro u hu; rw [List.mem_singleton.1 hu]; rfl
    case i6 =>
      intro A5 c5 w5 ho5 hg5 hat5
      rw [show [Value.int .u32 ctr] = wv [ctr] from rfl, ← wv_append] at ho5
      have O5 := Lib.hid ho5
      have B5 := Lib.hid ((B4.out.alloc hz4 _).grown hg5 (by simp; omega) (own_drop O4.out))
      have hz5 := B5.out.size
      clear ho5 hg5 hat5 O4 B4
      go_wp2_with fail
      refine (words_any A' 12 c' nonce w5 B (HN.out.below (B5.out.mono hB)) (by omega) (by omega)).mono ?_
      rintro e w6 ⟨A6, n6, c6, rfl, hn6, ho6, hb6⟩
      rw [show 12 / 4 = 3 from rfl] at hn6 ho6
      obtain rfl : 3 = n6 := by rw [length_wds] at hn6; exact hn6
      have O6 := Lib.hid (own_later O5.out hb6)
      have R6 := Lib.hid (Reads.of_own ho6)
      have B6 := Lib.hid (B5.out.trans (hb6.mono hz5))
      have hz6 := B6.out.size
      clear hb6 ho6 hn6 O5 B5
      go_wp2_with (at_builtin; refine wl_app TW rfl (.tmp 29) (.tmp 31) rfl _ rfl A6 3 c6 rfl w.heap.size 13 _ O6.out w6.heap.size (wv (wds nonce 3)) R6.out (wv_one _) (by omega) (by omega) hz6 ?j6)
      case j6 =>
        intro A7 c7 w7 ho7 hg7 hat7
        rw [← wv_append] at ho7
        have O7 := Lib.hid (show w7.ownsRow w.heap.size 22 1 (.slice A7 16 c7) 16 (wv (ini key nonce ctr)) from ho7)
        have B7 := Lib.hid (B6.out.grown hg7 hz6 (own_drop O6.out))
        have hz7 := B7.out.size
        clear ho7 hg7 hat7 O6 R6 B6
        obtain ⟨g7, rfl, hg7a, hg7b⟩ := own_at O7.out (by omega)
        go_wp2_with (at_builtin; refine wl_app TW rfl (.tmp 33) (.tmp 34) rfl _ rfl _ 16 c7 rfl w7.heap.size 0 [] ?k0 w7.heap.size (wv (ini key nonce ctr)) ?k2 (wv_one _) (by omega) (by omega) (by simp) ?k6)
        case k0 => exact World.ownsRow_lit w7 #[] 0 (Nat.le_refl _) (by simp) rfl
        case k2 => exact (Reads.of_own O7.out).alloc (Nat.le_refl _) _
        case k6 =>
          intro A8 c8 w8 ho8 hg8 hat8
          have ho8 : w8.ownsRow w7.heap.size 22 1 (.slice A8 16 c8) 16 (wv (ini key nonce ctr)) := ho8
          have O8 := Lib.hid ho8
          obtain ⟨g8, rfl, hg8a, hg8b⟩ := own_at ho8 (by omega)
          have B8w := Lib.hid (((Below.refl w7.heap.size w7).alloc (Nat.le_refl _) _).grown hg8 (by simp) (by simp [Value.ownBlock]))
          have O7' := Lib.hid (own_later O7.out B8w.out)
          have B8 := Lib.hid (B7.out.trans (B8w.out.mono hz7))
          have hz8 := B8.out.size
          clear ho8 hg8 hat8 O7 B7 B8w
          have hz80 : ∀ W : World, (zeroValue 80).run Try.prog W = .ok (.agg (Array.replicate 32 (.int .i64 0))) W := fun _ => by kernel_rfl
          have hzs : (Array.replicate 32 (Value.int .i64 0)).size = 32 := by simp
          generalize Array.replicate 32 (Value.int .i64 0) = zc at hz80 hzs
          have hze : ¬ zc = #[] := by intro h; rw [h] at hzs; cases hzs
          go_wp2_with (first | (refine wl_build80 rfl (.tmp 36) (.tmp 37) (.tmp 38) (.tmp 39) (.tmp 40) (.tmp 41) (.tmp 42) (.tmp 43) rfl rfl rfl rfl rfl rfl rfl rfl rfl ?_) | (refine wl_store80 rfl (.tmp 9) (.tmp 44) rfl rfl rfl zc hzs ?_))
          clear hz80 hzs hze
          have HP := Lib.hid (show (w8.alloc (.cells plA 80)).heap[w8.heap.size]? = some (.cells plA 80 (0, 0)) from heap_alloc_new w8 _)
          have B9 := Lib.hid (B8.out.alloc hz8 (.cells plA 80))
          have O9 := Lib.hid (O7'.out.alloc (.cells plA 80))
          have N9 := Lib.hid ((own_base O8.out hz7).alloc (.cells plA 80))
          generalize w8.alloc (.cells plA 80) = w9 at *
          have hpg : w7.heap.size ≤ w8.heap.size := by omega
          generalize hgp : w8.heap.size = gp at *
          obtain ⟨s0, hs0⟩ : ∃ s0, ini key nonce ctr = s0 := ⟨_, rfl⟩
          have hl0 : s0.length = 16 := by rw [← hs0]; exact length_ini _ _ _
          have HW0 := Lib.hid (show AW s0 by rw [← hs0]; exact AW.ini key nonce hc)
          have HBK := Lib.hid (show blk key nonce ctr = outB (rnd s0 80) s0 16 by rw [← hs0]; rfl)
          rw [hs0] at O9 N9
          obtain ⟨rf, hrf⟩ : ∃ rf, rnd s0 = rf := ⟨_, rfl⟩
          have HF1 := Lib.hid (fun i => show rnd s0 (i + 1) = qst (rnd s0 i) (pl (i % 8)) (qw (rnd s0 i) (pl (i % 8))) 4 from rfl)
          have HF0 := Lib.hid (show rnd s0 0 = s0 from rfl)
          have HFW := Lib.hid (HW0.out.rnd)
          have HFL := Lib.hid (fun i => (length_rnd s0 i).trans hl0)
          rw [hrf] at HBK HF1 HF0 HFW HFL
          have HPG := Lib.hid hgp
          clear hrf hs0 hgp O7' O8 B8
          generalize hg : w.heap.size = g at *
          have HG := Lib.hid hg
          clear hg
          go_loopw [10] (fun i wr => ∃ k : Nat, k ≤ 80 ∧ i = .int .i64 k ∧ wr.ownsRow g 22 1 (.slice (some ⟨g7, 0, none⟩) 16 c7) 16 (wv (rf k)) ∧ wr.ownsRow g 22 1 (.slice (some ⟨g8, 0, none⟩) 16 c8) 16 (wv s0) ∧ wr.heap[gp]? = some (.cells plA 80 (0, 0)) ∧ Below g w wr) (fun i _ => 80 - (intOf i).toNat)
          case atStart => exact ⟨0, by omega, rfl, by rw [HF0.out]; exact O9.out, N9.out, HP.out, B9.out⟩
          case round =>
            obtain ⟨k, hk, rfl, o7, o8, hp, b⟩ := hrel
            have O7 := Lib.hid o7
            have O8 := Lib.hid o8
            have P7 := Lib.hid hp
            have B7 := Lib.hid b
            clear o7 o8 hp b O9 N9 HP B9
            by_cases hlt : k < 80
            · obtain ⟨i8, hi8⟩ : ∃ i8, k % 8 = i8 := ⟨_, rfl⟩
              have hi8a : i8 < 8 := by omega
              have hrem : (k : Int).tmod 8 = (i8 : Int) := by rw [Int.tmod_eq_emod_of_nonneg (by omega)]; omega
              have hi8b : (i8 : Int) < 8 := by omega
              have hrg := World.rangeAt_of_block P7.out (i8 * 4) 4
              rw [plA_at hi8a] at hrg
              obtain ⟨P, hP⟩ : ∃ P, pl i8 = P := ⟨_, rfl⟩
              have hPl : ∀ j, j < 4 → P j < 16 := by rw [← hP]; exact fun j hj => pl_lt hi8a hj
              have pc0 : wr.cell? ⟨gp, i8 * 4, none⟩ = some (.int .i64 (P 0 : Int)) := by rw [← hP]; exact hrg 0 _ rfl
              have pc1 : wr.cell? ⟨gp, i8 * 4 + 1, none⟩ = some (.int .i64 (P 1 : Int)) := by rw [← hP]; exact hrg 1 _ rfl
              have pc2 : wr.cell? ⟨gp, i8 * 4 + 2, none⟩ = some (.int .i64 (P 2 : Int)) := by rw [← hP]; exact hrg 2 _ rfl
              have pc3 : wr.cell? ⟨gp, i8 * 4 + 3, none⟩ = some (.int .i64 (P 3 : Int)) := by rw [← hP]; exact hrg 3 _ rfl
              have HPl := Lib.hid hPl
              have p0 := hPl 0 (by omega)
              have p1 := hPl 1 (by omega)
              have p2 := hPl 2 (by omega)
              have p3 := hPl 3 (by omega)
              have HR1 := Lib.hid (HF1.out k)
              rw [hi8, hP] at HR1
              obtain ⟨s1, hs1⟩ : ∃ s1, rf k = s1 := ⟨_, rfl⟩
              have HL1 := Lib.hid (HFL.out k)
              have HW1 := Lib.hid (HFW.out k)
              rw [hs1] at HR1 O7 HL1 HW1
              clear hs1 hrg hPl hi8 hP
              go_wp2_with fail
              obtain ⟨d, hd⟩ : ∃ d, wr.alloc (.cells #[.int .i64 (P 0 : Int), .int .i64 (P 1 : Int), .int .i64 (P 2 : Int), .int .i64 (P 3 : Int)] 72) = d := ⟨_, rfl⟩
              have hdp : d.heap[wr.heap.size]? = some (.cells #[.int .i64 (P 0 : Int), .int .i64 (P 1 : Int), .int .i64 (P 2 : Int), .int .i64 (P 3 : Int)] 72 (0, 0)) := by rw [← hd]; exact heap_alloc_new wr _
              have hdb : Below wr.heap.size wr d := by rw [← hd]; exact (Below.refl _ _).alloc (Nat.le_refl _) _
              have hds : wr.heap.size < d.heap.size := by rw [← hd]; simp
              rw [hd]
              have hwz := B7.out.size
              have hg7r := (O7.out.lt g7 rfl).2
              have O7d := Lib.hid (own_later O7.out hdb)
              have O8d := Lib.hid (own_later O8.out hdb)
              have P7d := Lib.hid (show d.heap[gp]? = _ from (hdb.block gp (Array.getElem?_eq_some_iff.1 P7.out).1).trans P7.out)
              have B7d := Lib.hid (B7.out.trans (hdb.mono (by rw [HG.out] at hwz; exact hwz)))
              have hq0 : d.cell? ⟨wr.heap.size, 0, none⟩ = some (.int .i64 (P 0 : Int)) := blk_cell hdp
              have hq1 : d.cell? ⟨wr.heap.size, 1, none⟩ = some (.int .i64 (P 1 : Int)) := blk_cell hdp
              have hq2 : d.cell? ⟨wr.heap.size, 2, none⟩ = some (.int .i64 (P 2 : Int)) := blk_cell hdp
              have hq3 : d.cell? ⟨wr.heap.size, 3, none⟩ = some (.int .i64 (P 3 : Int)) := blk_cell hdp
              have scell : ∀ j, j < 16 → d.cell? ⟨g7, j, none⟩ = some (.int .u32 (it s1 j)) := fun j hj => by
                have := O7d.out.cellAt j (by omega)
                rw [wv_at s1 j (by rw [HL1.out]; exact hj)] at this
                exact this
              have hs0 := scell (P 0) p0
              have hs1 := scell (P 1) p1
              have hs2 := scell (P 2) p2
              have hs3 := scell (P 3) p3
              have hg7d := (O7d.out.lt g7 rfl).2
              have KS := Lib.hid (fun (W : World) (hW : Below d.heap.size d W) => show W.cell? ⟨wr.heap.size, 0, none⟩ = some (.int .i64 (P 0 : Int)) ∧ W.cell? ⟨wr.heap.size, 1, none⟩ = some (.int .i64 (P 1 : Int)) ∧ W.cell? ⟨wr.heap.size, 2, none⟩ = some (.int .i64 (P 2 : Int)) ∧ W.cell? ⟨wr.heap.size, 3, none⟩ = some (.int .i64 (P 3 : Int)) ∧ W.cell? ⟨g7, P 0, none⟩ = some (.int .u32 (it s1 (P 0))) ∧ W.cell? ⟨g7, P 1, none⟩ = some (.int .u32 (it s1 (P 1))) ∧ W.cell? ⟨g7, P 2, none⟩ = some (.int .u32 (it s1 (P 2))) ∧ W.cell? ⟨g7, P 3, none⟩ = some (.int .u32 (it s1 (P 3))) from
                ⟨(hW.cell (p := ⟨wr.heap.size, 0, none⟩) hds).trans hq0, (hW.cell (p := ⟨wr.heap.size, 1, none⟩) hds).trans hq1, (hW.cell (p := ⟨wr.heap.size, 2, none⟩) hds).trans hq2, (hW.cell (p := ⟨wr.heap.size, 3, none⟩) hds).trans hq3, (hW.cell (p := ⟨g7, P 0, none⟩) hg7d).trans hs0, (hW.cell (p := ⟨g7, P 1, none⟩) hg7d).trans hs1, (hW.cell (p := ⟨g7, P 2, none⟩) hg7d).trans hs2, (hW.cell (p := ⟨g7, P 3, none⟩) hg7d).trans hs3⟩)
              have HQ := Lib.hid (RefQuarter_any (it s1 (P 0)) (it s1 (P 1)) (it s1 (P 2)) (it s1 (P 3)) (HW1.out.at_ _) (HW1.out.at_ _) (HW1.out.at_ _) (HW1.out.at_ _))
              have HQW := Lib.hid (show ∀ j, qw s1 P j = _ from fun j => rfl)
              have HDP := Lib.hid hdp
              have HDS := Lib.hid hds
              clear scell hs0 hs1 hs2 hs3 hq0 hq1 hq2 hq3 pc0 pc1 pc2 pc3 O7 O8 B7 hdp hdb hd
              have k0 := KS.out d.drew (Below.refl _ _).drew
              have k1 := fun o => KS.out (d.alloc o).drew ((Below.refl _ _).alloc (Nat.le_refl _) _).drew
              have K0 := Lib.hid k0
              have K1 := Lib.hid k1
              clear k0 k1
              generalize hgq : wr.heap.size = gq at *
              generalize hx0 : it s1 (P 0) = x0 at *
              generalize hx1 : it s1 (P 1) = x1 at *
              generalize hx2 : it s1 (P 2) = x2 at *
              generalize hx3 : it s1 (P 3) = x3 at *
              generalize hqq : quarter x0 x1 x2 x3 = qq at *
              obtain ⟨y0, y1, y2, y3⟩ := qq
              simp only at HQ
              generalize hP0 : P 0 = P0 at *
              generalize hP1 : P 1 = P1 at *
              generalize hP2 : P 2 = P2 at *
              generalize hP3 : P 3 = P3 at *
              have e0 : (P0 : Int) < 16 := by omega
              have e1 : (P1 : Int) < 16 := by omega
              have e2 : (P2 : Int) < 16 := by omega
              have e3 : (P3 : Int) < 16 := by omega
              have HX := Lib.hid (And.intro hx0 (And.intro hx1 (And.intro hx2 (And.intro hx3 (And.intro hqq (And.intro hP0 (And.intro hP1 (And.intro hP2 hP3))))))))
              clear hx0 hx1 hx2 hx3 hqq hP0 hP1 hP2 hP3
              go_region_held3 (fun w' => w'.cell? ⟨gq, 0, none⟩ = some (.int .i64 (P0 : Int)) ∧ w'.cell? ⟨gq, 1, none⟩ = some (.int .i64 (P1 : Int)) ∧ w'.cell? ⟨gq, 2, none⟩ = some (.int .i64 (P2 : Int)) ∧ w'.cell? ⟨gq, 3, none⟩ = some (.int .i64 (P3 : Int)) ∧ w'.cell? ⟨g7, P0, none⟩ = some (.int .u32 x0) ∧ w'.cell? ⟨g7, P1, none⟩ = some (.int .u32 x1) ∧ w'.cell? ⟨g7, P2, none⟩ = some (.int .u32 x2) ∧ w'.cell? ⟨g7, P3, none⟩ = some (.int .u32 x3))
                (first | (with_reducible exact K0.out) | (with_reducible exact K1.out _) | (with_reducible exact KS.out _ HBa.out) | (with_reducible exact KS.out _ (HBa.out.alloc (HBa.out.size) _)) | (with_reducible exact KS.out _ ((((HBa.out.setCell (Nat.le_refl _) _).setCell (Nat.le_refl _) _).setCell (Nat.le_refl _) _).setCell (Nat.le_refl _) _)))
                (first
                | (go_at_call 10; refine (HQ.out _).mono ?_; rintro e wa ⟨rfl, hba⟩; have HBa := Lib.hid (show Below d.heap.size d wa from Below.trans (Below.refl _ d).drew hba); clear hba)
                | (go_at_call 10; refine (HQ.out _).mono ?_; rintro e wa ⟨rfl, hba⟩; have HBa := Lib.hid (show Below d.heap.size d wa from Below.trans ((Below.refl _ d).alloc (Nat.le_refl _) _).drew (hba.mono (by simp))); have hblk : wa.heap[d.heap.size]? = some (.cells #[.int .u32 0, .int .u32 0, .int .u32 0, .int .u32 0] 23 (0, 0)) := (hba.block d.heap.size (by simp)).trans (heap_alloc_new d _); have HBK2 := Lib.hid hblk; have vc0 : wa.cell? ⟨d.heap.size, 0, none⟩ = some (.int .u32 0) := blk_cell hblk; have vc1 : wa.cell? ⟨d.heap.size, 1, none⟩ = some (.int .u32 0) := blk_cell hblk; have vc2 : wa.cell? ⟨d.heap.size, 2, none⟩ = some (.int .u32 0) := blk_cell hblk; have vc3 : wa.cell? ⟨d.heap.size, 3, none⟩ = some (.int .u32 0) := blk_cell hblk; have vf0 : wa.frozen? ⟨d.heap.size, 0, none⟩ = false := frozen_of_row _ _ 0 _ _ hblk; have vf1 : wa.frozen? ⟨d.heap.size, 1, none⟩ = false := frozen_of_row _ _ 1 _ _ hblk; have vf2 : wa.frozen? ⟨d.heap.size, 2, none⟩ = false := frozen_of_row _ _ 2 _ _ hblk; have vf3 : wa.frozen? ⟨d.heap.size, 3, none⟩ = false := frozen_of_row _ _ 3 _ _ hblk; clear hba hblk))
              · as_aux_lemma =>
                have HY := Lib.hid (show (wa.alloc (.cells #[.int .u32 y0, .int .u32 y1, .int .u32 y2, .int .u32 y3] 23)).heap[wa.heap.size]? = some (.cells #[.int .u32 y0, .int .u32 y1, .int .u32 y2, .int .u32 y3] 23 (0, 0)) from heap_alloc_new wa _)
                have HBY := Lib.hid (HBa.out.alloc HBa.out.size (.cells #[.int .u32 y0, .int .u32 y1, .int .u32 y2, .int .u32 y3] 23))
                have hgy : d.heap.size ≤ wa.heap.size := HBa.out.size
                clear HBa
                generalize wa.alloc (.cells #[.int .u32 y0, .int .u32 y1, .int .u32 y2, .int .u32 y3] 23) = W at *
                generalize wa.heap.size = gy at *
                clear wa
                have O7w := Lib.hid (own_later O7d.out HBY.out)
                have O8w := Lib.hid (own_later O8d.out HBY.out)
                have P7w := Lib.hid (show W.heap[gp]? = some (.cells plA 80 (0, 0)) from (HBY.out.block gp (Array.getElem?_eq_some_iff.1 P7d.out).1).trans P7d.out)
                have B7w := Lib.hid (B7d.out.trans (HBY.out.mono (by have := B7d.out.size; rw [HG.out] at this; exact this)))
                have HQw := Lib.hid (show W.heap[gq]? = _ from (HBY.out.block gq HDS.out).trans HDP.out)
                clear O7d O8d P7d B7d HBY KS K0 K1 HDP HDS HQ
                go_wp2_with fail
                go_loopw [13] (fun i wr => ∃ j : Nat, j ≤ 4 ∧ i = .int .i64 j ∧ wr.ownsRow g 22 1 (.slice (some ⟨g7, 0, none⟩) 16 c7) 16 (wv (qst s1 P (qw s1 P) j)) ∧ wr.ownsRow g 22 1 (.slice (some ⟨g8, 0, none⟩) 16 c8) 16 (wv s0) ∧ wr.heap[gp]? = some (.cells plA 80 (0, 0)) ∧ wr.heap[gq]? = some (.cells #[.int .i64 (P0 : Int), .int .i64 (P1 : Int), .int .i64 (P2 : Int), .int .i64 (P3 : Int)] 72 (0, 0)) ∧ wr.heap[gy]? = some (.cells #[.int .u32 y0, .int .u32 y1, .int .u32 y2, .int .u32 y3] 23 (0, 0)) ∧ Below g w wr) (fun i _ => 4 - (intOf i).toNat)
                case atStart => exact ⟨0, by omega, rfl, O7w.out, O8w.out, P7w.out, HQw.out, HY.out, B7w.out⟩
                case round =>
                  obtain ⟨j, hj, rfl, o7, o8, hp, hq, hy, b⟩ := hrel
                  have O7 := Lib.hid o7
                  have O8 := Lib.hid o8
                  have P7 := Lib.hid hp
                  have Q7 := Lib.hid hq
                  have Y7 := Lib.hid hy
                  have B7 := Lib.hid b
                  clear o7 o8 hp hq hy b O7w O8w P7w B7w HQw HY
                  by_cases hj4 : j < 4
                  · have hpj := HPl.out j hj4
                    have hcp : wr.cell? ⟨gq, j, none⟩ = some (.int .i64 (P j : Int)) := by
                      rw [blk_cell Q7.out]
                      obtain ⟨_, _, _, _, _, hP0, hP1, hP2, hP3⟩ := HX.out
                      have hcase : j = 0 ∨ j = 1 ∨ j = 2 ∨ j = 3 := by omega
                      rcases hcase with rfl | rfl | rfl | rfl
                      · rw [hP0]; rfl
                      · rw [hP1]; rfl
                      · rw [hP2]; rfl
                      · rw [hP3]; rfl
                    have hcy : wr.cell? ⟨gy, j, none⟩ = some (.int .u32 (qw s1 P j)) := by
                      rw [blk_cell Y7.out]
                      obtain ⟨hx0, hx1, hx2, hx3, hqq, hP0, hP1, hP2, hP3⟩ := HX.out
                      have hcase : j = 0 ∨ j = 1 ∨ j = 2 ∨ j = 3 := by omega
                      unfold qw
                      rw [hP0, hP1, hP2, hP3, hx0, hx1, hx2, hx3, hqq]
                      rcases hcase with rfl | rfl | rfl | rfl <;> rfl
                    have hcs := O7.out.cellAt (P j) (by omega)
                    rw [wv_at _ (P j) (by rw [length_qst, HL1.out]; exact hpj)] at hcs
                    have hfs := O7.out.frozenAt (P j)
                    obtain ⟨z, hz⟩ : ∃ z, it (qst s1 P (qw s1 P) j) (P j) = z := ⟨_, rfl⟩
                    rw [hz] at hcs
                    clear hz
                    obtain ⟨y, hyE⟩ : ∃ y, qw s1 P j = y := ⟨_, rfl⟩
                    rw [hyE] at hcy
                    have HYE := Lib.hid hyE
                    clear hyE
                    have hj4' : (j : Int) < 4 := by omega
                    have hpj' : ((P j : Nat) : Int) < 16 := by omega
                    go_wp2_with fail
                    go_still_tail 8, (by kernel_rfl)
                    change wpList _ _ _ _ _ (World.drew _)
                    go_wp2_with fail
                    refine ⟨⟨j + 1, by omega, by go_num, ?_, ?_, ?_, ?_, ?_, ?_⟩, by simp [intOf]; omega⟩
                    · have h := (O7.out.stored (P j) (.int .u32 y)).1
                      rw [wv_lset, ← HYE.out] at h
                      rw [← HYE.out]
                      exact h
                    · exact (show (wr.setCell ⟨g7, P j, none⟩ (.int .u32 y)).ownsRow g 22 1 (.slice (some ⟨g8, 0, none⟩) 16 c8) 16 (wv s0) from O8.out.kept (grown_setCell wr g7 (P j) _) (.inr (by simp [Value.ownBlock]; omega)))
                    · exact (Below.heap_setCell _ _ _ _ (by simp only; omega)).trans P7.out
                    · exact (Below.heap_setCell _ _ _ _ (by simp only; omega)).trans Q7.out
                    · exact (Below.heap_setCell _ _ _ _ (by simp only; omega)).trans Y7.out
                    · exact (B7.out.drew).setCell (by simp only; omega) _
                  · obtain rfl : j = 4 := by omega
                    simp only [Int.cast_ofNat_Int]
                    go_wp2_with fail
                    refine ⟨⟨k + 1, by omega, by go_num, ?_, O8.out, P7.out, B7.out⟩, by simp [intOf]; omega⟩
                    rw [HR1.out]
                    exact O7.out
              · as_aux_lemma =>
                have HY := Lib.hid (show ((((wa.setCell ⟨d.heap.size, 0, none⟩ (.int .u32 y0)).setCell ⟨d.heap.size, 1, none⟩ (.int .u32 y1)).setCell ⟨d.heap.size, 2, none⟩ (.int .u32 y2)).setCell ⟨d.heap.size, 3, none⟩ (.int .u32 y3)).heap[d.heap.size]? = some (.cells #[.int .u32 y0, .int .u32 y1, .int .u32 y2, .int .u32 y3] 23 (0, 0)) from blk_set (blk_set (blk_set (blk_set HBK2.out _) _) _) _)
                have HBY := Lib.hid (show Below d.heap.size d ((((wa.setCell ⟨d.heap.size, 0, none⟩ (.int .u32 y0)).setCell ⟨d.heap.size, 1, none⟩ (.int .u32 y1)).setCell ⟨d.heap.size, 2, none⟩ (.int .u32 y2)).setCell ⟨d.heap.size, 3, none⟩ (.int .u32 y3)) from (((HBa.out.setCell (Nat.le_refl _) _).setCell (Nat.le_refl _) _).setCell (Nat.le_refl _) _).setCell (Nat.le_refl _) _)
                clear HBa HBK2 vc0 vc1 vc2 vc3 vf0 vf1 vf2 vf3
                generalize (((wa.setCell ⟨d.heap.size, 0, none⟩ (.int .u32 y0)).setCell ⟨d.heap.size, 1, none⟩ (.int .u32 y1)).setCell ⟨d.heap.size, 2, none⟩ (.int .u32 y2)).setCell ⟨d.heap.size, 3, none⟩ (.int .u32 y3) = W at *
                clear wa
                obtain ⟨gy, hgyE⟩ : ∃ gy, d.heap.size = gy := ⟨_, rfl⟩
                have hgy : d.heap.size ≤ gy := by omega
                rw [hgyE] at HY
                rw [hgyE]
                clear hgyE
                have O7w := Lib.hid (own_later O7d.out HBY.out)
                have O8w := Lib.hid (own_later O8d.out HBY.out)
                have P7w := Lib.hid (show W.heap[gp]? = some (.cells plA 80 (0, 0)) from (HBY.out.block gp (Array.getElem?_eq_some_iff.1 P7d.out).1).trans P7d.out)
                have B7w := Lib.hid (B7d.out.trans (HBY.out.mono (by have := B7d.out.size; rw [HG.out] at this; exact this)))
                have HQw := Lib.hid (show W.heap[gq]? = _ from (HBY.out.block gq HDS.out).trans HDP.out)
                clear O7d O8d P7d B7d HBY KS K0 K1 HDP HDS HQ
                go_wp2_with fail
                go_loopw [13] (fun i wr => ∃ j : Nat, j ≤ 4 ∧ i = .int .i64 j ∧ wr.ownsRow g 22 1 (.slice (some ⟨g7, 0, none⟩) 16 c7) 16 (wv (qst s1 P (qw s1 P) j)) ∧ wr.ownsRow g 22 1 (.slice (some ⟨g8, 0, none⟩) 16 c8) 16 (wv s0) ∧ wr.heap[gp]? = some (.cells plA 80 (0, 0)) ∧ wr.heap[gq]? = some (.cells #[.int .i64 (P0 : Int), .int .i64 (P1 : Int), .int .i64 (P2 : Int), .int .i64 (P3 : Int)] 72 (0, 0)) ∧ wr.heap[gy]? = some (.cells #[.int .u32 y0, .int .u32 y1, .int .u32 y2, .int .u32 y3] 23 (0, 0)) ∧ Below g w wr) (fun i _ => 4 - (intOf i).toNat)
                case atStart => exact ⟨0, by omega, rfl, O7w.out, O8w.out, P7w.out, HQw.out, HY.out, B7w.out⟩
                case round =>
                  obtain ⟨j, hj, rfl, o7, o8, hp, hq, hy, b⟩ := hrel
                  have O7 := Lib.hid o7
                  have O8 := Lib.hid o8
                  have P7 := Lib.hid hp
                  have Q7 := Lib.hid hq
                  have Y7 := Lib.hid hy
                  have B7 := Lib.hid b
                  clear o7 o8 hp hq hy b O7w O8w P7w B7w HQw HY
                  by_cases hj4 : j < 4
                  · have hpj := HPl.out j hj4
                    have hcp : wr.cell? ⟨gq, j, none⟩ = some (.int .i64 (P j : Int)) := by
                      rw [blk_cell Q7.out]
                      obtain ⟨_, _, _, _, _, hP0, hP1, hP2, hP3⟩ := HX.out
                      have hcase : j = 0 ∨ j = 1 ∨ j = 2 ∨ j = 3 := by omega
                      rcases hcase with rfl | rfl | rfl | rfl
                      · rw [hP0]; rfl
                      · rw [hP1]; rfl
                      · rw [hP2]; rfl
                      · rw [hP3]; rfl
                    have hcy : wr.cell? ⟨gy, j, none⟩ = some (.int .u32 (qw s1 P j)) := by
                      rw [blk_cell Y7.out]
                      obtain ⟨hx0, hx1, hx2, hx3, hqq, hP0, hP1, hP2, hP3⟩ := HX.out
                      have hcase : j = 0 ∨ j = 1 ∨ j = 2 ∨ j = 3 := by omega
                      unfold qw
                      rw [hP0, hP1, hP2, hP3, hx0, hx1, hx2, hx3, hqq]
                      rcases hcase with rfl | rfl | rfl | rfl <;> rfl
                    have hcs := O7.out.cellAt (P j) (by omega)
                    rw [wv_at _ (P j) (by rw [length_qst, HL1.out]; exact hpj)] at hcs
                    have hfs := O7.out.frozenAt (P j)
                    obtain ⟨z, hz⟩ : ∃ z, it (qst s1 P (qw s1 P) j) (P j) = z := ⟨_, rfl⟩
                    rw [hz] at hcs
                    clear hz
                    obtain ⟨y, hyE⟩ : ∃ y, qw s1 P j = y := ⟨_, rfl⟩
                    rw [hyE] at hcy
                    have HYE := Lib.hid hyE
                    clear hyE
                    have hj4' : (j : Int) < 4 := by omega
                    have hpj' : ((P j : Nat) : Int) < 16 := by omega
                    go_wp2_with fail
                    go_still_tail 8, (by kernel_rfl)
                    change wpList _ _ _ _ _ (World.drew _)
                    go_wp2_with fail
                    refine ⟨⟨j + 1, by omega, by go_num, ?_, ?_, ?_, ?_, ?_, ?_⟩, by simp [intOf]; omega⟩
                    · have h := (O7.out.stored (P j) (.int .u32 y)).1
                      rw [wv_lset, ← HYE.out] at h
                      rw [← HYE.out]
                      exact h
                    · exact (show (wr.setCell ⟨g7, P j, none⟩ (.int .u32 y)).ownsRow g 22 1 (.slice (some ⟨g8, 0, none⟩) 16 c8) 16 (wv s0) from O8.out.kept (grown_setCell wr g7 (P j) _) (.inr (by simp [Value.ownBlock]; omega)))
                    · exact (Below.heap_setCell _ _ _ _ (by simp only; omega)).trans P7.out
                    · exact (Below.heap_setCell _ _ _ _ (by simp only; omega)).trans Q7.out
                    · exact (Below.heap_setCell _ _ _ _ (by simp only; omega)).trans Y7.out
                    · exact (B7.out.drew).setCell (by simp only; omega) _
                  · obtain rfl : j = 4 := by omega
                    simp only [Int.cast_ofNat_Int]
                    go_wp2_with fail
                    refine ⟨⟨k + 1, by omega, by go_num, ?_, O8.out, P7.out, B7.out⟩, by simp [intOf]; omega⟩
                    rw [HR1.out]
                    exact O7.out
            · as_aux_lemma =>
              obtain rfl : k = 80 := by omega
              simp only [Int.cast_ofNat_Int]
              obtain ⟨sf, hsf⟩ : ∃ sf, rf 80 = sf := ⟨_, rfl⟩
              have HLF := Lib.hid (HFL.out 80)
              have HWF := Lib.hid (HFW.out 80)
              rw [hsf] at O7 HBK HLF HWF
              have HL0 := Lib.hid hl0
              have hgw := B7.out.size
              rw [HG.out] at hgw
              clear hsf HFL HFW HF0 HF1 P7 hl0
              go_wp2_with fail
              go_loopw [14, 15] (fun v i wr => ∃ (k : Nat) (A2 : Option Addr) (c2 : Nat), k ≤ 16 ∧ i = .int .i64 k ∧ v = .slice A2 (4 * k) c2 ∧ wr.ownsRow g 5 1 (.slice A2 (4 * k) c2) (4 * k) (bv (outB sf s0 k)) ∧ wr.ownsRow g 22 1 (.slice (some ⟨g7, 0, none⟩) 16 c7) 16 (wv sf) ∧ wr.ownsRow g 22 1 (.slice (some ⟨g8, 0, none⟩) 16 c8) 16 (wv s0) ∧ Below g w wr) (fun _ i _ => 16 - (intOf i).toNat)
              case atStart => exact ⟨0, none, 0, by omega, rfl, rfl, World.ownsRow_nil _ _ _ _, O7.out, O8.out, B7.out⟩
              case round =>
                obtain ⟨k, A9, c9, hk, rfl, rfl, o, o7, o8, b⟩ := hrel
                have OO := Lib.hid o
                have O7r := Lib.hid o7
                have O8r := Lib.hid o8
                have B7r := Lib.hid b
                have hgr0 := b.size
                rw [HG.out] at hgr0
                clear o o7 o8 b O7 O8 B7
                by_cases hlt : k < 16
                · have hi : (k : Int) < 16 := by omega
                  have hq7 := O7r.out.cellAt k (by omega)
                  rw [wv_at sf k (by rw [HLF.out]; exact hlt)] at hq7
                  have hq8 := O8r.out.cellAt k (by omega)
                  rw [wv_at s0 k (by rw [HL0.out]; exact hlt)] at hq8
                  have hl7 := (O7r.out.lt g7 rfl).2
                  have hl8 := (O8r.out.lt g8 rfl).2
                  obtain ⟨x1, x2⟩ := HWF.out.at_ k
                  obtain ⟨y1, y2⟩ := HW0.out.at_ k
                  generalize hx : it sf k = x at *
                  generalize hy : it s0 k = y at *
                  have HXE := Lib.hid hx
                  have HYE := Lib.hid hy
                  clear hx hy
                  obtain ⟨v, hv⟩ : ∃ v : Nat, (x + y) % 4294967296 = (v : Int) := Int.eq_ofNat_of_zero_le (by omega)
                  have hv32 : v < 4294967296 := by omega
                  have HV := Lib.hid hv
                  have hpe : putE 1 4 v = 0 := by
                    unfold putE
                    rw [if_neg (by decide), if_neg (by show ¬ 256 ^ 4 ≤ v; omega)]
                  have HPL := Lib.hid (show putL 1 4 v = fourB (ad x y) by
                    unfold putL
                    rw [if_pos hpe]
                    unfold fourB ad
                    rw [hv]
                    rfl)
                  have HPE := Lib.hid hpe
                  have HWR := Lib.hid (show IntKind.u64.wrap (IntKind.u32.wrap (x + y)) = (v : Int) by rw [IntKind.wrap_u32, hv, IntKind.wrap_u64]; omega)
                  clear hpe hv
                  go_wp2_with fail
                  go_region_held3 (fun w' => w'.cell? ⟨g7, k, none⟩ = some (.int .u32 x) ∧ w'.cell? ⟨g8, k, none⟩ = some (.int .u32 y)) (go_keep) (first | (go_at_call 39; rw [HWR.out]; refine (RefPut_any 1 4 v _ (by omega)).mono ?_; rw [HPL.out, HPE.out]; rintro e wp ⟨Ap, np, cp, rfl, hnp, hop, hbp⟩; have kp0 := (hbp.cell (p := ⟨g7, k, none⟩) hl7).trans hq7; have kp1 := (hbp.cell (p := ⟨g8, k, none⟩) hl8).trans hq8))
                  rw [length_fourB] at hnp
                  subst hnp
                  have hbp' : Below wr.heap.size wr wp := Below.trans (Below.refl wr.heap.size wr).drew hbp
                  have OOp := Lib.hid (own_later OO.out hbp')
                  have O7p := Lib.hid (own_later O7r.out hbp')
                  have O8p := Lib.hid (own_later O8r.out hbp')
                  have RP := Lib.hid (RB.of_own hop)
                  have BP := Lib.hid (B7r.out.trans (hbp'.mono hgr0))
                  have hgp := hbp'.size
                  clear hbp hbp' hop kp0 kp1 hq7 hq8 hl7 hl8 OO O7r O8r B7r
                  go_wp2_with (at_builtin; refine wl_app TB rfl (.tmp 105) (.tmp 106) rfl _ rfl Ap 4 cp rfl g (4 * k) _ OOp.out wp.heap.size (bv (fourB (ad x y))) RP.out (bv_one _) (by omega) (by omega) (by omega) ?q6)
                  case q6 =>
                    intro A3 c3 w3 hown hgr hat
                    have h4 : 4 * k + 4 = 4 * (k + 1) := by omega
                    rw [← bv_append, ← HXE.out, ← HYE.out, ← outB_succ, h4] at hown
                    rw [h4]
                    have Oq := Lib.hid hown
                    have O7q := Lib.hid (O7p.out.kept hgr (own_ne O7p.out OOp.out (by decide)))
                    have O8q := Lib.hid (O8p.out.kept hgr (own_ne O8p.out OOp.out (by decide)))
                    have Bq := Lib.hid (BP.out.grown hgr (by omega) (own_drop OOp.out))
                    clear hown hgr hat h4
                    go_wp2_with fail
                    exact ⟨⟨k + 1, A3, c3, by omega, by go_num, rfl, Oq.out, O7q.out, O8q.out, Bq.out⟩, by simp [intOf]; omega⟩
                · obtain rfl : k = 16 := by omega
                  simp only [Int.cast_ofNat_Int]
                  go_wp2_with fail
                  go_ret
                  obtain ⟨g9, rfl, _, _⟩ := own_at OO.out (by omega)
                  refine ⟨g9, c9, rfl, ?_, ?_⟩
                  · rw [HBK.out, HG.out]
                    exact OO.out
                  · rw [HG.out]
                    exact B7r.out
end Go.Proofs.Ytbnlpahgpphpjaa
