/-
  The walk of shallotlaw08.TapeKeeps: for every list of bytes the law returns true and writes nothing that was there. Conditions: the size that a slice can have.
-/
import Derived.Test.YtcjpfjmmnnfieaaDraws
import Derived.Test.YtcjpfjmmnnfieaaFeed
import Derived.Test.YtcjpfjmmnnfieaaTapeAwake
import Derived.Test.YtcjpfjmmnnfieaaApart
import Derived.Test.YtcjpfjmmnnfieaaApartLit
namespace Go.Proofs.Ytcjpfjmmnnfieaa
open Go Go.RowKit Go.Sh

theorem tak_ok {l : List UInt8} {a k : Nat} (h : a + k ≤ l.length) : takE l.length a (k : Int) = 0 ∧ takL l a (k : Int) = (l.drop a).take k ∧ takN l.length a (k : Int) = a + k ∧ drwE l.length a (k : Int) = 0 := by
  have h0 : takE l.length a (k : Int) = 0 := by
    unfold takE
    rw [if_neg (by omega), if_neg (by omega)]
  refine ⟨h0, ?_, ?_, ?_⟩
  · unfold takL
    rw [if_pos h0, Int.toNat_natCast]
  · unfold takN
    rw [if_pos h0, Int.toNat_natCast]
  · unfold drwE
    rw [h0]
    rfl
theorem drs_ok {l : List UInt8} {k : Nat} (h : 3 * k ≤ l.length) : drE l.length k [(k : Int), 0, (k : Int)] = 0 ∧ drL l k [(k : Int), 0, (k : Int)] = [(l.drop k).take k, [], (l.drop (2 * k)).take k] := by
  have h0 : drE l.length k [(k : Int), 0, (k : Int)] = 0 := by
    unfold drE
    rw [if_neg (by simp [negB]), if_neg (by simp [pre]; omega)]
  refine ⟨h0, ?_⟩
  unfold drL
  rw [if_pos h0]
  simp [cutP, pce, pre, it, List.range_succ, List.drop_drop]
  congr 2
  omega
theorem EqPost.quiet0 {P : Program} {f : FuncId} {args : Array Value} {w : World} {n : Nat} {b : Bool} (h : Calls P f args (w.drewN n) (EqPost (w.drewN n) b)) :
    Calls P f args (w.drewN n) fun e w'' => e = .returned (.bool b) ∧ ∃ m, w'' = w.drewN m := by
  refine h.mono fun e w'' hh => ?_
  obtain ⟨h1, k, rfl⟩ := hh
  exact ⟨h1, n + k, by rw [World.drewN_drewN]⟩

set_option maxHeartbeats 4000000 in
set_option maxRecDepth 100000 in
theorem TapeKeeps_walk (A : Option Addr) (n c : Nat) (l : List UInt8) (w : World) (hr : RB w w.heap.size A n l) (hn : n ≤ 140737488351232) (hc : n ≤ c) : Calls Try.prog 7 #[.slice A n c] w (LawPost w) := by
  have HL := Lib.hid hr.len
  have HR := Lib.hid hr
  clear hr
  go_enter Try.func7, Try.ntmps7
  go_wp2_with fail
  refine (awake_any w).mono ?_
  rintro e w1 ⟨rfl, hb⟩
  have HB1 := Lib.hid hb
  have hz1 := hb.size
  clear hb
  go_wp2_with fail
  refine (Spare_any A n c l w1 w.heap.size (HR.out.below HB1.out) hz1 (by omega)).mono ?_
  rintro e w2 ⟨g, rfl, ho, hb⟩
  have HB2 := Lib.hid (HB1.out.trans (hb.mono hz1))
  have hz2 := hb.size
  have hg2 := ho.lt g rfl
  have HX2 := Lib.hid (show RB w2 w2.heap.size (some ⟨g, 0, none⟩) n l from by
    have h := (RB.of_own ho).take (k := n) (by omega)
    rw [show (spared l).take n = l by rw [← HL.out]; simp [spared]] at h
    exact h)
  have HO2 := Lib.hid ho
  clear hb ho HB1
  go_wp2_with fail
  refine (NewTape_any (some ⟨g, 0, none⟩) n (n + 40) l w2 w2.heap.size HX2.out (Nat.le_refl _) (by omega)).mono ?_
  rintro e w3 ⟨p, S, rfl, hcur, hb⟩
  have HB3 := Lib.hid (HB2.out.trans (hb.mono (by omega)))
  have hz3 := hb.size
  have HX3 := Lib.hid (HX2.out.below hb)
  have HO3 := Lib.hid (own_later HO2.out hb)
  have HC3 := Lib.hid hcur
  have hp3 := hcur.lt
  have hp2 : w2.heap.size ≤ p := hcur.1
  clear hb hcur HB2 HX2 HO2
  go_wp2_with fail
  refine (NewFeed_any (some ⟨g, 0, none⟩) none n (n + 40) 0 0 l [] w3 w2.heap.size w3.heap.size HX3.out hz3 (by omega) ⟨Reads.none_, fun x hx => by simp at hx⟩ (Nat.le_refl _) (by omega)).mono ?_
  rintro e w4 ⟨hb4, hcase⟩
  have HB4 := Lib.hid (HB3.out.trans (hb4.mono (by omega)))
  have hz4 := hb4.size
  have HO4 := Lib.hid (own_later HO3.out hb4)
  have HC4 := Lib.hid (HC3.out.later hb4)
  have ha0 : acksE [] 0 = 0 := by rfl
  clear hb4 HB3 HX3 HO3 HC3
  rcases hcase with ⟨hne, rfl⟩ | ⟨he, f, SF, K, rfl, hfeed⟩
  · have hbig : 1048576 < n := by
      by_cases h : 1048576 < n
      · exact h
      · rw [feedE, if_pos ha0, HL.out, if_neg h] at hne
        exact absurd rfl hne
    have hE : feedE l [] 0 = 2 := by rw [feedE, if_pos ha0, HL.out, if_pos hbig]
    rw [hE]
    have d1 : decide ((1048576 : Int) < (n : Int)) = true := by simp; omega
    clear hE hne
    go_wp2_with fail
    go_ret
    exact ⟨rfl, HB4.out⟩
  · have hsm : n ≤ 1048576 := by
      by_cases h : 1048576 < n
      · rw [feedE, if_pos ha0, HL.out, if_pos h] at he
        exact absurd he (by decide)
      · omega
    have d1 : decide ((1048576 : Int) < (n : Int)) = false := by simp; omega
    have HF4 := Lib.hid hfeed
    have hf4 := hfeed.1.lt
    have hf3 : w3.heap.size ≤ f := hfeed.1.1
    have hq : (n : Int).tdiv 3 = ((n / 3 : Nat) : Int) := by rw [Int.tdiv_eq_ediv_of_nonneg (by omega)]; omega
    obtain ⟨k, hk⟩ : ∃ k, n / 3 = k := ⟨_, rfl⟩
    have hk3 : 3 * k ≤ n := by omega
    rw [hk] at hq
    clear hfeed he hk ha0
    go_wp2_with fail
    refine (Draw_any 67 [] S (by decide) p w2.heap.size l 0 (k : Int) w4 HC4.out (by rw [HL.out]; omega)).mono ?_
    rintro e w5 ⟨A1, n1, c1, rfl, hl1, ho1, _, hc5, hg5⟩
    obtain ⟨t1, t2, t3, t4⟩ := tak_ok (l := l) (a := 0) (k := k) (by rw [HL.out]; omega)
    rw [t2, List.drop_zero] at hl1 ho1
    rw [t3, Nat.zero_add] at hc5
    rw [t4]
    obtain rfl : k = n1 := by rw [← hl1, List.length_take, HL.out]; omega
    clear t1 t2 t3 t4 hl1
    have hrow4 : ∃ cs fr, w4.heap[p]? = some (.cells cs 67 fr) := by
      obtain ⟨_, _, _, _, _, _, h, _⟩ := HC4.out
      exact ⟨_, _, h⟩
    obtain ⟨cs4, fr4, hrow4⟩ := hrow4
    have HO5 := Lib.hid (HO4.out.kept hg5 (own_off HO4.out hrow4 (by decide)))
    have HF5 := Lib.hid (show FeedAt w5 w3.heap.size f SF l 0 0 [] K 0 [] from HF4.out.other hg5 (by omega) (by
      obtain ⟨_, _, _, _, _, rfl, _, h⟩ := HF4.out.1
      exact far_own h hp3) (far_own HF4.out.2.2.1 hp3))
    have HB5 := Lib.hid (HB4.out.grown hg5 (by omega) (fun q hq => by injection hq with hq; omega))
    have HP5 := Lib.hid ho1
    have HC5 := Lib.hid hc5
    have hz5 := hg5.size
    clear ho1 hc5 hg5 hrow4 HO4 HF4 HB4 HC4
    have hb5 := (Below.refl w5.heap.size w5).alloc (Nat.le_refl _) (.cells #[.int .i64 (k : Int), .int .i64 0, .int .i64 (k : Int)] 3)
    have HRI := Lib.hid (show RI (w5.alloc (.cells #[.int .i64 (k : Int), .int .i64 0, .int .i64 (k : Int)] 3)) (w5.heap.size + 1) (some ⟨w5.heap.size, 0, none⟩) 3 [(k : Int), 0, (k : Int)] from
      ⟨Reads.lit w5 3 [.int .i64 (k : Int), .int .i64 0, .int .i64 (k : Int)] 3 1 rfl _ rfl, fun z hz => by simp at hz; omega⟩)
    have HO6 := Lib.hid (own_later HO5.out hb5)
    have HF6 := Lib.hid (HF5.out.later hb5)
    have HB6 := Lib.hid (HB5.out.alloc (by omega) (.cells #[.int .i64 (k : Int), .int .i64 0, .int .i64 (k : Int)] 3))
    have HP6 := Lib.hid (own_later HP5.out hb5)
    have HC6 := Lib.hid (HC5.out.later hb5)
    have HBD1 := Lib.hid (show ∀ j, (Value.slice A1 k c1).ownBlock = some j → w4.heap.size ≤ j ∧ j < w5.heap.size from fun j hj => HP5.out.lt j hj)
    clear hb5 HO5 HF5 HB5 HP5 HC5
    go_wp2_with fail
    have hz6 : w5.heap.size < (w5.alloc (.cells #[.int .i64 (k : Int), .int .i64 0, .int .i64 (k : Int)] 3)).heap.size := by simp
    have hz6' : (w5.alloc (.cells #[.int .i64 (k : Int), .int .i64 0, .int .i64 (k : Int)] 3)).heap.size = w5.heap.size + 1 := by simp
    generalize w5.alloc (.cells #[.int .i64 (k : Int), .int .i64 0, .int .i64 (k : Int)] 3) = w6 at *
    refine (Draws_any 67 [] S (by decide) p w2.heap.size l k (some ⟨w5.heap.size, 0, none⟩) 3 3 [(k : Int), 0, (k : Int)] w6 (w5.heap.size + 1) HC6.out HRI.out (by omega) (fun ad had => by injection had with had; subst had; show w5.heap.size ≠ p; omega) (by rw [HL.out]; omega) (by omega)).mono ?_
    rintro e w7 ⟨A2, m2, c2, vs, rfl, hobv, _, hg7⟩
    obtain ⟨d2, d3⟩ := drs_ok (l := l) (k := k) (by rw [HL.out]; omega)
    rw [d3] at hobv
    rw [d2]
    obtain rfl : 3 = m2 := hobv.1
    have hrow6 : ∃ cs fr, w6.heap[p]? = some (.cells cs 67 fr) := by
      obtain ⟨_, _, _, _, _, _, h, _⟩ := HC6.out
      exact ⟨_, _, h⟩
    obtain ⟨cs6, fr6, hrow6⟩ := hrow6
    have HO7 := Lib.hid (HO6.out.kept hg7 (own_off HO6.out hrow6 (by decide)))
    have HP7 := Lib.hid (HP6.out.kept hg7 (own_off HP6.out hrow6 (by decide)))
    have HF7 := Lib.hid (show FeedAt w7 w3.heap.size f SF l 0 0 [] K 0 [] from HF6.out.other hg7 (by omega) (by
      obtain ⟨_, _, _, _, _, rfl, _, h⟩ := HF6.out.1
      exact far_own h hp3) (far_own HF6.out.2.2.1 hp3))
    have HB7 := Lib.hid (HB6.out.grown hg7 (by omega) (fun q hq => by injection hq with hq; omega))
    have HV7 := Lib.hid hobv
    have hz7 := hg7.size
    clear hobv hg7 hrow6 HO6 HF6 HB6 HP6 HC6 d2 d3 HRI
    go_wp2_with fail
    refine (Draw_any 87 (clk 0 [] ++ [K]) SF (by decide) f w3.heap.size l 0 (k : Int) w7 HF7.out.1 (by rw [HL.out]; omega)).mono ?_
    rintro e w8 ⟨A3, n1, c3, rfl, hl3, ho3, _, _, hg8⟩
    obtain ⟨t1, t2, t3, t4⟩ := tak_ok (l := l) (a := 0) (k := k) (by rw [HL.out]; omega)
    rw [t2, List.drop_zero] at hl3 ho3
    rw [t4]
    obtain rfl : k = n1 := by rw [← hl3, List.length_take, HL.out]; omega
    clear t1 t2 t3 t4 hl3
    have HO8 := Lib.hid (HO7.out.kept hg8 (own_off HO7.out HF7.out.row (by decide)))
    have HP8 := Lib.hid (HP7.out.kept hg8 (own_off HP7.out HF7.out.row (by decide)))
    have HV8 := Lib.hid (HV7.out.kept hg8 (by omega))
    have HQ8 := Lib.hid ho3
    have HB8 := Lib.hid (HB7.out.grown hg8 (by omega) (fun q hq => by injection hq with hq; omega))
    have hz8 := hg8.size
    have HVB := Lib.hid (show ∀ u ∈ vs, ∀ j, u.ownBlock = some j → w6.heap.size ≤ j ∧ j < w7.heap.size from HV7.out.lt)
    clear ho3 hg8 HO7 HP7 HV7 HB7 HF7
    obtain ⟨u0, u1, u2, rfl⟩ : ∃ a b c, vs = [a, b, c] := by
      have h := HV8.out.len
      match vs, h with
      | [a, b, c], _ => exact ⟨a, b, c, rfl⟩
    obtain ⟨B0, m0, e0, h0, r0⟩ := HV8.out.2.2.1 0 (by omega)
    obtain ⟨B1, m1, e1, h1, r1⟩ := HV8.out.2.2.1 1 (by omega)
    obtain ⟨B2, m3, e2, h2, r2⟩ := HV8.out.2.2.1 2 (by omega)
    obtain rfl : u0 = .slice B0 m0 e0 := by simpa using h0
    obtain rfl : u1 = .slice B1 m1 e1 := by simpa using h1
    obtain rfl : u2 = .slice B2 m3 e2 := by simpa using h2
    obtain ⟨G, rfl, g0⟩ := own_at2 HV8.out.2.1 (i := 0) (by omega) h0
    obtain ⟨G', hG, g1⟩ := own_at2 HV8.out.2.1 (i := 1) (by omega) h1
    obtain rfl : G = G' := by injection hG with hG; injection hG
    obtain ⟨G', hG', g2⟩ := own_at2 HV8.out.2.1 (i := 2) (by omega) h2
    obtain rfl : G = G' := by injection hG' with hG'; injection hG'
    have HR0 := Lib.hid (show w8.ownsRow w6.heap.size 5 1 (.slice B0 m0 e0) m0 (bv ((l.drop k).take k)) from r0)
    have HR1 := Lib.hid (show w8.ownsRow w6.heap.size 5 1 (.slice B1 m1 e1) m1 (bv []) from r1)
    have HR2 := Lib.hid (show w8.ownsRow w6.heap.size 5 1 (.slice B2 m3 e2) m3 (bv ((l.drop (2 * k)).take k)) from r2)
    obtain rfl : m3 = k := by
      have h := HR2.out.1
      rw [length_bv, List.length_take, List.length_drop, HL.out] at h
      omega
    have HSP := Lib.hid HV8.out.2.2.2
    clear h0 h1 h2 r0 r1 r2 hG hG' HV8
    have hrun1 : ∀ W, (Instr.slice 62 (.slice A n c) none (some (.int .i64 (m3 : Int))) none).run Try.prog W = .ok (.slice A m3 c) W := fun W => run_sl_hi TB W A n c .i64 m3 (by omega)
    obtain ⟨A5, hrun2, hrb5⟩ : ∃ A5, (∀ W, (Instr.slice 62 (.slice A n c) (some (.int .i64 (2 * (m3 : Int)))) (some (.int .i64 (3 * (m3 : Int)))) none).run Try.prog W = .ok (.slice A5 m3 (c - 2 * m3)) W) ∧ RB w8 w.heap.size A5 m3 ((l.drop (2 * m3)).take m3) := by
      refine ⟨if c = 2 * m3 then A else A.map (·.add (2 * m3)), fun W => ?_, ((HR.out.below HB8.out).cut (k := 2 * m3) (cap := c) (by omega) hc).take (k := m3) (by omega)⟩
      have h := run_sl TB W A n c .i64 .i64 (2 * m3) (3 * m3) (by omega) (by omega)
      rw [show 3 * m3 - 2 * m3 = m3 by omega] at h
      simpa using h
    have HE1 := Lib.hid (fun N => Equal_any A1 A m3 m3 c1 c (l.take m3) (l.take m3) (w8.drewN N) w8.heap.size w.heap.size ((RB.of_own HP8.out).drewN N) (((HR.out.below HB8.out).take (k := m3) (by omega)).drewN N) (by omega))
    have HE2 := Lib.hid (fun N => Equal_any A3 A m3 m3 c3 c (l.take m3) (l.take m3) (w8.drewN N) w8.heap.size w.heap.size ((RB.of_own HQ8.out).drewN N) (((HR.out.below HB8.out).take (k := m3) (by omega)).drewN N) (by omega))
    have HE3 := Lib.hid (fun N => Equal_any B2 A5 m3 m3 e2 (c - 2 * m3) ((l.drop (2 * m3)).take m3) ((l.drop (2 * m3)).take m3) (w8.drewN N) w8.heap.size w.heap.size ((RB.of_own HR2.out).drewN N) (hrb5.drewN N) (by omega))
    have HK := Lib.hid (fun N => Kept_any (some ⟨g, 0, none⟩) A n (n + 40) c l (w8.drewN N) w8.heap.size w.heap.size ((RB.of_own HO8.out).drewN N) ((HR.out.below HB8.out).drewN N) (by omega))
    rw [show decide (l.take m3 = l.take m3) = true by simp] at HE1 HE2
    rw [show decide ((l.drop (2 * m3)).take m3 = (l.drop (2 * m3)).take m3) = true by simp] at HE3
    have e2' : IntKind.i64.wrap (2 * (m3 : Int)) = 2 * (m3 : Int) := by rw [IntKind.wrap_i64]; omega
    have e3' : IntKind.i64.wrap (3 * (m3 : Int)) = 3 * (m3 : Int) := by rw [IntKind.wrap_i64]; omega
    have HEQ := Lib.hid (show ∀ (N : Nat) (x y : Value), ((x = .slice A1 m3 c1 ∧ y = .slice A m3 c) ∨ (x = .slice A3 m3 c3 ∧ y = .slice A m3 c) ∨ (x = .slice B2 m3 e2 ∧ y = .slice A5 m3 (c - 2 * m3))) → Calls Try.prog 29 #[x, y] (w8.drewN N) (EqPost (w8.drewN N) true) from by
      rintro N x y (⟨rfl, rfl⟩ | ⟨rfl, rfl⟩ | ⟨rfl, rfl⟩)
      · exact HE1.out N
      · exact HE2.out N
      · exact HE3.out N)
    clear hrb5 HE1 HE2 HE3
    go_wp2_with fail
    go_quiet (first | (go_at_call 29; exact EqPost.quiet0 (HEQ.out _ _ _ (by first | exact Or.inl ⟨rfl, rfl⟩ | exact Or.inr (Or.inl ⟨rfl, rfl⟩) | exact Or.inr (Or.inr ⟨rfl, rfl⟩)))) | (go_at_call 36; exact EqPost.quiet0 (HK.out _)))
    clear HEQ HK
    go_wp2_with fail
    have g0' : (w8.drewN nq).cell? ⟨G, 0, none⟩ = some (.slice B0 m0 e0) := g0
    have g1' : (w8.drewN nq).cell? ⟨G, 1, none⟩ = some (.slice B1 m1 e1) := g1
    have g2' : (w8.drewN nq).cell? ⟨G, 2, none⟩ = some (.slice B2 m3 e2) := g2
    have HO9 := Lib.hid (show (w8.drewN nq).ownsRow w1.heap.size 5 1 (.slice (some ⟨g, 0, none⟩) (n + 40) (n + 40)) (n + 40) (bv (spared l)) from HO8.out)
    have HP9 := Lib.hid (show (w8.drewN nq).ownsRow w4.heap.size 5 1 (.slice A1 m3 c1) m3 (bv (l.take m3)) from HP8.out)
    have HQ9 := Lib.hid (show (w8.drewN nq).ownsRow w7.heap.size 5 1 (.slice A3 m3 c3) m3 (bv (l.take m3)) from HQ8.out)
    have H09 := Lib.hid (show (w8.drewN nq).ownsRow w6.heap.size 5 1 (.slice B0 m0 e0) m0 (bv ((l.drop m3).take m3)) from HR0.out)
    have H19 := Lib.hid (show (w8.drewN nq).ownsRow w6.heap.size 5 1 (.slice B1 m1 e1) m1 (bv []) from HR1.out)
    have H29 := Lib.hid (show (w8.drewN nq).ownsRow w6.heap.size 5 1 (.slice B2 m3 e2) m3 (bv ((l.drop (2 * m3)).take m3)) from HR2.out)
    have HB9 := Lib.hid (show Below w.heap.size w (w8.drewN nq) from below_drewN HB8.out nq)
    have hz9 : w8.heap.size = (w8.drewN nq).heap.size := rfl
    clear HO8 HP8 HQ8 HR0 HR1 HR2 HB8
    clear g0 g1 g2
    generalize w8.drewN nq = w9 at *
    go_still_tail 12, (by kernel_rfl)
    change wpList _ _ _ _ _ (World.drew _)
    have HO9 := Lib.hid (show w9.drew.ownsRow w1.heap.size 5 1 (.slice (some ⟨g, 0, none⟩) (n + 40) (n + 40)) (n + 40) (bv (spared l)) from HO9.out)
    have HP9 := Lib.hid (show w9.drew.ownsRow w4.heap.size 5 1 (.slice A1 m3 c1) m3 (bv (l.take m3)) from HP9.out)
    have HQ9 := Lib.hid (show w9.drew.ownsRow w7.heap.size 5 1 (.slice A3 m3 c3) m3 (bv (l.take m3)) from HQ9.out)
    have H09 := Lib.hid (show w9.drew.ownsRow w6.heap.size 5 1 (.slice B0 m0 e0) m0 (bv ((l.drop m3).take m3)) from H09.out)
    have H19 := Lib.hid (show w9.drew.ownsRow w6.heap.size 5 1 (.slice B1 m1 e1) m1 (bv []) from H19.out)
    have H29 := Lib.hid (show w9.drew.ownsRow w6.heap.size 5 1 (.slice B2 m3 e2) m3 (bv ((l.drop (2 * m3)).take m3)) from H29.out)
    have HB9 := Lib.hid (show Below w.heap.size w w9.drew from HB9.out.drew)
    have hz10 : w9.heap.size = w9.drew.heap.size := rfl
    generalize w9.drew = w10 at *
    have hbb := (Below.refl w10.heap.size w10).alloc (Nat.le_refl _) (.cells #[.slice (some ⟨g, 0, none⟩) (n + 40) (n + 40), .slice A1 m3 c1, .slice B0 m0 e0, .slice B1 m1 e1, .slice B2 m3 e2, .slice A3 m3 c3] 62)
    have hsep : Sep ([.slice (some ⟨g, 0, none⟩) (n + 40) (n + 40), .slice A1 m3 c1] ++ ([.slice B0 m0 e0, .slice B1 m1 e1, .slice B2 m3 e2] ++ [.slice A3 m3 c3])) := by
      refine Sep.app w5.heap.size (Sep.app w4.heap.size (Sep.one _) (Sep.one _) ?_ ?_) (Sep.app w7.heap.size HSP.out (Sep.one _) ?_ ?_) ?_ ?_
      · intro u hu j hj
        obtain rfl := List.mem_singleton.1 hu
        have : g = j := by simpa [Value.ownBlock] using hj
        omega
      · intro u hu j hj
        obtain rfl := List.mem_singleton.1 hu
        exact (HBD1.out j hj).1
      · intro u hu j hj
        exact (HVB.out u hu j hj).2
      · intro u hu j hj
        obtain rfl := List.mem_singleton.1 hu
        exact (HQ9.out.lt j hj).1
      · intro u hu j hj
        simp only [List.mem_cons, List.not_mem_nil, or_false] at hu
        rcases hu with rfl | rfl
        · have : g = j := by simpa [Value.ownBlock] using hj
          omega
        · exact (HBD1.out j hj).2
      · intro u hu j hj
        rcases List.mem_append.1 hu with hu | hu
        · have := HVB.out u hu j hj
          omega
        · obtain rfl := List.mem_singleton.1 hu
          have := (HQ9.out.lt j hj).1
          omega
    have hobv : OBV (w10.alloc (.cells #[.slice (some ⟨g, 0, none⟩) (n + 40) (n + 40), .slice A1 m3 c1, .slice B0 m0 e0, .slice B1 m1 e1, .slice B2 m3 e2, .slice A3 m3 c3] 62)) w.heap.size 5 62 (.slice (some ⟨w10.heap.size, 0, none⟩) 6 6) 6 [spared l, l.take m3, (l.drop m3).take m3, [], (l.drop (2 * m3)).take m3, l.take m3] [.slice (some ⟨g, 0, none⟩) (n + 40) (n + 40), .slice A1 m3 c1, .slice B0 m0 e0, .slice B1 m1 e1, .slice B2 m3 e2, .slice A3 m3 c3] := by
      refine OBV.of_sep rfl (World.ownsRow_lit w10 #[.slice (some ⟨g, 0, none⟩) (n + 40) (n + 40), .slice A1 m3 c1, .slice B0 m0 e0, .slice B1 m1 e1, .slice B2 m3 e2, .slice A3 m3 c3] 6 (by omega) (by decide) rfl) ?_ hsep
      intro i u hu
      match i, hu with
      | 0, hu => obtain rfl := Option.some.inj hu; exact ⟨_, _, _, rfl, own_later (own_base HO9.out (by omega)) hbb⟩
      | 1, hu => obtain rfl := Option.some.inj hu; exact ⟨_, _, _, rfl, own_later (own_base HP9.out (by omega)) hbb⟩
      | 2, hu => obtain rfl := Option.some.inj hu; exact ⟨_, _, _, rfl, own_later (own_base H09.out (by omega)) hbb⟩
      | 3, hu => obtain rfl := Option.some.inj hu; exact ⟨_, _, _, rfl, own_later (own_base H19.out (by omega)) hbb⟩
      | 4, hu => obtain rfl := Option.some.inj hu; exact ⟨_, _, _, rfl, own_later (own_base H29.out (by omega)) hbb⟩
      | 5, hu => obtain rfl := Option.some.inj hu; exact ⟨_, _, _, rfl, own_later (own_base HQ9.out (by omega)) hbb⟩
      | i + 6, hu => simp at hu
    have HRS := Lib.hid hobv
    have HB10 := Lib.hid (HB9.out.alloc (by omega) (.cells #[.slice (some ⟨g, 0, none⟩) (n + 40) (n + 40), .slice A1 m3 c1, .slice B0 m0 e0, .slice B1 m1 e1, .slice B2 m3 e2, .slice A3 m3 c3] 62))
    clear hobv hsep hbb HO9 HP9 HQ9 H09 H19 H29 HB9 HSP HVB HBD1
    go_wp2_with fail
    refine (Apart_any _ 6 6 _ _ _ w.heap.size HRS.out (by omega) ?hs (by simp; omega)).mono ?_
    case hs =>
      intro x hx
      have := HL.out
      simp only [List.mem_cons, List.not_mem_nil, or_false] at hx
      rcases hx with rfl | rfl | rfl | rfl | rfl | rfl
      · rw [length_spared]; omega
      · simp; omega
      · simp; omega
      · simp
      · simp; omega
      · simp; omega
    rintro e w11 ⟨rfl, hb⟩
    have HB11 := Lib.hid (HB10.out.trans hb)
    clear hb
    go_wp2_with fail
    go_ret
    exact ⟨rfl, HB11.out⟩
end Go.Proofs.Ytcjpfjmmnnfieaa
