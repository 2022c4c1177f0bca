/-
  The walk of shallotlaw01.CodecCursors: for every list of bytes and every list of acts the law returns true and writes nothing that was there.
-/
import Derived.Test.YtbmcbalofoledaaCursor
import Derived.Test.YtbmcbalofoledaaOpen
import Derived.Test.YtbmcbalofoledaaPad
namespace Go.Proofs.Ytbmcbalofoledaa
open Go Go.RowKit Go.Sh

/-- an act: order, number -/
structure Act2 where
  o : Int
  d : Int
def Act2.ok (x : Act2) : Prop := (-9223372036854775808 ≤ x.o ∧ x.o ≤ 9223372036854775807) ∧ (-9223372036854775808 ≤ x.d ∧ x.d ≤ 9223372036854775807)

def RActs (w : World) (B : Nat) (A : Option Addr) (m : Nat) (f : Nat → Act2) : Prop :=
  0 < m → ∃ b off, A = some ⟨b, off, none⟩ ∧ b < B ∧ ∀ i, i < m → (f i).ok ∧ w.cell? ⟨b, off + i * 2, none⟩ = some (.int .i64 (f i).o) ∧ w.cell? ⟨b, off + i * 2 + 1, none⟩ = some (.int .i64 (f i).d)

set_option maxRecDepth 100000 in
/-- the acts among the arguments -/
theorem openActs {H : Type} {enc : TypeId × Value → H} {W : World} {b0 : Nat} {r : Reach} {v : Value} {d : DataW H} {p : List MemPlace} (hok : Value.okWide Try.prog W r b0 52 v) (h : DataW.Trod enc Try.prog W 0 (fun _ => true) true 52 v d p) :
    ∃ A n c f, v = .slice A n c ∧ RActs W W.heap.size A n f ∧ HasLen d n := by
  obtain ⟨A, n, c, rfl, _, hl, hx⟩ := openStructs Try.underlying52 Try.underlying61 (by kernel_rfl) (by kernel_rfl) (by simp) hok h
  rcases Nat.eq_zero_or_pos n with h0 | h0
  · subst h0
    exact ⟨A, 0, c, fun _ => ⟨0, 0⟩, rfl, fun h => absurd h (by omega), hl⟩
  · obtain ⟨b, off, rfl, hb, hi⟩ := hx h0
    have key : ∀ i, i < n → ∃ x : Act2, x.ok ∧ W.cell? ⟨b, off + i * 2, none⟩ = some (.int .i64 x.o) ∧ W.cell? ⟨b, off + i * 2 + 1, none⟩ = some (.int .i64 x.d) := by
      intro i hin
      obtain ⟨fuel, hf⟩ := hi i hin
      obtain ⟨x0, y0, c0, t0⟩ := hf 0 _ rfl
      obtain ⟨x1, y1, c1, t1⟩ := hf 1 _ rfl
      obtain ⟨z0, e0, _, w0⟩ := DataW.trod_int Try.underlying3 t0
      obtain ⟨z1, e1, _, w1⟩ := DataW.trod_int Try.underlying3 t1
      simp only [List.cons.injEq, and_true] at e0 e1
      subst e0 e1
      exact ⟨⟨z0, z1⟩, ⟨bounds_i64 w0, bounds_i64 w1⟩, c0, c1⟩
    have : Inhabited Act2 := ⟨⟨0, 0⟩⟩
    obtain ⟨f, hf⟩ := Go.Deep.choose_lt key
    exact ⟨_, n, c, f, rfl, fun _ => ⟨b, off, rfl, hb, hf⟩, hl⟩

theorem cell_grown {w w' : World} {row : Nat} (h : w.grownBy w' (some row)) {p : Addr} (hp : p.block < w.heap.size) (hne : p.block ≠ row) : w'.cell? p = w.cell? p := by
  unfold World.cell?
  rw [h.block p.block hp (fun e => by simp only [Option.some.injEq] at e; omega)]

set_option maxRecDepth 100000 in
theorem CodecCursors_walk (A : Option Addr) (n c : Nat) (l : List UInt8) (A' : Option Addr) (m c' : Nat) (f : Nat → Act2) (w : World) (hl : RB w w.heap.size A n l) (hn : n ≤ 140737488355328) (hf : RActs w w.heap.size A' m f) (hm : m ≤ 140737488355328) (hnc : n ≤ c) :
    Calls Try.prog 8 #[.slice A n c, .slice A' m c'] w (LawPost w) := by
  have HL := Lib.hid hl
  have HF := Lib.hid hf
  clear hl hf
  go_enter Try.func8, Try.ntmps8
  go_wp2_with fail
  refine (NewCursor_any _ _ _ [1, 2, 3] _ (w.heap.size + 1) (RB.lit w _ [1, 2, 3] _ rfl _ rfl) (by simp) (by simp)).mono ?_
  rintro e w1 ⟨p1, rfl, hc1, hb1⟩
  have HC1 := Lib.hid hc1
  have HB1 := Lib.hid (((Below.refl w.heap.size w).alloc (Nat.le_refl _) _).trans (hb1.mono (by simp)))
  clear hc1 hb1
  go_wp2_with fail
  refine (Take_any p1 _ [1, 2, 3] 0 2 w1 HC1.out (by simp)).mono ?_
  rintro e w2 ⟨A2, n2, c2, rfl, hn2, hown2, _, hc2, hg2⟩
  rw [show takE ([1, 2, 3] : List UInt8).length 0 2 = 0 by decide]
  rw [show takL [1, 2, 3] 0 2 = [1, 2] by decide] at hn2 hown2
  rw [show takN ([1, 2, 3] : List UInt8).length 0 2 = 2 by decide] at hc2
  simp only [List.length_cons, List.length_nil] at hn2
  subst hn2
  have HC2 := Lib.hid hc2.1
  have HO2 := Lib.hid hown2
  have hlt2 := hc2.1.1
  have HB2 := Lib.hid (HB1.out.grown hg2 (show w.heap.size ≤ w1.heap.size from HB1.out.size) (fun k hk => by cases hk; exact (Nat.le_trans (by simp) hlt2)))
  clear hc2 hown2 hg2
  go_wp2_with fail
  refine (told_any _ _ _ _ _ _ [1, 2] [1, 2] 0 0 _ w2.heap.size (w2.heap.size + 1) ((RB.of_own HO2.out).alloc (Nat.le_refl _) _) (RB.lit w2 _ [1, 2] _ rfl _ rfl) (by simp)).mono fun e w3 h => ?_
  obtain ⟨rfl, hb3⟩ := h.below
  rw [show decide (([1, 2] : List UInt8) = [1, 2] ∧ (0 : Int) = 0) = true by simp]
  have hb23 : Below w2.heap.size w2 w3 := ((Below.refl w2.heap.size w2).alloc (Nat.le_refl _) _).trans (hb3.mono (by simp))
  have HC3 := Lib.hid (HC2.out.later hb23)
  have HB3 := Lib.hid (below_up HB2.out hb23 (Nat.le_refl _))
  clear h hb3 hb23 HB2 HC2 HO2
  go_wp2_with fail
  refine (Left_any _ _ _ _ _ HC3.out (by simp)).mono ?_
  rintro e w4 ⟨rfl, nd, rfl⟩
  have HB4 := Lib.hid (below_drewN HB3.out nd)
  generalize w3.drewN nd = w4 at *
  clear HB3 HC3 HC1 HB1
  rw [show ((([1, 2, 3] : List UInt8).length - 2 : Nat) : Int) = 1 by decide]
  go_wp2_with fail
  have hz0 : CurOK (w4.alloc (.cells #[.slice none 0 0, .int .i64 0] 58)) w4.heap.size w4.heap.size [] 0 := ⟨Nat.le_refl _, Nat.le_refl _, none, 0, 0, heap_alloc_new w4 _, World.ownsRow_nil _ _ _ _⟩
  have HB5 := Lib.hid (HB4.out.alloc HB4.out.size (.cells #[.slice none 0 0, .int .i64 0] 58))
  have HZ0 := Lib.hid hz0
  have hz4 := HB4.out.size
  clear hz0
  refine (Left_any _ _ _ _ _ HZ0.out (by simp)).mono ?_
  rintro e w5 ⟨rfl, nd5, rfl⟩
  have HZ5 := Lib.hid (HZ0.out.drewN nd5)
  have HB6 := Lib.hid (below_drewN HB5.out nd5)
  generalize (w4.alloc (.cells #[.slice none 0 0, .int .i64 0] 58)).drewN nd5 = w5 at *
  rw [show ((([] : List UInt8).length - 0 : Nat) : Int) = 0 by decide]
  clear HZ0 HB5 HB4
  go_wp2_with fail
  refine (Done_any _ _ _ _ _ HZ5.out).mono ?_
  rintro e w6 ⟨rfl, rfl⟩
  clear HZ5
  go_wp2_with fail
  refine (Copy_any _ _ _ l _ w.heap.size (HL.out.below HB6.out) HB6.out.size hn).mono ?_
  rintro e w7 ⟨g7, c7, rfl, hown7, hb7⟩
  have HO7 := Lib.hid hown7
  have HB7 := Lib.hid (below_up HB6.out hb7 (Nat.le_refl _))
  clear hown7 hb7
  go_wp2_with fail
  refine (NewCursor_any _ _ _ l _ _ (RB.of_own HO7.out) (Nat.le_refl _) hn).mono ?_
  rintro e w8 ⟨p, rfl, hc8, hb8⟩
  have HC8 := Lib.hid hc8
  have HO8 := Lib.hid (own_later HO7.out hb8)
  have HG8 := Lib.hid (HO7.out.lt g7 rfl)
  have HB8 := Lib.hid (below_up HB7.out hb8 (Nat.le_refl _))
  clear hc8 hb8 HB7 HO7
  go_wp2_with fail
  refine (Over_any _ _ _ _ l _ HO8.out hn).mono ?_
  rintro e w9 ⟨rfl, _, hg9⟩
  have e6 := HB6.out.size
  have e8 := HG8.out
  have HC9 := Lib.hid ((HC8.out.under hg9 e8.2).low (show w.heap.size ≤ w7.heap.size by omega))
  have HB9 := Lib.hid (HB8.out.grown hg9 HB8.out.size (fun k hk => by cases hk; omega))
  have HLen := Lib.hid HL.out.len
  clear hg9 HC8 HB8 HO8 HG8 HB6 e8 e6 hz4 hlt2
  go_wp2_with fail
  go_loopw [10, 12, 13, 14, 15, 16, 17, 18, 50] (fun x _ _ _ _ _ _ _ i wr => ∃ k a : Nat, k ≤ m ∧ i = .int .i64 k ∧ x = .int .i64 a ∧ CurOK wr w.heap.size p l a ∧ Below w.heap.size w wr) (fun _ _ _ _ _ _ _ _ i _ => m - (intOf i).toNat)
  case atStart => exact ⟨0, 0, by omega, rfl, rfl, HC9.out, HB9.out⟩
  case round =>
    obtain ⟨k, a, hk, rfl, rfl, hcur, hb⟩ := hrel
    have HW := Lib.hid hb
    have HC := Lib.hid hcur
    have ha : a ≤ n := by have := hcur.len; have := HLen.out; omega
    clear hb hcur HC9 HB9
    by_cases hlt : k < m
    · obtain ⟨b, off, rfl, hadb, hc⟩ := HF.out (by omega)
      obtain ⟨⟨⟨o1, o2⟩, ⟨d1, d2⟩⟩, c0, c1⟩ := hc k hlt
      clear hc
      rw [← HW.out.cell hadb] at c0 c1
      generalize (f k).o = o at *
      generalize (f k).d = d at *
      by_cases ho : o = 0
      · subst ho
        go_wp2_with fail
        have hba : Below wr.heap.size wr (wr.alloc (.cells #[.int .i64 0, .int .i64 d] 61)) := (Below.refl _ _).alloc (Nat.le_refl _) _
        have hpl : p < wr.heap.size := HC.out.lt
        have hza : wr.heap.size < (wr.alloc (.cells #[.int .i64 0, .int .i64 d] 61)).heap.size := by simp
        have k1 : (wr.alloc (.cells #[.int .i64 0, .int .i64 d] 61)).cell? ⟨wr.heap.size, 1, none⟩ = some (.int .i64 d) := by
          rw [cell_of_row _ _ 1 _ _ _ (heap_alloc_new wr _)]; rfl
        have HWa := Lib.hid (below_up HW.out hba (Nat.le_refl _))
        have HCa := Lib.hid (HC.out.later hba)
        clear c0 c1 HC HF
        generalize (wr.alloc (.cells #[.int .i64 0, .int .i64 d] 61)) = wa at *
        refine (Take_any p _ l a d wa HCa.out (by rw [HLen.out]; exact hn)).mono ?_
        rintro e w3 ⟨A3, n3, c3, rfl, hn3, hown3, hg0, htop, hg3⟩
        have hw3 := HW.out.size
        have hp3 := HCa.out.1
        have k3 : w3.cell? ⟨wr.heap.size, 1, none⟩ = some (.int .i64 d) := by
          rw [← k1]; unfold World.cell?; simp only; rw [hg3.block wr.heap.size hza (fun e => by cases e; omega)]
        have hz3 : wr.heap.size < w3.heap.size := Nat.lt_of_lt_of_le hza hg3.size
        have HB3 := Lib.hid (HWa.out.grown hg3 HWa.out.size (fun k hk => by cases hk; omega))
        have HO3 := Lib.hid hown3
        have HT3 := Lib.hid htop
        have HN3 := Lib.hid hn3
        have HG0 := Lib.hid hg0
        clear k1 hown3 htop hn3 hg3 hg0 hba HWa
        by_cases hneg : d < 0
        · have E1 := Lib.hid (show takE l.length a d = 1 by simp [takE, hneg])
          have E2 := Lib.hid (show takL l a d = [] by simp [takL, E1.out])
          have E3 := Lib.hid (show takN l.length a d = a by simp [takN, E1.out])
          rw [E1.out]
          rw [E2.out] at HO3 HN3
          rw [E3.out] at HT3
          obtain rfl : n3 = 0 := HN3.out.symm
          go_wp2_with fail
          refine (told_any _ _ _ _ _ _ [] [] 1 1 _ w3.heap.size w3.heap.size RB.none_ RB.none_ (by simp)).mono fun e w4 h => ?_
          obtain ⟨rfl, hb4⟩ := h.below
          rw [show decide (([] : List UInt8) = [] ∧ (1 : Int) = 1) = true by simp]
          have HC4 := Lib.hid (HT3.out.1.later hb4)
          have HB4 := Lib.hid (below_up HB3.out hb4 (Nat.le_refl _))
          clear h hb4 HT3 HB3 HO3
          go_wp2_with fail
          refine (Done_any _ _ _ _ _ HC4.out).mono ?_
          rintro e w5 ⟨rfl, rfl⟩
          go_wp2_with fail
          refine (Left_any _ _ _ _ _ HC4.out (by rw [HLen.out]; exact hn)).mono ?_
          rintro e w6 ⟨rfl, nd6, rfl⟩
          rw [show ((l.length - a : Nat) : Int) = (n : Int) - ((a : Int)) by have := HLen.out; omega]
          have HC6 := Lib.hid (HC4.out.drewN nd6)
          have HB6 := Lib.hid (below_drewN HB4.out nd6)
          generalize w4.drewN nd6 = w6 at *
          clear HC4 HB4
          go_wp2
          exact ⟨⟨k + 1, a, by omega, by go_num, rfl, HC6.out, HB6.out⟩, by simp [intOf]; omega⟩
        · obtain ⟨dn, rfl⟩ := Int.eq_ofNat_of_zero_le (show 0 ≤ d by omega)
          by_cases hbig : n - a < dn
          · have E1 := Lib.hid (show takE l.length a (dn : Int) = 2 by have := HLen.out; simp only [takE]; rw [if_neg hneg, if_pos (by omega)])
            have E2 := Lib.hid (show takL l a (dn : Int) = [] by simp [takL, E1.out])
            have E3 := Lib.hid (show takN l.length a (dn : Int) = a by simp [takN, E1.out])
            rw [E1.out]
            rw [E2.out] at HO3 HN3
            rw [E3.out] at HT3
            obtain rfl : n3 = 0 := HN3.out.symm
            go_wp2_with fail
            refine (told_any _ _ _ _ _ _ [] [] 2 2 _ w3.heap.size w3.heap.size RB.none_ RB.none_ (by simp)).mono fun e w4 h => ?_
            obtain ⟨rfl, hb4⟩ := h.below
            rw [show decide (([] : List UInt8) = [] ∧ (2 : Int) = 2) = true by simp]
            have HC4 := Lib.hid (HT3.out.1.later hb4)
            have HB4 := Lib.hid (below_up HB3.out hb4 (Nat.le_refl _))
            clear h hb4 HT3 HB3 HO3
            go_wp2_with fail
            refine (Done_any _ _ _ _ _ HC4.out).mono ?_
            rintro e w5 ⟨rfl, rfl⟩
            go_wp2_with fail
            refine (Left_any _ _ _ _ _ HC4.out (by rw [HLen.out]; exact hn)).mono ?_
            rintro e w6 ⟨rfl, nd6, rfl⟩
            rw [show ((l.length - a : Nat) : Int) = (n : Int) - ((a : Int)) by have := HLen.out; omega]
            have HC6 := Lib.hid (HC4.out.drewN nd6)
            have HB6 := Lib.hid (below_drewN HB4.out nd6)
            generalize w4.drewN nd6 = w6 at *
            clear HC4 HB4
            go_wp2
            exact ⟨⟨k + 1, a, by omega, by go_num, rfl, HC6.out, HB6.out⟩, by simp [intOf]; omega⟩
          · have E1 := Lib.hid (show takE l.length a (dn : Int) = 0 by have := HLen.out; simp only [takE]; rw [if_neg hneg, if_neg (by omega)])
            have E2 := Lib.hid (show takL l a (dn : Int) = (l.drop a).take dn by simp [takL, E1.out])
            have E3 := Lib.hid (show takN l.length a (dn : Int) = a + dn by simp [takN, E1.out])
            obtain ⟨g3, rfl⟩ := HG0.out E1.out
            rw [E1.out]
            rw [E2.out] at HO3 HN3
            rw [E3.out] at HT3
            obtain rfl : n3 = dn := by have := HN3.out; rw [List.length_take, List.length_drop, HLen.out] at this; omega
            have hpn : a + n3 ≤ n := by omega
            obtain ⟨A4, hA4⟩ : ∃ A4, A4 = (if c = a then A else A.map (·.add a)) := ⟨_, rfl⟩
            have HR4 := Lib.hid (((HL.out.below HB3.out).cut (k := a) (cap := c) (by omega) hnc).take (k := n3) (by omega))
            rw [← hA4] at HR4
            have hrun : ∀ W, (Instr.slice 22 (.slice A n c) (some (.int .i64 (a : Int))) (some (.int .i64 ((a : Int) + (n3 : Int)))) none).run Try.prog W = .ok (.slice A4 n3 (c - a)) W := fun W => by
              have := run_sl TB W A n c .i64 .i64 a (a + n3) (by omega) (by omega)
              rw [Nat.mul_one, Nat.add_sub_cancel_left, ← hA4, show ((a + n3 : Nat) : Int) = (a : Int) + (n3 : Int) by omega] at this
              exact this
            have HSL := Lib.hid (fun W => @hrun W)
            clear hA4
            go_wp2_with fail
            refine (told_any _ _ _ _ _ _ _ _ 0 0 _ w3.heap.size w.heap.size (RB.of_own HO3.out) HR4.out (by omega)).mono fun e w4 h => ?_
            obtain ⟨rfl, hb4⟩ := h.below
            rw [show decide ((l.drop a).take n3 = (l.drop a).take n3 ∧ (0 : Int) = 0) = true by simp]
            have HT4 := Lib.hid (HT3.out.later hb4)
            have HB4' := Lib.hid (below_up HB3.out hb4 (Nat.le_refl _))
            have HO4 := Lib.hid (own_later HO3.out hb4)
            have hz4 : wr.heap.size < w4.heap.size := Nat.lt_of_lt_of_le hz3 hb4.size
            have k4 : w4.cell? ⟨wr.heap.size, 1, none⟩ = some (.int .i64 (n3 : Int)) := (hb4.cell (p := ⟨wr.heap.size, 1, none⟩) hz3).trans k3
            clear h hb4 HT3 HB3 HO3 hrun
            go_wp2_with fail
            refine (Over_any _ _ _ _ _ _ HO4.out (by omega)).mono ?_
            rintro e w4' ⟨rfl, _, hg4⟩
            have hg3' := HO4.out.lt g3 rfl
            have HC4 := Lib.hid (HT4.out.over hg4 hg3'.1)
            have HB4 := Lib.hid (HB4'.out.grown hg4 HB4'.out.size (fun k hk => by cases hk; omega))
            have k5 : w4'.cell? ⟨wr.heap.size, 1, none⟩ = some (.int .i64 (n3 : Int)) := by
              rw [← k4]; unfold World.cell?; simp only; rw [hg4.block wr.heap.size hz4 (fun e => by cases e; omega)]
            clear HT4 HB4' HO4 k4 hg4
            go_wp2_with fail
            refine (Done_any _ _ _ _ _ HC4.out).mono ?_
            rintro e w5 ⟨rfl, rfl⟩
            go_wp2_with fail
            refine (Left_any _ _ _ _ _ HC4.out (by rw [HLen.out]; exact hn)).mono ?_
            rintro e w6 ⟨rfl, nd6, rfl⟩
            rw [show ((l.length - (a + n3) : Nat) : Int) = (n : Int) - ((a : Int) + (n3 : Int)) by have := HLen.out; omega]
            have HC6 := Lib.hid (HC4.out.drewN nd6)
            have HB6 := Lib.hid (below_drewN HB4.out nd6)
            generalize w4'.drewN nd6 = w6 at *
            clear HC4 HB4
            go_wp2
            exact ⟨⟨k + 1, (a + n3), by omega, by go_num, by simp, HC6.out, HB6.out⟩, by simp [intOf]; omega⟩
      · have t0 : (o != 0) = true := by simp [ho]
        go_wp2_with fail
        have hba : Below wr.heap.size wr (wr.alloc (.cells #[.int .i64 o, .int .i64 d] 61)) := (Below.refl _ _).alloc (Nat.le_refl _) _
        have hpl : p < wr.heap.size := HC.out.lt
        have hza : wr.heap.size < (wr.alloc (.cells #[.int .i64 o, .int .i64 d] 61)).heap.size := by simp
        have q0 : (wr.alloc (.cells #[.int .i64 o, .int .i64 d] 61)).cell? ⟨wr.heap.size, 0, none⟩ = some (.int .i64 o) := by
          rw [cell_of_row _ _ 0 _ _ _ (heap_alloc_new wr _)]; rfl
        have q1 : (wr.alloc (.cells #[.int .i64 o, .int .i64 d] 61)).cell? ⟨wr.heap.size, 1, none⟩ = some (.int .i64 d) := by
          rw [cell_of_row _ _ 1 _ _ _ (heap_alloc_new wr _)]; rfl
        have HWa := Lib.hid (below_up HW.out hba (Nat.le_refl _))
        have HCa := Lib.hid (HC.out.later hba)
        clear c0 c1 HC HF
        generalize (wr.alloc (.cells #[.int .i64 o, .int .i64 d] 61)) = wa at *
        refine (Number_any p _ l a o d wa HCa.out (by rw [HLen.out]; exact hn)).mono ?_
        rintro e w3 ⟨rfl, hc3, hg3⟩
        have k0 := (cell_grown hg3 (p := ⟨wr.heap.size, 0, none⟩) hza (by simp only; omega)).trans q0
        have k1 := (cell_grown hg3 (p := ⟨wr.heap.size, 1, none⟩) hza (by simp only; omega)).trans q1
        have hw3 := HW.out.size
        have hp3 := HCa.out.1
        have HB3 := Lib.hid (HWa.out.grown hg3 HWa.out.size (fun k hk => by cases hk; omega))
        have HC3 := Lib.hid hc3
        clear hc3 hg3 q0 q1 hba HWa HCa
        rw [HLen.out] at HC3
        rw [HLen.out]
        go_wp2_with fail
        refine (RefGet_any _ _ _ _ l _ _ _ _ (HL.out.below HB3.out) hn (by omega)).mono ?_
        rintro e w4 ⟨rfl, rfl⟩
        have t2 : ((getV o l n (a : Int) d : Int) != (getV o l n (a : Int) d : Int)) = false := by simp
        have t3 : (getE o n (a : Int) d != getE o n (a : Int) d) = false := by simp
        by_cases h0 : getE o n (a : Int) d = 0
        · have E3 := Lib.hid (show numN o n a d = a + d.toNat by simp [numN, h0])
          rw [E3.out] at HC3
          have hd : okW o d = true ∧ (a : Int) + d ≤ n := by
            unfold getE at h0
            split at h0
            · exact absurd h0 (by decide)
            · rename_i hh
              split at h0
              · exact absurd h0 (by decide)
              · exact ⟨by simpa using fun e => hh (.inl e), by omega⟩
          obtain ⟨_, d3, d4⟩ := okW_yes hd.1
          have hd2 := hd.2
          obtain ⟨dn, rfl⟩ := Int.eq_ofNat_of_zero_le (show 0 ≤ d by omega)
          rw [Int.toNat_natCast] at HC3
          have t4 : (getE o n (a : Int) (dn : Int) == 0) = true := by simp [h0]
          have HC4 := HC3
          generalize getV o l n (a : Int) (dn : Int) = gv at *
          generalize getE o n (a : Int) (dn : Int) = ge at *
          clear h0 hd HC3
          go_wp2_with fail
          refine (Done_any _ _ _ _ _ HC4.out).mono ?_
          rintro e w5 ⟨rfl, rfl⟩
          go_wp2_with fail
          refine (Left_any _ _ _ _ _ HC4.out (by rw [HLen.out]; exact hn)).mono ?_
          rintro e w6 ⟨rfl, nd6, rfl⟩
          rw [show ((l.length - (a + dn) : Nat) : Int) = (n : Int) - ((a : Int) + (dn : Int)) by have := HLen.out; omega]
          have HC6 := Lib.hid (HC4.out.drewN nd6)
          have HB6 := Lib.hid (below_drewN HB3.out nd6)
          generalize w3.drewN nd6 = w6 at *
          clear HC4 HB3
          go_wp2
          exact ⟨⟨k + 1, (a + dn), by omega, by go_num, by simp, HC6.out, HB6.out⟩, by simp [intOf]; omega⟩
        · have E3 := Lib.hid (show numN o n a d = a by simp [numN, h0])
          rw [E3.out] at HC3
          have t4 : (getE o n (a : Int) d == 0) = false := by simp [h0]
          have HC4 := HC3
          generalize getV o l n (a : Int) d = gv at *
          generalize getE o n (a : Int) d = ge at *
          clear h0 HC3
          go_wp2_with fail
          refine (Done_any _ _ _ _ _ HC4.out).mono ?_
          rintro e w5 ⟨rfl, rfl⟩
          go_wp2_with fail
          refine (Left_any _ _ _ _ _ HC4.out (by rw [HLen.out]; exact hn)).mono ?_
          rintro e w6 ⟨rfl, nd6, rfl⟩
          rw [show ((l.length - a : Nat) : Int) = (n : Int) - ((a : Int)) by have := HLen.out; omega]
          have HC6 := Lib.hid (HC4.out.drewN nd6)
          have HB6 := Lib.hid (below_drewN HB3.out nd6)
          generalize w3.drewN nd6 = w6 at *
          clear HC4 HB3
          go_wp2
          exact ⟨⟨k + 1, a, by omega, by go_num, rfl, HC6.out, HB6.out⟩, by simp [intOf]; omega⟩
    · go_wp2
      go_ret
      exact ⟨rfl, HW.out⟩
end Go.Proofs.Ytbmcbalofoledaa
