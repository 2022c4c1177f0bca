/-
  The walk of shallotlaw08.TapeFeeds: for every list of bytes, of acknowledgements and of calls the law returns true and writes nothing that was there. Conditions: the sizes that slices can have.
-/
import Derived.Test.YtcjpfjmmnnfieaaFeed
import Derived.Test.YtcjpfjmmnnfieaaDrawsLaw
import Derived.Deep.CutBlock
import Derived.Deep.DeepCutAuto
set_option linter.unusedSimpArgs false
namespace Go.Proofs.Ytcjpfjmmnnfieaa
open Go Go.RowKit Go.Sh

/-- the feed and the document's clock (in block r), side by side; the document's clock may be one call ahead -/
def FRef (w0 w : World) (f r bs : Nat) (S : Value) (l : List UInt8) (a : Nat) (now : Int) (ts : List (Int × Int)) (K : Value) (nk : Nat) (la : List (Int × Int)) (now' : Int) (ts' : List (Int × Int)) (A : Option Addr) (c : Nat) : Prop :=
  FeedAt w bs f S l a now ts K nk la ∧ w.heap[r]? = some (.cells #[.int .i64 now', .slice A ts'.length c] 49 (0, 0)) ∧ w.ownsRow w0.heap.size 96 2 (.slice A ts'.length c) ts'.length (tmv ts') ∧ Below w0.heap.size w0 w ∧ w0.heap.size ≤ f ∧ w0.heap.size ≤ r
section
variable {w0 w w' : World} {f r bs a nk c c' : Nat} {S K : Value} {l : List UInt8} {now now' : Int} {ts la ts' : List (Int × Int)} {A A' : Option Addr}
theorem FRef.lt (h : FRef w0 w f r bs S l a now ts K nk la now' ts' A c) : r < w.heap.size := (Array.getElem?_eq_some_iff.1 h.2.1).1
theorem FRef.later (h : FRef w0 w f r bs S l a now ts K nk la now' ts' A c) (hb : Below w.heap.size w w') : FRef w0 w' f r bs S l a now ts K nk la now' ts' A c := by
  have hr := h.lt
  obtain ⟨h1, h2, h3, h4, h5, h6⟩ := h
  exact ⟨h1.later hb, (hb.block r hr).trans h2, own_later h3 hb, below_up h4 hb (Nat.le_refl _), h5, h6⟩
theorem FRef.r0 (h : FRef w0 w f r bs S l a now ts K nk la now' ts' A c) : w.cell? ⟨r, 0, none⟩ = some (.int .i64 now') := by rw [cell_of_row _ _ 0 _ _ _ h.2.1]; rfl
theorem FRef.r1 (h : FRef w0 w f r bs S l a now ts K nk la now' ts' A c) : w.cell? ⟨r, 1, none⟩ = some (.slice A ts'.length c) := by rw [cell_of_row _ _ 1 _ _ _ h.2.1]; rfl
theorem FRef.kc (h : FRef w0 w f r bs S l a now ts K nk la now' ts' A c) : w.cell? ⟨f, 132, none⟩ = some K := h.1.cell
theorem FRef.ra {Ak : Option Addr} {ck : Nat} (h : FRef w0 w f r bs S l a now ts (.slice Ak nk ck) nk la now' ts' A c) : RA w w.heap.size Ak nk la := RA.of_own h.1.2.2.1 h.1.2.2.2.1
theorem FRef.drew (h : FRef w0 w f r bs S l a now ts K nk la now' ts' A c) : FRef w0 w.drew f r bs S l a now ts K nk la now' ts' A c := ⟨h.1, h.2.1, h.2.2.1, h.2.2.2.1.drew, h.2.2.2.2⟩
theorem FRef.drewN (h : FRef w0 w f r bs S l a now ts K nk la now' ts' A c) (k : Nat) : FRef w0 (w.drewN k) f r bs S l a now ts K nk la now' ts' A c := ⟨h.1, h.2.1, h.2.2.1, below_drewN h.2.2.2.1 k, h.2.2.2.2⟩
theorem FRef.ne (h : FRef w0 w f r bs S l a now ts K nk la now' ts' A c) : f ≠ r := by
  intro e
  subst e
  have h2 := h.2.1
  rw [h.1.row] at h2
  simp only [Option.some.injEq, Obj.cells.injEq] at h2
  exact absurd h2.2.1 (by decide)
theorem FRef.apart (h : FRef w0 w f r bs S l a now ts K nk la now' ts' A c) : (S.ownBlock = none ∨ S.ownBlock ≠ some r) ∧ (K.ownBlock = none ∨ K.ownBlock ≠ some r) := by
  obtain ⟨⟨⟨_, _, A0, n0, c0, rfl, _, h4⟩, _, h5, _⟩, h2, _⟩ := h
  exact ⟨own_off h4 h2 (by decide), own_off h5 h2 (by decide)⟩
/-- the document's clock has gone on: its new value is stored in block r -/
theorem FRef.ref {now2 : Int} {ts2 : List (Int × Int)} (h : FRef w0 w f r bs S l a now ts K nk la now' ts' A c) (hb : Below w.heap.size w w') (ho : w'.ownsRow w0.heap.size 96 2 (.slice A' ts2.length c') ts2.length (tmv ts2)) :
    FRef w0 ((w'.setCell ⟨r, 0, none⟩ (.int .i64 now2)).setCell ⟨r, 1, none⟩ (.slice A' ts2.length c')) f r bs S l a now ts K nk la now2 ts2 A' c' := by
  have hne := h.ne
  have h' := h.later hb
  obtain ⟨aS, aK⟩ := h'.apart
  have g1 := grown_put w' r 0 (.int .i64 now2)
  have g2 := grown_put (w'.setCell ⟨r, 0, none⟩ (.int .i64 now2)) r 1 (.slice A' ts2.length c')
  have hrow1 : (w'.setCell ⟨r, 0, none⟩ (.int .i64 now2)).heap[r]? = some (.cells #[.int .i64 now2, .slice A ts'.length c] 49 (0, 0)) := by
    have := h'.2.1
    simp [World.setCell, Array.getElem?_modify, this]
  have hrow2 : ((w'.setCell ⟨r, 0, none⟩ (.int .i64 now2)).setCell ⟨r, 1, none⟩ (.slice A' ts2.length c')).heap[r]? = some (.cells #[.int .i64 now2, .slice A' ts2.length c'] 49 (0, 0)) := by
    simp [World.setCell, Array.getElem?_modify, h'.2.1]
  have o1 := ho.kept g1 (own_off ho h'.2.1 (by decide))
  refine ⟨(h'.1.other g1 (Ne.symm hne) aS aK).other g2 (Ne.symm hne) aS aK, hrow2, o1.kept g2 (own_off o1 hrow1 (by decide)), ?_, h.2.2.2.2⟩
  exact (h'.2.2.2.1.setCell (by exact h.2.2.2.2.2) _).setCell (by exact h.2.2.2.2.2) _
/-- the feed's clock has gone on too -/
theorem FRef.tick (h : FRef w0 w f r bs S l a now ts K nk la now' ts' A c) (hk : ClkAt w' f 87 [S, .int .i64 (a : Int)] now' ts' [K]) (hg : w.grownBy w' (some f)) : FRef w0 w' f r bs S l a now' ts' K nk la now' ts' A c := by
  have hne := h.ne
  have hlt := h.lt
  have hrow := h.1.row
  refine ⟨h.1.tick hk hg, ?_, h.2.2.1.kept hg (own_off h.2.2.1 hrow (by decide)), h.2.2.2.1.grown hg h.2.2.2.1.size (fun g e => by injection e with e; have := h.2.2.2.2.1; omega), h.2.2.2.2⟩
  rw [hg.block r hlt (fun e => hne (by injection e with e; exact e.symm))]
  exact h.2.1
/-- the feed has drawn -/
theorem FRef.draw {a' : Nat} (h : FRef w0 w f r bs S l a now ts K nk la now' ts' A c) (hc : CurG 87 (clk now ts ++ [K]) S w' bs f l a') (hg : w.grownBy w' (some f)) : FRef w0 w' f r bs S l a' now ts K nk la now' ts' A c := by
  have hne := h.ne
  have hlt := h.lt
  have hrow := h.1.row
  refine ⟨h.1.draw hc hg, ?_, h.2.2.1.kept hg (own_off h.2.2.1 hrow (by decide)), h.2.2.2.1.grown hg h.2.2.2.1.size (fun g e => by injection e with e; have := h.2.2.2.2.1; omega), h.2.2.2.2⟩
  rw [hg.block r hlt (fun e => hne (by injection e with e; exact e.symm))]
  exact h.2.1
end

theorem tick_cell {w w' : World} {q f : Nat} {cs : Array Value} {t : TypeId} {v : Value} (j : Nat) (h : w.heap[q]? = some (.cells cs t (0, 0))) (hg : w.grownBy w' (some f)) (hl : q < w.heap.size) (hne : q ≠ f) (hv : cs[j]? = some v) : w'.cell? ⟨q, j, none⟩ = some v := by
  rw [cell_of_row w' q j cs t (0, 0) (by rw [hg.block q hl (fun e => hne (by injection e))]; exact h)]
  exact hv

set_option maxRecDepth 100000 in
set_option maxHeartbeats 40000000 in
theorem TapeFeeds_walk (A : Option Addr) (n c : Nat) (l : List UInt8) (A1 : Option Addr) (n1 c1 : Nat) (la : List (Int × Int)) (A2 : Option Addr) (m c2 : Nat) (tk : Nat → Tick3) (w : World) (hr : RB w w.heap.size A n l) (hn : n ≤ 140737488355328) (hra : RA w w.heap.size A1 n1 la) (hn1 : n1 * 16 ≤ 140737488355328) (hf : RTicks w w.heap.size A2 m tk) (hm : m ≤ 140737488355328) (hc : n ≤ c) :
    Calls Try.prog 6 #[.slice A n c, .slice A1 n1 c1, .slice A2 m c2] w (LawPost w) := by
  have HL := Lib.hid hr.len
  have HR := Lib.hid hr
  have HRA := Lib.hid hra
  have HF := Lib.hid hf
  clear hr hra hf
  go_enter Try.func6, Try.ntmps6
  go_wp2_with fail
  refine (awake_any _).mono ?_
  rintro e w1 ⟨rfl, hb1⟩
  have HB1 := Lib.hid hb1
  have hz1 := hb1.size
  clear hb1
  go_wp2_with fail
  refine (Copy_any _ _ _ l _ w.heap.size (HR.out.below HB1.out) hz1 hn).mono ?_
  rintro e w2 ⟨g2, cc2, rfl, hown2, hb2⟩
  have HO2 := Lib.hid hown2
  have HB2 := Lib.hid (below_up HB1.out hb2 (Nat.le_refl _))
  have hz2 := HB2.out.size
  clear hown2 hb2 HB1
  go_wp2_with fail
  refine (acks_any _ _ _ la _ w.heap.size (HRA.out.below HB2.out) hz2 hn1).mono ?_
  rintro e w3 ⟨A3, c3, rfl, hown3, hb3⟩
  have HO3 := Lib.hid hown3
  have HO2' := Lib.hid (own_later HO2.out hb3)
  have HB3 := Lib.hid (below_up HB2.out hb3 (Nat.le_refl _))
  have hz3 := HB3.out.size
  clear hown3 hb3 HB2 HO2
  go_wp2_with fail
  refine (NewFeed_any _ _ n _ n1 _ l la _ w3.heap.size w3.heap.size (RB.of_own HO2'.out) (Nat.le_refl _) hn (RA.of_own HO3.out HRA.out.2) (Nat.le_refl _) hn1).mono ?_
  rintro e w4 ⟨hb4, hcase⟩
  have HB4 := Lib.hid (below_up HB3.out hb4 (Nat.le_refl _))
  have hz4 := HB4.out.size
  have hz34 : w3.heap.size ≤ w4.heap.size := hb4.size
  clear hb4 HO2' HO3 HB3
  rcases hcase with ⟨hne, rfl⟩ | ⟨he, f, S, K, rfl, hfeed⟩
  · by_cases ha : acksE la n1 = 0
    · have hbig : 1048576 < n := by
        have := hne
        rw [feedE, if_pos ha, HL.out] at this
        by_cases h : 1048576 < n
        · exact h
        · rw [if_neg h] at this
          exact absurd rfl this
      have hE : feedE l la n1 = 2 := by rw [feedE, if_pos ha, HL.out, if_pos hbig]
      rw [hE]
      clear hE hne
      go_wp2_with fail
      refine (RefAcks_any _ _ _ la _ w.heap.size (HRA.out.below HB4.out) hn1).mono ?_
      rintro e w5 ⟨rfl, rfl⟩
      rw [ha]
      clear ha
      go_wp2
      go_ret
      exact ⟨rfl, HB4.out⟩
    · have hE : feedE l la n1 = acksE la n1 := by rw [feedE, if_neg ha]
      rw [hE]
      have HX := Lib.hid ha
      clear hE hne
      go_wp2_with fail
      refine (RefAcks_any _ _ _ la _ w.heap.size (HRA.out.below HB4.out) hn1).mono ?_
      rintro e w5 ⟨rfl, rfl⟩
      have y1 : (acksE la n1 != 0) = true := by simpa using ha
      have y2 : (acksE la n1 == 0) = false := by simpa using ha
      have y3 : (acksE la n1 == acksE la n1) = true := by simp
      clear ha
      generalize acksE la n1 = E at *
      go_wp2
      go_ret
      exact ⟨rfl, HB4.out⟩
  · have ha : acksE la n1 = 0 := by
      by_cases h : acksE la n1 = 0
      · exact h
      · rw [feedE, if_neg h] at he
        exact absurd he h
    have hsm : n ≤ 1048576 := by
      rw [feedE, if_pos ha, HL.out] at he
      by_cases h : 1048576 < n
      · rw [if_pos h] at he
        exact absurd he (by decide)
      · omega
    obtain ⟨Ak, ck, rfl, _⟩ := hfeed.ra
    have HFD := Lib.hid hfeed
    have hfb : w3.heap.size ≤ f := hfeed.1.1
    clear he hfeed
    go_wp2_with fail
    refine (RefAcks_any _ _ _ la _ w.heap.size (HRA.out.below HB4.out) hn1).mono ?_
    rintro e w5 ⟨rfl, rfl⟩
    rw [ha]
    clear ha
    go_wp2_with fail
    refine (Now_any f _ [S, .int .i64 ((0 : Nat) : Int)] 0 [] [.slice Ak n1 ck] _ HFD.out.clk_).mono ?_
    rintro e w5 ⟨rfl, rfl⟩
    go_wp2_with fail
    refine (Left_any _ _ _ f _ l 0 _ HFD.out.1 (by rw [HL.out]; exact hn)).mono ?_
    rintro e w5 ⟨rfl, nd, rfl⟩
    rw [show ((l.length - 0 : Nat) : Int) = (n : Int) by rw [HL.out]; omega]
    have y0 : ((n : Int) != (n : Int)) = false := by simp
    have HF0 := Lib.hid (FeedAt.drewN HFD.out nd)
    have HB0 := Lib.hid (below_drewN HB4.out nd)
    have hz0 : w.heap.size ≤ (w4.drewN nd).heap.size := HB0.out.size
    clear HFD HB4
    generalize w4.drewN nd = w5 at *
    go_wp2_with fail
    have HT := Lib.hid (show FRef w (w5.alloc (.cells #[.int .i64 0, .slice none 0 0] 49)) f w5.heap.size w3.heap.size S l 0 0 [] (.slice Ak n1 ck) n1 la 0 [] none 0 from
      ⟨HF0.out.later ((Below.refl _ _).alloc (Nat.le_refl _) _), heap_alloc_new w5 _, World.ownsRow_nil _ _ _ _, HB0.out.alloc hz0 _, by omega, hz0⟩)
    generalize w5.alloc (.cells #[.int .i64 0, .slice none 0 0] 49) = w6 at *
    generalize w5.heap.size = r at *
    generalize w3.heap.size = bs at *
    clear HF0 HB0
    go_loopw [11, 13, 14, 15, 16, 17, 18, 19, 20, 21, 22, 23, 24, 25, 26, 80] (fun at_ _ _ _ _ _ _ _ _ _ _ _ _ _ _ i wr => ∃ (k a : Nat) (now : Int) (ts : List (Int × Int)) (A' : Option Addr) (c' : Nat), k ≤ m ∧ i = .int .i64 k ∧ at_ = .int .i64 (a : Int) ∧ FRef w wr f r bs S l a now ts (.slice Ak n1 ck) n1 la now ts A' c') (fun _ _ _ _ _ _ _ _ _ _ _ _ _ _ _ i _ => m - (intOf i).toNat)
    case atStart => exact ⟨0, 0, 0, [], none, 0, by omega, rfl, rfl, HT.out⟩
    case round =>
      obtain ⟨k, a, now, ts, A', c', hk, rfl, rfl, hT⟩ := hrel
      have HT := Lib.hid hT
      have han : a ≤ n := by rw [← HL.out]; exact hT.1.1.len
      clear hT
      by_cases hlt : k < m
      · obtain ⟨tb, off, rfl, hadb, hcc⟩ := HF.out (by omega)
        obtain ⟨⟨⟨o1, o2⟩, ⟨a1, a2⟩, ⟨d1, d2⟩⟩, x0, x1, x2⟩ := hcc k hlt
        clear hcc
        rw [← HT.out.2.2.2.1.cell hadb] at x0 x1 x2
        generalize (tk k).k = o at *
        generalize (tk k).a = aa at *
        generalize (tk k).b = d at *
        have hsz : w.heap.size ≤ wr.heap.size := HT.out.2.2.2.1.size
        have hr0 : wr.cell? ⟨r, 0, none⟩ = some (.int .i64 now) := by rw [cell_of_row _ _ 0 _ _ _ HT.out.2.1]; rfl
        have hr1 : wr.cell? ⟨r, 1, none⟩ = some (.slice A' ts.length c') := by rw [cell_of_row _ _ 1 _ _ _ HT.out.2.1]; rfl
        have hrl := HT.out.lt
        go_upto_block 2 with fail
        have HT1 := Lib.hid (HT.out.later ((Below.refl _ _).alloc (Nat.le_refl _) (.cells #[.int .i64 o, .int .i64 aa, .int .i64 d] 51)))
        have hq := heap_alloc_new wr (.cells #[.int .i64 o, .int .i64 aa, .int .i64 d] 51)
        have hql : wr.heap.size < (wr.alloc (.cells #[.int .i64 o, .int .i64 aa, .int .i64 d] 51)).heap.size := by simp
        have HQ := Lib.hid hq
        have hsz1 : w.heap.size ≤ (wr.alloc (.cells #[.int .i64 o, .int .i64 aa, .int .i64 d] 51)).heap.size := by simp; omega
        clear hq hr0 hr1 x0 x1 x2 HT hrl
        generalize wr.alloc (.cells #[.int .i64 o, .int .i64 aa, .int .i64 d] 51) = W1 at *
        generalize wr.heap.size = q at *
        go_cut [11] (fun at_ wx => ∃ (a2 : Nat) (now2 : Int) (ts2 : List (Int × Int)) (Ac : Option Addr) (cc : Nat), at_ = .int .i64 (a2 : Int) ∧ FRef w wx f r bs S l a2 now2 ts2 (.slice Ak n1 ck) n1 la now2 ts2 Ac cc ∧ wx.cell? ⟨q, 2, none⟩ = some (.int .i64 d))
        case first =>
          have hr0 := HT1.out.r0
          have hr1 := HT1.out.r1
          have qa1 : W1.cell? ⟨q, 1, none⟩ = some (.int .i64 aa) := by rw [cell_of_row _ _ 1 _ _ _ HQ.out]; rfl
          have qd1 : W1.cell? ⟨q, 2, none⟩ = some (.int .i64 d) := by rw [cell_of_row _ _ 2 _ _ _ HQ.out]; rfl
          by_cases h1 : o = 1
          · subst h1
            go_wp2_with fail
            refine (RefSet_any w.heap.size _ now ts aa d _ ⟨A', c', rfl, HT1.out.2.2.1⟩ HT1.out.1.2.1 hsz1).mono ?_
            rintro e w7 ⟨v7, rfl, ⟨A7, c7, rfl, ho7⟩, hb7⟩
            have hq7 : w7.heap[q]? = some (.cells #[.int .i64 1, .int .i64 aa, .int .i64 d] 51 (0, 0)) := by rw [hb7.block q hql]; exact HQ.out
            have HT7 := Lib.hid (HT1.out.later hb7)
            have r0 := HT7.out.r0
            have r1 := HT7.out.r1
            have g0 : w7.frozen? ⟨r, 0, none⟩ = false := frozen_of_row _ _ _ _ _ HT7.out.2.1
            have g1 : w7.frozen? ⟨r, 1, none⟩ = false := frozen_of_row _ _ _ _ _ HT7.out.2.1
            have hqr : q ≠ r := by intro e; subst e; have := HT7.out.2.1; rw [hq7] at this; simp at this
            have hqf : q ≠ f := by intro e; subst e; have := HT7.out.1.row; rw [hq7] at this; simp only [Option.some.injEq, Obj.cells.injEq] at this; exact absurd this.2.1 (by decide)
            have HT8 := Lib.hid (FRef.ref (now2 := now) (ts2 := setT now ts aa d) HT1.out hb7 ho7)
            have hq8 : ((w7.setCell ⟨r, 0, none⟩ (.int .i64 (now))).setCell ⟨r, 1, none⟩ (.slice A7 (setT now ts aa d).length c7)).heap[q]? = some (.cells #[.int .i64 1, .int .i64 aa, .int .i64 d] 51 (0, 0)) := by
              rw [heap_setCell_other _ _ _ _ hqr, heap_setCell_other _ _ _ _ hqr]
              exact hq7
            have HQ8 := Lib.hid hq8
            clear ho7 hb7 hq7 HT7 HQ HT1 hq8 hr0 hr1 qa1 qd1
            go_wp2
            generalize (w7.setCell ⟨r, 0, none⟩ (.int .i64 (now))).setCell ⟨r, 1, none⟩ (.slice A7 (setT now ts aa d).length c7) = w8 at *
            clear r0 r1 g0 g1
            have q1 : w8.cell? ⟨q, 1, none⟩ = some (.int .i64 aa) := by rw [cell_of_row _ _ 1 _ _ _ HQ8.out]; rfl
            have q2 : w8.cell? ⟨q, 2, none⟩ = some (.int .i64 d) := by rw [cell_of_row _ _ 2 _ _ _ HQ8.out]; rfl
            have hql8 : q < w8.heap.size := (Array.getElem?_eq_some_iff.1 HQ8.out).1
            clear hqr hql
            go_region_held3 (fun w' => w'.cell? ⟨q, 1, none⟩ = some (.int .i64 aa) ∧ w'.cell? ⟨q, 2, none⟩ = some (.int .i64 d)) (go_keep) (first | (go_at_call 16; refine (Set_any f _ [S, .int .i64 (a : Int)] now ts [.slice Ak n1 ck] aa d _ (by exact HT8.out.1.clk_)).mono ?_; rintro e w9 ⟨rfl, hk9, hg9⟩; have k1 := tick_cell (w := w8.drew) 1 HQ8.out hg9 (by exact hql8) hqf rfl; have k2 := tick_cell (w := w8.drew) 2 HQ8.out hg9 (by exact hql8) hqf rfl))
            have HT9 := Lib.hid (HT8.out.tick hk9 ⟨hg9.os, hg9.tape, hg9.output, hg9.size, hg9.block⟩)
            clear hk9 hg9 HT8 q1 q2 HQ8 k1 hql8
            have e0 : (setE ts aa != setE ts aa) = false := by simp
            generalize setE ts aa = E at *
            generalize setT now ts aa d = ts5 at *
            go_wp2
            go_meet
            exact ⟨a, now, ts5, A7, c7, rfl, HT9.out, k2⟩
          · by_cases h2 : o = 2
            · subst h2
              go_wp2_with fail
              refine (RefDue_any w.heap.size _ now ts aa _ ⟨A', c', rfl, HT1.out.2.2.1⟩ HT1.out.1.2.1 hsz1).mono ?_
              rintro e w7 ⟨v7, rfl, ⟨A7, c7, rfl, ho7⟩, hb7⟩
              have hq7 : w7.heap[q]? = some (.cells #[.int .i64 2, .int .i64 aa, .int .i64 d] 51 (0, 0)) := by rw [hb7.block q hql]; exact HQ.out
              have HT7 := Lib.hid (HT1.out.later hb7)
              have r0 := HT7.out.r0
              have r1 := HT7.out.r1
              have g0 : w7.frozen? ⟨r, 0, none⟩ = false := frozen_of_row _ _ _ _ _ HT7.out.2.1
              have g1 : w7.frozen? ⟨r, 1, none⟩ = false := frozen_of_row _ _ _ _ _ HT7.out.2.1
              have hqr : q ≠ r := by intro e; subst e; have := HT7.out.2.1; rw [hq7] at this; simp at this
              have hqf : q ≠ f := by intro e; subst e; have := HT7.out.1.row; rw [hq7] at this; simp only [Option.some.injEq, Obj.cells.injEq] at this; exact absurd this.2.1 (by decide)
              have HT8 := Lib.hid (FRef.ref (now2 := dueN now ts aa) (ts2 := dueT ts aa) HT1.out hb7 ho7)
              have hq8 : ((w7.setCell ⟨r, 0, none⟩ (.int .i64 (dueN now ts aa))).setCell ⟨r, 1, none⟩ (.slice A7 (dueT ts aa).length c7)).heap[q]? = some (.cells #[.int .i64 2, .int .i64 aa, .int .i64 d] 51 (0, 0)) := by
                rw [heap_setCell_other _ _ _ _ hqr, heap_setCell_other _ _ _ _ hqr]
                exact hq7
              have HQ8 := Lib.hid hq8
              clear ho7 hb7 hq7 HT7 HQ HT1 hq8 hr0 hr1 qa1 qd1
              go_wp2
              generalize (w7.setCell ⟨r, 0, none⟩ (.int .i64 (dueN now ts aa))).setCell ⟨r, 1, none⟩ (.slice A7 (dueT ts aa).length c7) = w8 at *
              clear r0 r1 g0 g1
              have q1 : w8.cell? ⟨q, 1, none⟩ = some (.int .i64 aa) := by rw [cell_of_row _ _ 1 _ _ _ HQ8.out]; rfl
              have q2 : w8.cell? ⟨q, 2, none⟩ = some (.int .i64 d) := by rw [cell_of_row _ _ 2 _ _ _ HQ8.out]; rfl
              have hql8 : q < w8.heap.size := (Array.getElem?_eq_some_iff.1 HQ8.out).1
              clear hqr hql
              go_region_held3 (fun w' => w'.cell? ⟨q, 1, none⟩ = some (.int .i64 aa) ∧ w'.cell? ⟨q, 2, none⟩ = some (.int .i64 d)) (go_keep) (first | (go_at_call 18; refine (Due_any f _ [S, .int .i64 (a : Int)] now ts [.slice Ak n1 ck] aa _ (by exact HT8.out.1.clk_)).mono ?_; rintro e w9 ⟨rfl, hk9, hg9⟩; have k1 := tick_cell (w := w8.drew) 1 HQ8.out hg9 (by exact hql8) hqf rfl; have k2 := tick_cell (w := w8.drew) 2 HQ8.out hg9 (by exact hql8) hqf rfl))
              have HT9 := Lib.hid (HT8.out.tick hk9 ⟨hg9.os, hg9.tape, hg9.output, hg9.size, hg9.block⟩)
              clear hk9 hg9 HT8 q1 q2 HQ8 k1 hql8
              have e0 : (dueW ts aa != dueW ts aa) = false := by simp
              have e1 : (dueB ts aa != dueB ts aa) = false := by simp
              generalize dueW ts aa = E at *
              generalize dueB ts aa = E' at *
              generalize dueT ts aa = ts5 at *
              generalize dueN now ts aa = now5 at *
              go_wp2
              go_meet
              exact ⟨a, now5, ts5, A7, c7, rfl, HT9.out, k2⟩
            · by_cases h3 : o = 3
              · subst h3
                go_wp2_with fail
                refine (RefMove_any w.heap.size _ now ts aa _ ⟨A', c', rfl, HT1.out.2.2.1⟩).mono ?_
                rintro e w7 ⟨v7, rfl, ⟨A7, c7, rfl, ho7⟩, hb7⟩
                have hq7 : w7.heap[q]? = some (.cells #[.int .i64 3, .int .i64 aa, .int .i64 d] 51 (0, 0)) := by rw [hb7.block q hql]; exact HQ.out
                have HT7 := Lib.hid (HT1.out.later hb7)
                have r0 := HT7.out.r0
                have r1 := HT7.out.r1
                have g0 : w7.frozen? ⟨r, 0, none⟩ = false := frozen_of_row _ _ _ _ _ HT7.out.2.1
                have g1 : w7.frozen? ⟨r, 1, none⟩ = false := frozen_of_row _ _ _ _ _ HT7.out.2.1
                have hqr : q ≠ r := by intro e; subst e; have := HT7.out.2.1; rw [hq7] at this; simp at this
                have hqf : q ≠ f := by intro e; subst e; have := HT7.out.1.row; rw [hq7] at this; simp only [Option.some.injEq, Obj.cells.injEq] at this; exact absurd this.2.1 (by decide)
                have HT8 := Lib.hid (FRef.ref (now2 := movN now aa) (ts2 := ts) HT1.out hb7 ho7)
                have hq8 : ((w7.setCell ⟨r, 0, none⟩ (.int .i64 (movN now aa))).setCell ⟨r, 1, none⟩ (.slice A7 (ts).length c7)).heap[q]? = some (.cells #[.int .i64 3, .int .i64 aa, .int .i64 d] 51 (0, 0)) := by
                  rw [heap_setCell_other _ _ _ _ hqr, heap_setCell_other _ _ _ _ hqr]
                  exact hq7
                have HQ8 := Lib.hid hq8
                clear ho7 hb7 hq7 HT7 HQ HT1 hq8 hr0 hr1 qa1 qd1
                go_wp2
                generalize (w7.setCell ⟨r, 0, none⟩ (.int .i64 (movN now aa))).setCell ⟨r, 1, none⟩ (.slice A7 (ts).length c7) = w8 at *
                clear r0 r1 g0 g1
                have q1 : w8.cell? ⟨q, 1, none⟩ = some (.int .i64 aa) := by rw [cell_of_row _ _ 1 _ _ _ HQ8.out]; rfl
                have q2 : w8.cell? ⟨q, 2, none⟩ = some (.int .i64 d) := by rw [cell_of_row _ _ 2 _ _ _ HQ8.out]; rfl
                have hql8 : q < w8.heap.size := (Array.getElem?_eq_some_iff.1 HQ8.out).1
                clear hqr hql
                go_region_held3 (fun w' => w'.cell? ⟨q, 1, none⟩ = some (.int .i64 aa) ∧ w'.cell? ⟨q, 2, none⟩ = some (.int .i64 d)) (go_keep) (first | (go_at_call 20; refine (Move_any f _ [S, .int .i64 (a : Int)] now ts [.slice Ak n1 ck] aa _ (by exact HT8.out.1.clk_)).mono ?_; rintro e w9 ⟨rfl, hk9, hg9⟩; have k1 := tick_cell (w := w8.drew) 1 HQ8.out hg9 (by exact hql8) hqf rfl; have k2 := tick_cell (w := w8.drew) 2 HQ8.out hg9 (by exact hql8) hqf rfl))
                have HT9 := Lib.hid (HT8.out.tick hk9 ⟨hg9.os, hg9.tape, hg9.output, hg9.size, hg9.block⟩)
                clear hk9 hg9 HT8 q1 q2 HQ8 k1 hql8
                have e0 : (movE now aa != movE now aa) = false := by simp
                generalize movE now aa = E at *
                generalize movN now aa = now5 at *
                go_wp2
                go_meet
                exact ⟨a, now5, ts, A7, c7, rfl, HT9.out, k2⟩
              · skip
                have e1 : (o == 1) = false := by simpa using h1
                have e2 : (o == 2) = false := by simpa using h2
                have e3 : (o == 3) = false := by simpa using h3
                clear h1 h2 h3
                have hlW : l.length ≤ 140737488355328 := by rw [HL.out]; exact hn
                have HLW := Lib.hid hlW
                clear hlW
                go_wp2_with fail
                have HT2 := Lib.hid (HT1.out.later ((Below.refl _ _).alloc (Nat.le_refl _) (.cells #[.int .i64 d] 3)))
                have HRI := Lib.hid (show RI (W1.alloc (.cells #[.int .i64 d] 3)) (W1.heap.size + 1) (some ⟨W1.heap.size, 0, none⟩) 1 [d] from ⟨Reads.lit W1 _ (iv [d]) 1 1 rfl _ rfl, fun z hz => by simp at hz; subst hz; exact ⟨d1, d2⟩⟩)
                have HQ2 := Lib.hid (show (W1.alloc (.cells #[.int .i64 d] 3)).heap[q]? = some (.cells #[.int .i64 o, .int .i64 aa, .int .i64 d] 51 (0, 0)) by rw [heap_alloc_old _ _ hql]; exact HQ.out)
                have hb2 : W1.heap.size + 1 ≤ (W1.alloc (.cells #[.int .i64 d] 3)).heap.size := by simp
                clear hr0 hr1 qa1 qd1 HT1 HQ
                generalize W1.alloc (.cells #[.int .i64 d] 3) = W2 at *
                have hzw2 := HT2.out.2.2.2.1.size
                refine (RefDraws_any A _ n 1 c 1 l a [d] _ w.heap.size (W1.heap.size + 1) (HR.out.below HT2.out.2.2.2.1) HRI.out hzw2 hb2 hc hn (by omega) han).mono ?_
                rintro e w3 ⟨A3, m3, c3, rfl, ho3, hb3⟩
                rw [HL.out]
                obtain ⟨D1, D2, D3⟩ := one_draw (l := l) (a := a) (zs := [d]) rfl (by rw [HL.out]; exact han)
                rw [show it [d] 0 = d from rfl, HL.out] at D1 D2 D3
                rw [D1, D2]
                have HT3 := Lib.hid (HT2.out.later hb3)
                have hql2 : q < W2.heap.size := (Array.getElem?_eq_some_iff.1 HQ2.out).1
                have HQ3 := Lib.hid (show w3.heap[q]? = some (.cells #[.int .i64 o, .int .i64 aa, .int .i64 d] 51 (0, 0)) by rw [hb3.block q hql2]; exact HQ2.out)
                have hqf : q ≠ f := by intro e; subst e; have := HT3.out.1.row; rw [HQ3.out] at this; simp only [Option.some.injEq, Obj.cells.injEq] at this; exact absurd this.2.1 (by decide)
                have hql3 : q < w3.heap.size := (Array.getElem?_eq_some_iff.1 HQ3.out).1
                have hfW : f < W2.heap.size := HT2.out.1.1.lt
                have HO3 := Lib.hid ho3
                have HD3 := Lib.hid D3
                have q2 : w3.cell? ⟨q, 2, none⟩ = some (.int .i64 d) := by rw [cell_of_row _ _ 2 _ _ _ HQ3.out]; rfl
                clear ho3 hb3 D1 D2 D3 HT2 HRI HQ2 hql hb2
                go_wp2
                go_region_held3 (fun w' => w'.cell? ⟨q, 2, none⟩ = some (.int .i64 d)) (go_keep) (first | (go_at_call 28; refine (Draw_any 87 _ S (by decide) f bs l a d _ (by exact HT3.out.1.1) HLW.out).mono ?_; rintro e w9 ⟨A9, n9, c9, rfl, hn9, hown9, hg9, hc9, hgr9⟩; rw [HL.out]; have k2 := tick_cell (w := w3.drew) 2 HQ3.out hgr9 (by exact hql3) hqf rfl))
                rw [HL.out] at hg9 hc9
                have HT9 := Lib.hid (HT3.out.draw hc9 ⟨hgr9.os, hgr9.tape, hgr9.output, hgr9.size, hgr9.block⟩)
                have HW9 := Lib.hid (RBB.of_own (OBB_kept (w := w3.drew) HO3.out hgr9 hfW))
                have HO9 := Lib.hid hown9
                have HN9 := Lib.hid hn9
                clear hn9 hown9 hg9 hc9 hgr9 HT3 HO3 HQ3 q2 hql3
                by_cases hok : takE n a d = 0
                · have HE := Lib.hid (show drwE n a d = 0 by simp [drwE, hok])
                  rw [HE.out]
                  have HW9' := HW9.out
                  rw [HD3.out hok] at HW9'
                  have hm3 : m3 = 1 := by have := HW9'.len; simpa using this.symm
                  subst hm3
                  obtain ⟨ad6, B6, n6, c66, hA6, hab6, hcell6, _, hrb6⟩ := HW9'.at_ (k := 0) (by omega)
                  subst hA6
                  rw [add_zero] at hcell6
                  rw [show lat [takL l a d] 0 = takL l a d from rfl] at hrb6
                  have hn9 : n9 ≤ 140737488355328 := by
                    rw [← HN9.out]
                    have h1 : (takL l a d).length ≤ l.length := by
                      unfold takL
                      split
                      · simp
                        omega
                      · simp
                    exact Nat.le_trans h1 HLW.out
                  have HRB6 := Lib.hid hrb6
                  clear HW9' hrb6 HW9 hok
                  go_wp2_with fail
                  refine (Equal_any _ _ _ _ _ _ (takL l a d) (takL l a d) _ w9.heap.size w9.heap.size (RB.of_own HO9.out) HRB6.out hn9).mono fun e w8 h => ?_
                  obtain ⟨rfl, nd8, rfl⟩ := h
                  rw [show decide (takL l a d = takL l a d) = true by simp]
                  have HT8 := Lib.hid (HT9.out.drewN nd8)
                  have k8 : (w9.drewN nd8).cell? ⟨q, 2, none⟩ = some (.int .i64 d) := k2
                  clear HO9 HRB6 HT9 hcell6 k2
                  generalize w9.drewN nd8 = w8 at *
                  go_wp2
                  go_meet
                  exact ⟨takN n a d, now, ts, A', c', rfl, HT8.out, k8⟩
                · have hE : drwE n a d ≠ 0 := by unfold drwE; split <;> omega
                  have y1 : (drwE n a d != drwE n a d) = false := by simp
                  have y2 : (drwE n a d == 0) = false := by simpa using hE
                  clear hE hok HO9 HW9 HN9 HD3
                  generalize drwE n a d = E at *
                  go_wp2
                  go_meet
                  exact ⟨takN n a d, now, ts, A', c', rfl, HT9.out, k2⟩
        case rest =>
          obtain ⟨a2, now2, ts2, Ac, cc, rfl, hTc, qd⟩ := hcut
          have HTc := Lib.hid hTc
          clear hTc HT1 HQ hql hsz1
          go_wp2_with fail
          obtain ⟨id, hid⟩ : ∃ id, id = IntKind.u64.wrap d := ⟨_, rfl⟩
          rw [← hid]
          clear hid
          refine (RefFirst_any _ _ _ la id _ w.heap.size (HRA.out.below HTc.out.2.2.2.1) hn1).mono ?_
          rintro e wx ⟨rfl, rfl⟩
          obtain ⟨⟨x, b⟩, hxb⟩ : ∃ q, firstTo la id n1 = q := ⟨_, rfl⟩
          rw [hxb]
          have z0 := HTc.out.r0
          have z1 := HTc.out.r1
          have z2 := HTc.out.kc
          have y0 : (now2 != now2) = false := by simp
          have y1 : (((ts2).length : Int) != ((ts2).length : Int)) = false := by simp
          have y2 : ((a2 : Int) != (a2 : Int)) = false := by simp
          have h256 := HTc.out.1.2.2.2.2
          have HHB := Lib.hid (show heardB la id n1 now2 = (b && decide (x ≤ now2)) by unfold heardB; rw [hxb])
          clear hxb
          generalize hTL : (ts2).length = tl at *
          have HTL := Lib.hid hTL
          clear hTL
          have hxn : (b = false ∧ True) ∨ (b = true ∧ x ≤ now2) ∨ (b = true ∧ ¬ x ≤ now2) := by
            cases b
            · exact .inl ⟨rfl, trivial⟩
            · by_cases h : x ≤ now2
              · exact .inr (.inl ⟨rfl, h⟩)
              · exact .inr (.inr ⟨rfl, h⟩)
          rcases hxn with ⟨rfl, _⟩ | ⟨rfl, hx⟩ | ⟨rfl, hx⟩
          · as_aux_lemma =>
            have HV := Lib.hid (show heardB la id n1 now2 = false by rw [HHB.out]; simp)
            clear HHB
            go_wp2
            refine wp_region_noPanic ?_
            refine wp_region_held_drew (S := fun w' => w'.cell? ⟨r, 0, none⟩ = some (.int .i64 now2) ∧ w'.cell? ⟨r, 1, none⟩ = some (.slice Ac tl cc) ∧ w'.cell? ⟨f, 132, none⟩ = some (.slice Ak n1 ck)) (by kernel_rfl) ?_ (fun hHeld => ?_)
            · (try dsimp only)
              go_keep
            refine wpAnyH_take (i := 0) (v := ?v0) rfl (by kernel_rfl) (by kernel_rfl) (by kernel_rfl) (fun _ _ _ h => h) (Or.inl ⟨by rfl, ?y0⟩) (by assumption) ?r0
            case y0 => (intro w hSw; (try dsimp only at hSw); first | (go_simp; done) | (go_simp; with_reducible rfl))
            (try simp only [List.getElem_toArray, List.getElem_cons_zero, List.getElem_cons_succ, Act.put, List.setIfInBounds_toArray, List.set_cons_zero, List.set_cons_succ])
            refine wpAnyH_take (i := 1) (v := ?v1) rfl (by kernel_rfl) (by kernel_rfl) (by kernel_rfl) (fun _ _ _ h => h) (Or.inl ⟨by rfl, ?y1⟩) (by assumption) ?r1
            case y1 => (intro w hSw; (try dsimp only at hSw); first | (go_simp; done) | (go_simp; with_reducible rfl))
            (try simp only [List.getElem_toArray, List.getElem_cons_zero, List.getElem_cons_succ, Act.put, List.setIfInBounds_toArray, List.set_cons_zero, List.set_cons_succ])
            refine wpAnyH_take (i := 2) (v := ?v2) rfl (by kernel_rfl) (by kernel_rfl) (by kernel_rfl) (fun _ _ _ h => h) (Or.inl ⟨by rfl, ?y2⟩) (by assumption) ?r2
            case y2 => (intro w hSw; (try dsimp only at hSw); first | (go_simp; done) | (go_simp; with_reducible rfl))
            (try simp only [List.getElem_toArray, List.getElem_cons_zero, List.getElem_cons_succ, Act.put, List.setIfInBounds_toArray, List.set_cons_zero, List.set_cons_succ])
            refine wpAnyH_take (i := 4) (v := ?v4) rfl (by kernel_rfl) (by kernel_rfl) (by kernel_rfl) (fun _ _ _ h => h) (Or.inl ⟨by rfl, ?y4⟩) (by assumption) ?r4
            case y4 => (intro w hSw; (try dsimp only at hSw); first | (go_simp; done) | (go_simp; with_reducible rfl))
            (try simp only [List.getElem_toArray, List.getElem_cons_zero, List.getElem_cons_succ, Act.put, List.setIfInBounds_toArray, List.set_cons_zero, List.set_cons_succ])
            refine wpAnyH_take (i := 5) (v := ?v5) rfl (by kernel_rfl) (by kernel_rfl) (by kernel_rfl) (fun _ _ _ h => h) (Or.inl ⟨by rfl, ?y5⟩) (by assumption) ?r5
            case y5 => (intro w hSw; (try dsimp only at hSw); first | (go_simp; done) | (go_simp; with_reducible rfl))
            (try simp only [List.getElem_toArray, List.getElem_cons_zero, List.getElem_cons_succ, Act.put, List.setIfInBounds_toArray, List.set_cons_zero, List.set_cons_succ])
            refine wpAnyH_ready (rs := [3]) (by kernel_rfl) (by simp) ?_
            refine AllReadyH.cons rfl (fun K hK => ?_) AllReadyH.nil
            go_simp
            refine (Now_any f _ [S, .int .i64 (a2 : Int)] now2 (ts2) [.slice Ak n1 ck] _ (by exact HTc.out.1.clk_)).mono ?_
            rintro e wA ⟨rfl, rfl⟩
            first | (refine hK.out _ _ ?_ (fun hHeld => ?_)) | (go_wp2_with fail; refine hK.out _ _ ?_ (fun hHeld => ?_))
            · (try dsimp only)
              go_keep
            clear hK K
            (try simp only [List.getElem_toArray, List.getElem_cons_zero, List.getElem_cons_succ, Act.put, List.setIfInBounds_toArray, List.set_cons_zero, List.set_cons_succ])
            refine wpAnyH_take (i := 6) (v := ?v6) rfl (by kernel_rfl) (by kernel_rfl) (by kernel_rfl) (fun _ _ _ h => h) (Or.inl ⟨by rfl, ?y6⟩) (by assumption) ?r6
            case y6 => (intro w hSw; (try dsimp only at hSw); first | (go_simp; done) | (go_simp; with_reducible rfl))
            (try simp only [List.getElem_toArray, List.getElem_cons_zero, List.getElem_cons_succ, Act.put, List.setIfInBounds_toArray, List.set_cons_zero, List.set_cons_succ])
            refine wpAnyH_take (i := 7) (v := ?v7) rfl (by kernel_rfl) (by kernel_rfl) (by kernel_rfl) (fun _ _ _ h => h) (Or.inl ⟨by rfl, ?y7⟩) (by assumption) ?r7
            case y7 => (intro w hSw; (try dsimp only at hSw); first | (go_simp; done) | (go_simp; with_reducible rfl))
            (try simp only [List.getElem_toArray, List.getElem_cons_zero, List.getElem_cons_succ, Act.put, List.setIfInBounds_toArray, List.set_cons_zero, List.set_cons_succ])
            refine wpAnyH_take (i := 8) (v := ?v8) rfl (by kernel_rfl) (by kernel_rfl) (by kernel_rfl) (fun _ _ _ h => h) (Or.inl ⟨by rfl, ?y8⟩) (by assumption) ?r8
            case y8 => (intro w hSw; (try dsimp only at hSw); first | (go_simp; done) | (go_simp; with_reducible rfl))
            (try simp only [List.getElem_toArray, List.getElem_cons_zero, List.getElem_cons_succ, Act.put, List.setIfInBounds_toArray, List.set_cons_zero, List.set_cons_succ])
            refine wpAnyH_take (i := 9) (v := ?v9) rfl (by kernel_rfl) (by kernel_rfl) (by kernel_rfl) (fun _ _ _ h => h) (Or.inl ⟨by rfl, ?y9⟩) (by assumption) ?r9
            case y9 => (intro w hSw; (try dsimp only at hSw); first | (go_simp; done) | (go_simp; with_reducible rfl))
            (try simp only [List.getElem_toArray, List.getElem_cons_zero, List.getElem_cons_succ, Act.put, List.setIfInBounds_toArray, List.set_cons_zero, List.set_cons_succ])
            refine wpAnyH_take (i := 10) (v := ?v10) rfl (by kernel_rfl) (by kernel_rfl) (by kernel_rfl) (fun _ _ _ h => h) (Or.inl ⟨by rfl, ?y10⟩) (by assumption) ?r10
            case y10 => (intro w hSw; (try dsimp only at hSw); first | (go_simp; done) | (go_simp; with_reducible rfl))
            (try simp only [List.getElem_toArray, List.getElem_cons_zero, List.getElem_cons_succ, Act.put, List.setIfInBounds_toArray, List.set_cons_zero, List.set_cons_succ])
            refine wpAnyH_take (i := 12) (v := ?v12) rfl (by kernel_rfl) (by kernel_rfl) (by kernel_rfl) (fun _ _ _ h => h) (Or.inl ⟨by rfl, ?y12⟩) (by assumption) ?r12
            case y12 => (intro w hSw; (try dsimp only at hSw); first | (go_simp; done) | (go_simp; with_reducible rfl))
            (try simp only [List.getElem_toArray, List.getElem_cons_zero, List.getElem_cons_succ, Act.put, List.setIfInBounds_toArray, List.set_cons_zero, List.set_cons_succ])
            refine wpAnyH_take (i := 13) (v := ?v13) rfl (by kernel_rfl) (by kernel_rfl) (by kernel_rfl) (fun _ _ _ h => h) (Or.inl ⟨by rfl, ?y13⟩) (by assumption) ?r13
            case y13 => (intro w hSw; (try dsimp only at hSw); first | (go_simp; done) | (go_simp; with_reducible rfl))
            (try simp only [List.getElem_toArray, List.getElem_cons_zero, List.getElem_cons_succ, Act.put, List.setIfInBounds_toArray, List.set_cons_zero, List.set_cons_succ])
            refine wpAnyH_take (i := 14) (v := ?v14) rfl (by kernel_rfl) (by kernel_rfl) (by kernel_rfl) (fun _ _ _ h => h) (Or.inl ⟨by rfl, ?y14⟩) (by assumption) ?r14
            case y14 => (intro w hSw; (try dsimp only at hSw); first | (go_simp; done) | (go_simp; with_reducible rfl))
            (try simp only [List.getElem_toArray, List.getElem_cons_zero, List.getElem_cons_succ, Act.put, List.setIfInBounds_toArray, List.set_cons_zero, List.set_cons_succ])
            refine wpAnyH_ready (rs := [11]) (by kernel_rfl) (by simp) ?_
            refine AllReadyH.cons rfl (fun K hK => ?_) AllReadyH.nil
            go_simp
            refine (Waiting_any f _ [S, .int .i64 (a2 : Int)] now2 (ts2) [.slice Ak n1 ck] _ (by exact HTc.out.1.clk_)).mono ?_
            rintro e wA ⟨rfl, rfl⟩
            rw [HTL.out]
            first | (refine hK.out _ _ ?_ (fun hHeld => ?_)) | (go_wp2_with fail; refine hK.out _ _ ?_ (fun hHeld => ?_))
            · (try dsimp only)
              go_keep
            clear hK K
            (try simp only [List.getElem_toArray, List.getElem_cons_zero, List.getElem_cons_succ, Act.put, List.setIfInBounds_toArray, List.set_cons_zero, List.set_cons_succ])
            refine wpAnyH_take (i := 15) (v := ?v15) rfl (by kernel_rfl) (by kernel_rfl) (by kernel_rfl) (fun _ _ _ h => h) (Or.inl ⟨by rfl, ?y15⟩) (by assumption) ?r15
            case y15 => (intro w hSw; (try dsimp only at hSw); first | (go_simp; done) | (go_simp; with_reducible rfl))
            (try simp only [List.getElem_toArray, List.getElem_cons_zero, List.getElem_cons_succ, Act.put, List.setIfInBounds_toArray, List.set_cons_zero, List.set_cons_succ])
            refine wpAnyH_take (i := 16) (v := ?v16) rfl (by kernel_rfl) (by kernel_rfl) (by kernel_rfl) (fun _ _ _ h => h) (Or.inl ⟨by rfl, ?y16⟩) (by assumption) ?r16
            case y16 => (intro w hSw; (try dsimp only at hSw); first | (go_simp; done) | (go_simp; with_reducible rfl))
            (try simp only [List.getElem_toArray, List.getElem_cons_zero, List.getElem_cons_succ, Act.put, List.setIfInBounds_toArray, List.set_cons_zero, List.set_cons_succ])
            refine wpAnyH_take (i := 17) (v := ?v17) rfl (by kernel_rfl) (by kernel_rfl) (by kernel_rfl) (fun _ _ _ h => h) (Or.inl ⟨by rfl, ?y17⟩) (by assumption) ?r17
            case y17 => (intro w hSw; (try dsimp only at hSw); first | (go_simp; done) | (go_simp; with_reducible rfl))
            (try simp only [List.getElem_toArray, List.getElem_cons_zero, List.getElem_cons_succ, Act.put, List.setIfInBounds_toArray, List.set_cons_zero, List.set_cons_succ])
            refine wpAnyH_take (i := 18) (v := ?v18) rfl (by kernel_rfl) (by kernel_rfl) (by kernel_rfl) (fun _ _ _ h => h) (Or.inl ⟨by rfl, ?y18⟩) (by assumption) ?r18
            case y18 => (intro w hSw; (try dsimp only at hSw); first | (go_simp; done) | (go_simp; with_reducible rfl))
            (try simp only [List.getElem_toArray, List.getElem_cons_zero, List.getElem_cons_succ, Act.put, List.setIfInBounds_toArray, List.set_cons_zero, List.set_cons_succ])
            refine wpAnyH_take (i := 19) (v := ?v19) rfl (by kernel_rfl) (by kernel_rfl) (by kernel_rfl) (fun _ _ _ h => h) (Or.inl ⟨by rfl, ?y19⟩) (by assumption) ?r19
            case y19 => (intro w hSw; (try dsimp only at hSw); first | (go_simp; done) | (go_simp; with_reducible rfl))
            (try simp only [List.getElem_toArray, List.getElem_cons_zero, List.getElem_cons_succ, Act.put, List.setIfInBounds_toArray, List.set_cons_zero, List.set_cons_succ])
            refine wpAnyH_take (i := 20) (v := ?v20) rfl (by kernel_rfl) (by kernel_rfl) (by kernel_rfl) (fun _ _ _ h => h) (Or.inl ⟨by rfl, ?y20⟩) (by assumption) ?r20
            case y20 => (intro w hSw; (try dsimp only at hSw); first | (go_simp; done) | (go_simp; with_reducible rfl))
            (try simp only [List.getElem_toArray, List.getElem_cons_zero, List.getElem_cons_succ, Act.put, List.setIfInBounds_toArray, List.set_cons_zero, List.set_cons_succ])
            refine wpAnyH_take (i := 21) (v := ?v21) rfl (by kernel_rfl) (by kernel_rfl) (by kernel_rfl) (fun _ _ _ h => h) (Or.inl ⟨by rfl, ?y21⟩) (by assumption) ?r21
            case y21 => (intro w hSw; (try dsimp only at hSw); first | (go_simp; done) | (go_simp; with_reducible rfl))
            (try simp only [List.getElem_toArray, List.getElem_cons_zero, List.getElem_cons_succ, Act.put, List.setIfInBounds_toArray, List.set_cons_zero, List.set_cons_succ])
            refine wpAnyH_take (i := 23) (v := ?v23) rfl (by kernel_rfl) (by kernel_rfl) (by kernel_rfl) (fun _ _ _ h => h) (Or.inl ⟨by rfl, ?y23⟩) (by assumption) ?r23
            case y23 => (intro w hSw; (try dsimp only at hSw); first | (go_simp; done) | (go_simp; with_reducible rfl))
            (try simp only [List.getElem_toArray, List.getElem_cons_zero, List.getElem_cons_succ, Act.put, List.setIfInBounds_toArray, List.set_cons_zero, List.set_cons_succ])
            refine wpAnyH_ready (rs := [22]) (by kernel_rfl) (by simp) ?_
            refine AllReadyH.cons rfl (fun K hK => ?_) AllReadyH.nil
            go_simp
            refine (Done_any _ _ _ f bs l a2 _ (by exact HTc.out.1.1)).mono ?_
            rintro e wA ⟨rfl, rfl⟩
            first | (refine hK.out _ _ ?_ (fun hHeld => ?_)) | (go_wp2_with fail; refine hK.out _ _ ?_ (fun hHeld => ?_))
            · (try dsimp only)
              go_keep
            clear hK K
            (try simp only [List.getElem_toArray, List.getElem_cons_zero, List.getElem_cons_succ, Act.put, List.setIfInBounds_toArray, List.set_cons_zero, List.set_cons_succ])
            refine wpAnyH_take (i := 24) (v := ?v24) rfl (by kernel_rfl) (by kernel_rfl) (by kernel_rfl) (fun _ _ _ h => h) (Or.inl ⟨by rfl, ?y24⟩) (by assumption) ?r24
            case y24 => (intro w hSw; (try dsimp only at hSw); first | (go_simp; done) | (go_simp; with_reducible rfl))
            (try simp only [List.getElem_toArray, List.getElem_cons_zero, List.getElem_cons_succ, Act.put, List.setIfInBounds_toArray, List.set_cons_zero, List.set_cons_succ])
            refine wpAnyH_take (i := 25) (v := ?v25) rfl (by kernel_rfl) (by kernel_rfl) (by kernel_rfl) (fun _ _ _ h => h) (Or.inl ⟨by rfl, ?y25⟩) (by assumption) ?r25
            case y25 => (intro w hSw; (try dsimp only at hSw); first | (go_simp; done) | (go_simp; with_reducible rfl))
            (try simp only [List.getElem_toArray, List.getElem_cons_zero, List.getElem_cons_succ, Act.put, List.setIfInBounds_toArray, List.set_cons_zero, List.set_cons_succ])
            refine wpAnyH_take (i := 26) (v := ?v26) rfl (by kernel_rfl) (by kernel_rfl) (by kernel_rfl) (fun _ _ _ h => h) (Or.inl ⟨by rfl, ?y26⟩) (by assumption) ?r26
            case y26 => (intro w hSw; (try dsimp only at hSw); first | (go_simp; done) | (go_simp; with_reducible rfl))
            (try simp only [List.getElem_toArray, List.getElem_cons_zero, List.getElem_cons_succ, Act.put, List.setIfInBounds_toArray, List.set_cons_zero, List.set_cons_succ])
            refine wpAnyH_take (i := 27) (v := ?v27) rfl (by kernel_rfl) (by kernel_rfl) (by kernel_rfl) (fun _ _ _ h => h) (Or.inl ⟨by rfl, ?y27⟩) (by assumption) ?r27
            case y27 => (intro w hSw; (try dsimp only at hSw); first | (go_simp; done) | (go_simp; with_reducible rfl))
            (try simp only [List.getElem_toArray, List.getElem_cons_zero, List.getElem_cons_succ, Act.put, List.setIfInBounds_toArray, List.set_cons_zero, List.set_cons_succ])
            refine wpAnyH_take (i := 28) (v := ?v28) rfl (by kernel_rfl) (by kernel_rfl) (by kernel_rfl) (fun _ _ _ h => h) (Or.inl ⟨by rfl, ?y28⟩) (by assumption) ?r28
            case y28 => (intro w hSw; (try dsimp only at hSw); first | (go_simp; done) | (go_simp; with_reducible rfl))
            (try simp only [List.getElem_toArray, List.getElem_cons_zero, List.getElem_cons_succ, Act.put, List.setIfInBounds_toArray, List.set_cons_zero, List.set_cons_succ])
            refine wpAnyH_take (i := 30) (v := ?v30) rfl (by kernel_rfl) (by kernel_rfl) (by kernel_rfl) (fun _ _ _ h => h) (Or.inl ⟨by rfl, ?y30⟩) (by assumption) ?r30
            case y30 => (intro w hSw; (try dsimp only at hSw); first | (go_simp; done) | (go_simp; with_reducible rfl))
            (try simp only [List.getElem_toArray, List.getElem_cons_zero, List.getElem_cons_succ, Act.put, List.setIfInBounds_toArray, List.set_cons_zero, List.set_cons_succ])
            refine wpAnyH_ready (rs := [29]) (by kernel_rfl) (by simp) ?_
            refine AllReadyH.cons rfl (fun K hK => ?_) AllReadyH.nil
            go_simp
            refine (Heard_any bs f a2 n1 S (.slice Ak n1 ck) l now2 (ts2) la id _ (by exact HTc.out.1)).mono ?_
            rintro e wA ⟨rfl, hbA⟩
            have HTA := Lib.hid (FRef.later HTc.out.drew hbA)
            rw [HV.out]
            have k0 := HTA.out.r0
            have k1 := HTA.out.r1
            have k2 := HTA.out.kc
            rw [HTL.out] at k1
            clear hbA
            first | (refine hK.out _ _ ?_ (fun hHeld => ?_)) | (go_wp2_with fail; refine hK.out _ _ ?_ (fun hHeld => ?_))
            · (try dsimp only)
              go_keep
            clear hK K
            (try simp only [List.getElem_toArray, List.getElem_cons_zero, List.getElem_cons_succ, Act.put, List.setIfInBounds_toArray, List.set_cons_zero, List.set_cons_succ])
            refine wpAnyH_take (i := 31) (v := ?v31) rfl (by kernel_rfl) (by kernel_rfl) (by kernel_rfl) (fun _ _ _ h => h) (Or.inl ⟨by rfl, ?y31⟩) (by assumption) ?r31
            case y31 => (intro w hSw; (try dsimp only at hSw); first | (go_simp; done) | (go_simp; with_reducible rfl))
            (try simp only [List.getElem_toArray, List.getElem_cons_zero, List.getElem_cons_succ, Act.put, List.setIfInBounds_toArray, List.set_cons_zero, List.set_cons_succ])
            refine wpAnyH_take (i := 32) (v := undef) rfl (by kernel_rfl) (by kernel_rfl) (by kernel_rfl) (fun _ _ _ h => h) (Or.inr ⟨by rfl, rfl⟩) (by assumption) ?_
            (try simp only [List.getElem_toArray, List.getElem_cons_zero, List.getElem_cons_succ, Act.put, List.setIfInBounds_toArray, List.set_cons_zero, List.set_cons_succ])
            refine wpAnyH_take (i := 33) (v := undef) rfl (by kernel_rfl) (by kernel_rfl) (by kernel_rfl) (fun _ _ _ h => h) (Or.inr ⟨by rfl, rfl⟩) (by assumption) ?_
            (try simp only [List.getElem_toArray, List.getElem_cons_zero, List.getElem_cons_succ, Act.put, List.setIfInBounds_toArray, List.set_cons_zero, List.set_cons_succ])
            refine wpAnyH_take (i := 34) (v := undef) rfl (by kernel_rfl) (by kernel_rfl) (by kernel_rfl) (fun _ _ _ h => h) (Or.inr ⟨by rfl, rfl⟩) (by assumption) ?_
            (try simp only [List.getElem_toArray, List.getElem_cons_zero, List.getElem_cons_succ, Act.put, List.setIfInBounds_toArray, List.set_cons_zero, List.set_cons_succ])
            refine wpAnyH_take (i := 35) (v := undef) rfl (by kernel_rfl) (by kernel_rfl) (by kernel_rfl) (fun _ _ _ h => h) (Or.inr ⟨by rfl, rfl⟩) (by assumption) ?_
            (try simp only [List.getElem_toArray, List.getElem_cons_zero, List.getElem_cons_succ, Act.put, List.setIfInBounds_toArray, List.set_cons_zero, List.set_cons_succ])
            refine wpAnyH_take (i := 36) (v := ?v36) rfl (by kernel_rfl) (by kernel_rfl) (by kernel_rfl) (fun _ _ _ h => h) (Or.inl ⟨by rfl, ?y36⟩) (by assumption) ?r36
            case y36 => (intro w hSw; (try dsimp only at hSw); first | (go_simp; done) | (go_simp; with_reducible rfl))
            (try simp only [List.getElem_toArray, List.getElem_cons_zero, List.getElem_cons_succ, Act.put, List.setIfInBounds_toArray, List.set_cons_zero, List.set_cons_succ])
            refine wpAnyH_take (i := 37) (v := ?v37) rfl (by kernel_rfl) (by kernel_rfl) (by kernel_rfl) (fun _ _ _ h => h) (Or.inl ⟨by rfl, ?y37⟩) (by assumption) ?r37
            case y37 => (intro w hSw; (try dsimp only at hSw); first | (go_simp; done) | (go_simp; with_reducible rfl))
            (try simp only [List.getElem_toArray, List.getElem_cons_zero, List.getElem_cons_succ, Act.put, List.setIfInBounds_toArray, List.set_cons_zero, List.set_cons_succ])
            refine wpAnyH_take (i := 38) (v := ?v38) rfl (by kernel_rfl) (by kernel_rfl) (by kernel_rfl) (fun _ _ _ h => h) (Or.inl ⟨by rfl, ?y38⟩) (by assumption) ?r38
            case y38 => (intro w hSw; (try dsimp only at hSw); first | (go_simp; done) | (go_simp; with_reducible rfl))
            (try simp only [List.getElem_toArray, List.getElem_cons_zero, List.getElem_cons_succ, Act.put, List.setIfInBounds_toArray, List.set_cons_zero, List.set_cons_succ])
            refine wpAnyH_take (i := 39) (v := ?v39) rfl (by kernel_rfl) (by kernel_rfl) (by kernel_rfl) (fun _ _ _ h => h) (Or.inl ⟨by rfl, ?y39⟩) (by assumption) ?r39
            case y39 => (intro w hSw; (try dsimp only at hSw); first | (go_simp; done) | (go_simp; with_reducible rfl))
            (try simp only [List.getElem_toArray, List.getElem_cons_zero, List.getElem_cons_succ, Act.put, List.setIfInBounds_toArray, List.set_cons_zero, List.set_cons_succ])
            refine wpAnyH_take (i := 40) (v := ?v40) rfl (by kernel_rfl) (by kernel_rfl) (by kernel_rfl) (fun _ _ _ h => h) (Or.inl ⟨by rfl, ?y40⟩) (by assumption) ?r40
            case y40 => (intro w hSw; (try dsimp only at hSw); first | (go_simp; done) | (go_simp; with_reducible rfl))
            (try simp only [List.getElem_toArray, List.getElem_cons_zero, List.getElem_cons_succ, Act.put, List.setIfInBounds_toArray, List.set_cons_zero, List.set_cons_succ])
            refine wpAnyH_take (i := 41) (v := ?v41) rfl (by kernel_rfl) (by kernel_rfl) (by kernel_rfl) (fun _ _ _ h => h) (Or.inl ⟨by rfl, ?y41⟩) (by assumption) ?r41
            case y41 => (intro w hSw; (try dsimp only at hSw); first | (go_simp; done) | (go_simp; with_reducible rfl))
            (try simp only [List.getElem_toArray, List.getElem_cons_zero, List.getElem_cons_succ, Act.put, List.setIfInBounds_toArray, List.set_cons_zero, List.set_cons_succ])
            refine wpAnyH_take (i := 42) (v := ?v42) rfl (by kernel_rfl) (by kernel_rfl) (by kernel_rfl) (fun _ _ _ h => h) (Or.inl ⟨by rfl, ?y42⟩) (by assumption) ?r42
            case y42 => (intro w hSw; (try dsimp only at hSw); first | (go_simp; done) | (go_simp; with_reducible rfl))
            (try simp only [List.getElem_toArray, List.getElem_cons_zero, List.getElem_cons_succ, Act.put, List.setIfInBounds_toArray, List.set_cons_zero, List.set_cons_succ])
            refine wpAnyH_take (i := 43) (v := ?v43) rfl (by kernel_rfl) (by kernel_rfl) (by kernel_rfl) (fun _ _ _ h => h) (Or.inl ⟨by rfl, ?y43⟩) (by assumption) ?r43
            case y43 => (intro w hSw; (try dsimp only at hSw); first | (go_simp; done) | (go_simp; with_reducible rfl))
            (try simp only [List.getElem_toArray, List.getElem_cons_zero, List.getElem_cons_succ, Act.put, List.setIfInBounds_toArray, List.set_cons_zero, List.set_cons_succ])
            refine wpAnyH_take (i := 44) (v := ?v44) rfl (by kernel_rfl) (by kernel_rfl) (by kernel_rfl) (fun _ _ _ h => h) (Or.inl ⟨by rfl, ?y44⟩) (by assumption) ?r44
            case y44 => (intro w hSw; (try dsimp only at hSw); first | (go_simp; done) | (go_simp; with_reducible rfl))
            (try simp only [List.getElem_toArray, List.getElem_cons_zero, List.getElem_cons_succ, Act.put, List.setIfInBounds_toArray, List.set_cons_zero, List.set_cons_succ])
            refine wpAnyH_take (i := 45) (v := ?v45) rfl (by kernel_rfl) (by kernel_rfl) (by kernel_rfl) (fun _ _ _ h => h) (Or.inl ⟨by rfl, ?y45⟩) (by assumption) ?r45
            case y45 => (intro w hSw; (try dsimp only at hSw); first | (go_simp; done) | (go_simp; with_reducible rfl))
            (try simp only [List.getElem_toArray, List.getElem_cons_zero, List.getElem_cons_succ, Act.put, List.setIfInBounds_toArray, List.set_cons_zero, List.set_cons_succ])
            refine wpAnyH_take (i := 46) (v := ?v46) rfl (by kernel_rfl) (by kernel_rfl) (by kernel_rfl) (fun _ _ _ h => h) (Or.inl ⟨by rfl, ?y46⟩) (by assumption) ?r46
            case y46 => (intro w hSw; (try dsimp only at hSw); first | (go_simp; done) | (go_simp; with_reducible rfl))
            (try simp only [List.getElem_toArray, List.getElem_cons_zero, List.getElem_cons_succ, Act.put, List.setIfInBounds_toArray, List.set_cons_zero, List.set_cons_succ])
            refine wpAnyH_take (i := 48) (v := ?v48) rfl (by kernel_rfl) (by kernel_rfl) (by kernel_rfl) (fun _ _ _ h => h) (Or.inl ⟨by rfl, ?y48⟩) (by assumption) ?r48
            case y48 => (intro w hSw; (try dsimp only at hSw); first | (go_simp; done) | (go_simp; with_reducible rfl))
            (try simp only [List.getElem_toArray, List.getElem_cons_zero, List.getElem_cons_succ, Act.put, List.setIfInBounds_toArray, List.set_cons_zero, List.set_cons_succ])
            refine wpAnyH_take (i := 49) (v := ?v49) rfl (by kernel_rfl) (by kernel_rfl) (by kernel_rfl) (fun _ _ _ h => h) (Or.inl ⟨by rfl, ?y49⟩) (by assumption) ?r49
            case y49 => (intro w hSw; (try dsimp only at hSw); first | (go_simp; done) | (go_simp; with_reducible rfl))
            (try simp only [List.getElem_toArray, List.getElem_cons_zero, List.getElem_cons_succ, Act.put, List.setIfInBounds_toArray, List.set_cons_zero, List.set_cons_succ])
            refine wpAnyH_ready (rs := [47]) (by kernel_rfl) (by simp) ?_
            refine AllReadyH.cons rfl (fun K hK => ?_) AllReadyH.nil
            go_simp
            refine (Acked_any Ak n1 ck la id now2 _ wA.heap.size (by exact HTA.out.ra) (by exact Nat.le_refl _) hn1).mono ?_
            rintro e wB ⟨rfl, hbB⟩
            have HTB := Lib.hid (FRef.later HTA.out hbB)
            rw [show ((firstTo la id n1).2 && decide ((firstTo la id n1).1 ≤ now2)) = false from HV.out]
            have k0 := HTB.out.r0
            have k1 := HTB.out.r1
            have k2 := HTB.out.kc
            rw [HTL.out] at k1
            clear hbB
            first | (refine hK.out _ _ ?_ (fun hHeld => ?_)) | (go_wp2_with fail; refine hK.out _ _ ?_ (fun hHeld => ?_))
            · (try dsimp only)
              go_keep
            clear hK K
            (try simp only [List.getElem_toArray, List.getElem_cons_zero, List.getElem_cons_succ, Act.put, List.setIfInBounds_toArray, List.set_cons_zero, List.set_cons_succ])
            refine wpAnyH_ready (rs := [50]) (by kernel_rfl) (by simp) ?_
            refine AllReadyH.cons rfl (fun K hK => ?_) AllReadyH.nil
            go_simp
            refine (Heard_any bs f a2 n1 S (.slice Ak n1 ck) l now2 (ts2) la id _ (by exact HTB.out.1)).mono ?_
            rintro e wC ⟨rfl, hbC⟩
            have HTC := Lib.hid (FRef.later HTB.out hbC)
            rw [HV.out]
            have k0 := HTC.out.r0
            have k1 := HTC.out.r1
            have k2 := HTC.out.kc
            rw [HTL.out] at k1
            clear hbC
            first | (refine hK.out _ _ ?_ (fun hHeld => ?_)) | (go_wp2_with fail; refine hK.out _ _ ?_ (fun hHeld => ?_))
            · (try dsimp only)
              go_keep
            clear hK K
            (try simp only [List.getElem_toArray, List.getElem_cons_zero, List.getElem_cons_succ, Act.put, List.setIfInBounds_toArray, List.set_cons_zero, List.set_cons_succ])
            refine wpAnyH_take (i := 51) (v := ?v51) rfl (by kernel_rfl) (by kernel_rfl) (by kernel_rfl) (fun _ _ _ h => h) (Or.inl ⟨by rfl, ?y51⟩) (by assumption) ?r51
            case y51 => (intro w hSw; (try dsimp only at hSw); first | (go_simp; done) | (go_simp; with_reducible rfl))
            (try simp only [List.getElem_toArray, List.getElem_cons_zero, List.getElem_cons_succ, Act.put, List.setIfInBounds_toArray, List.set_cons_zero, List.set_cons_succ])
            refine wpAnyH_take (i := 52) (v := ?v52) rfl (by kernel_rfl) (by kernel_rfl) (by kernel_rfl) (fun _ _ _ h => h) (Or.inl ⟨by rfl, ?y52⟩) (by assumption) ?r52
            case y52 => (intro w hSw; (try dsimp only at hSw); first | (go_simp; done) | (go_simp; with_reducible rfl))
            (try simp only [List.getElem_toArray, List.getElem_cons_zero, List.getElem_cons_succ, Act.put, List.setIfInBounds_toArray, List.set_cons_zero, List.set_cons_succ])
            refine wpAnyH_done (by kernel_rfl) ?_ _
            refine NoPanic.normal ?_
            go_wp2
            exact ⟨⟨k + 1, a2, now2, ts2, Ac, cc, by omega, by go_num, rfl, HTC.out⟩, by simp [intOf]; omega⟩
          · as_aux_lemma =>
            have HV := Lib.hid (show heardB la id n1 now2 = true by rw [HHB.out]; simp [hx])
            have dx : decide (x ≤ now2) = true := by simpa using hx
            clear HHB
            go_wp2
            first | (go_region_held3 (fun w' => w'.cell? ⟨r, 0, none⟩ = some (.int .i64 now2) ∧ w'.cell? ⟨r, 1, none⟩ = some (.slice Ac tl cc) ∧ w'.cell? ⟨f, 132, none⟩ = some (.slice Ak n1 ck)) (go_keep) (first
              | (go_at_call 21; refine (Now_any f _ [S, .int .i64 (a2 : Int)] now2 (ts2) [.slice Ak n1 ck] _ (by exact HTc.out.1.clk_)).mono ?_; rintro e wA ⟨rfl, rfl⟩)
              | (go_at_call 22; refine (Waiting_any f _ [S, .int .i64 (a2 : Int)] now2 (ts2) [.slice Ak n1 ck] _ (by exact HTc.out.1.clk_)).mono ?_; rintro e wA ⟨rfl, rfl⟩; rw [HTL.out])
              | (go_at_call 32; refine (Done_any _ _ _ f bs l a2 _ (by exact HTc.out.1.1)).mono ?_; rintro e wA ⟨rfl, rfl⟩)
              | (go_at_call 34; refine (Heard_any bs f a2 n1 S (.slice Ak n1 ck) l now2 (ts2) la id _ (by first | exact HTB.out.1 | exact HTc.out.1)).mono ?_; rintro e wA ⟨rfl, hbA⟩; have HTA := Lib.hid (FRef.later (by first | exact HTB.out | exact HTc.out.drew) hbA); rw [HV.out]; have k0 := HTA.out.r0; have k1 := HTA.out.r1; have k2 := HTA.out.kc; rw [HTL.out] at k1; clear hbA)
              | (go_at_call 9; refine (Acked_any Ak n1 ck la id now2 _ wA.heap.size (by exact HTA.out.ra) (by exact Nat.le_refl _) hn1).mono ?_; rintro e wB ⟨rfl, hbB⟩; have HTB := Lib.hid (FRef.later HTA.out hbB); rw [show ((firstTo la id n1).2 && decide ((firstTo la id n1).1 ≤ now2)) = true from HV.out]; have k0 := HTB.out.r0; have k1 := HTB.out.r1; have k2 := HTB.out.kc; rw [HTL.out] at k1; clear hbB))) | fail
            all_goals
              go_wp2
              exact ⟨⟨k + 1, a2, now2, ts2, Ac, cc, by omega, by go_num, rfl, HTA.out⟩, by simp [intOf]; omega⟩
          · as_aux_lemma =>
            have HV := Lib.hid (show heardB la id n1 now2 = false by rw [HHB.out]; simp [hx])
            have dx : decide (x ≤ now2) = false := by simpa using hx
            clear HHB
            go_wp2
            first | (go_region_held3 (fun w' => w'.cell? ⟨r, 0, none⟩ = some (.int .i64 now2) ∧ w'.cell? ⟨r, 1, none⟩ = some (.slice Ac tl cc) ∧ w'.cell? ⟨f, 132, none⟩ = some (.slice Ak n1 ck)) (go_keep) (first
              | (go_at_call 21; refine (Now_any f _ [S, .int .i64 (a2 : Int)] now2 (ts2) [.slice Ak n1 ck] _ (by exact HTc.out.1.clk_)).mono ?_; rintro e wA ⟨rfl, rfl⟩)
              | (go_at_call 22; refine (Waiting_any f _ [S, .int .i64 (a2 : Int)] now2 (ts2) [.slice Ak n1 ck] _ (by exact HTc.out.1.clk_)).mono ?_; rintro e wA ⟨rfl, rfl⟩; rw [HTL.out])
              | (go_at_call 32; refine (Done_any _ _ _ f bs l a2 _ (by exact HTc.out.1.1)).mono ?_; rintro e wA ⟨rfl, rfl⟩)
              | (go_at_call 34; refine (Heard_any bs f a2 n1 S (.slice Ak n1 ck) l now2 (ts2) la id _ (by first | exact HTB.out.1 | exact HTc.out.1)).mono ?_; rintro e wA ⟨rfl, hbA⟩; have HTA := Lib.hid (FRef.later (by first | exact HTB.out | exact HTc.out.drew) hbA); rw [HV.out]; have k0 := HTA.out.r0; have k1 := HTA.out.r1; have k2 := HTA.out.kc; rw [HTL.out] at k1; clear hbA)
              | (go_at_call 9; refine (Acked_any Ak n1 ck la id now2 _ wA.heap.size (by exact HTA.out.ra) (by exact Nat.le_refl _) hn1).mono ?_; rintro e wB ⟨rfl, hbB⟩; have HTB := Lib.hid (FRef.later HTA.out hbB); rw [show ((firstTo la id n1).2 && decide ((firstTo la id n1).1 ≤ now2)) = false from HV.out]; have k0 := HTB.out.r0; have k1 := HTB.out.r1; have k2 := HTB.out.kc; rw [HTL.out] at k1; clear hbB))) | fail
            all_goals
              go_wp2
              exact ⟨⟨k + 1, a2, now2, ts2, Ac, cc, by omega, by go_num, rfl, HTA.out⟩, by simp [intOf]; omega⟩
      · go_wp2
        go_ret
        exact ⟨rfl, HT.out.2.2.2.1⟩
end Go.Proofs.Ytcjpfjmmnnfieaa
