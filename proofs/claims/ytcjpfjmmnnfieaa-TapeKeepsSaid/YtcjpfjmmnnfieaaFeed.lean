/-
  Contracts of tape.NewFeed and Feed.Heard. Conditions: the sizes that slices can have.
-/
import Derived.Test.YtcjpfjmmnnfieaaAcksLaw
import Derived.Test.YtcjpfjmmnnfieaaClockLaw
import Derived.Test.YtcjpfjmmnnfieaaTape
import Derived.Deep.RegionLaw
namespace Go.Proofs.Ytcjpfjmmnnfieaa
open Go Go.RowKit Go.Sh

/-- a feed in block f: a tape of the bytes l of which a are drawn, a clock, the acknowledgements la -/
def FeedAt (w : World) (bs f : Nat) (S : Value) (l : List UInt8) (a : Nat) (now : Int) (ts : List (Int × Int)) (K : Value) (nk : Nat) (la : List (Int × Int)) : Prop :=
  CurG 87 (clk now ts ++ [K]) S w bs f l a ∧ ts.length ≤ 64 ∧ w.ownsRow bs 32 2 K nk (ackv la) ∧ (∀ x ∈ la, -9223372036854775808 ≤ x.1 ∧ x.1 ≤ 9223372036854775807) ∧ nk ≤ 256
section
variable {w w' : World} {bs f a nk : Nat} {S K : Value} {l : List UInt8} {now : Int} {ts la : List (Int × Int)}
theorem FeedAt.clk_ (h : FeedAt w bs f S l a now ts K nk la) : ClkAt w f 87 [S, .int .i64 (a : Int)] now ts [K] := by
  obtain ⟨⟨_, _, A, n, c, rfl, h3, _⟩, h64, _⟩ := h
  exact ⟨h3, h64⟩
theorem FeedAt.later (h : FeedAt w bs f S l a now ts K nk la) (hb : Below w.heap.size w w') : FeedAt w' bs f S l a now ts K nk la :=
  ⟨h.1.later hb, h.2.1, own_later h.2.2.1 hb, h.2.2.2⟩
theorem FeedAt.drewN (h : FeedAt w bs f S l a now ts K nk la) (k : Nat) : FeedAt (w.drewN k) bs f S l a now ts K nk la := h
theorem FeedAt.row (h : FeedAt w bs f S l a now ts K nk la) : w.heap[f]? = some (.cells (S :: .int .i64 (a : Int) :: (clk now ts ++ [K])).toArray 87 (0, 0)) := by
  obtain ⟨⟨_, _, A, n, c, rfl, h3, _⟩, _⟩ := h
  exact h3
/-- the clock has gone on -/
theorem FeedAt.tick (h : FeedAt w bs f S l a now ts K nk la) {now' : Int} {ts' : List (Int × Int)} (hk : ClkAt w' f 87 [S, .int .i64 (a : Int)] now' ts' [K]) (hg : w.grownBy w' (some f)) : FeedAt w' bs f S l a now' ts' K nk la := by
  have hrow := h.row
  obtain ⟨⟨h1, h2, A, n, c, rfl, h3, h4⟩, h64, h5, h6⟩ := h
  exact ⟨⟨h1, h2, A, n, c, rfl, hk.1, h4.kept hg (own_off h4 h3 (by decide))⟩, hk.2, h5.kept hg (own_off h5 h3 (by decide)), h6⟩
/-- bytes have been drawn -/
theorem FeedAt.draw (h : FeedAt w bs f S l a now ts K nk la) {a' : Nat} (hc : CurG 87 (clk now ts ++ [K]) S w' bs f l a') (hg : w.grownBy w' (some f)) : FeedAt w' bs f S l a' now ts K nk la := by
  have hrow := h.row
  exact ⟨hc, h.2.1, h.2.2.1.kept hg (own_off h.2.2.1 hrow (by decide)), h.2.2.2⟩
/-- another block is written -/
theorem FeedAt.other (h : FeedAt w bs f S l a now ts K nk la) {r : Nat} (hg : w.grownBy w' (some r)) (hr : r ≠ f) (hS : S.ownBlock = none ∨ S.ownBlock ≠ some r) (hK : K.ownBlock = none ∨ K.ownBlock ≠ some r) : FeedAt w' bs f S l a now ts K nk la :=
  ⟨h.1.grown hg (fun e => hr (by injection e)) hS, h.2.1, h.2.2.1.kept hg hK, h.2.2.2⟩
theorem FeedAt.cell (h : FeedAt w bs f S l a now ts K nk la) : w.cell? ⟨f, 132, none⟩ = some K := by
  rw [cell_of_row _ _ _ _ _ _ h.row]
  have hl := length_clk now ts h.2.1
  simp only [List.getElem?_toArray]
  show ((clk now ts ++ [K]))[130]? = some K
  rw [List.getElem?_append_right (by omega), hl]
  rfl
theorem FeedAt.ra (h : FeedAt w bs f S l a now ts K nk la) : ∃ Ak ck, K = .slice Ak nk ck ∧ RA w w.heap.size Ak nk la := by
  obtain ⟨Ak, ck, rfl⟩ := own_form h.2.2.1
  exact ⟨Ak, ck, rfl, RA.of_own h.2.2.1 h.2.2.2.1⟩
end

/-- has it been heard by now? -/
def heardB (la : List (Int × Int)) (id : Int) (nk : Nat) (now : Int) : Bool := (firstTo la id nk).2 && decide ((firstTo la id nk).1 ≤ now)

theorem Heard_any (bs f a nk : Nat) (S K : Value) (l : List UInt8) (now : Int) (ts la : List (Int × Int)) (id : Int) (w : World) (h : FeedAt w bs f S l a now ts K nk la) :
    Calls Try.prog 34 #[.pointer (some ⟨f, 0, none⟩), .int .u64 id] w (RetF w (.bool (heardB la id nk now))) := by
  have HF := Lib.hid h
  obtain ⟨Ak, ck, rfl, hra⟩ := h.ra
  have c0 := h.cell
  have h6 := h.2.2.2.2
  have HRA := Lib.hid hra
  clear h hra
  go_enter Try.func34, Try.ntmps34
  go_wp2
  go_region_held3 (fun w' => w'.cell? ⟨f, 132, none⟩ = some (.slice Ak nk ck)) (go_keep) (first
    | (go_at_call 21; refine (Now_any f _ [S, .int .i64 (a : Int)] now ts [.slice Ak nk ck] _ (by exact HF.out.clk_)).mono ?_; rintro e w1 ⟨rfl, rfl⟩)
    | (go_at_call 9; refine (Acked_any _ _ _ la id now _ w.heap.size (by exact HRA.out) (by exact Nat.le_refl _) (by omega)).mono ?_; rintro e w1 ⟨rfl, hb1⟩; have k0 := (hb1.cell (p := ⟨f, 132, none⟩) (by exact HF.out.1.lt)).trans c0))
  all_goals
    go_wp2
    go_ret
    exact ⟨rfl, ((Below.refl _ w).drew).trans hb1⟩

/-- what NewFeed hands back -/
def feedE (l : List UInt8) (la : List (Int × Int)) (n : Nat) : Int := if acksE la n = 0 then (if 1048576 < l.length then 2 else 0) else acksE la n
def NewFeedPost (w : World) (l : List UInt8) (la : List (Int × Int)) (n : Nat) (e : Ending) (w' : World) : Prop :=
  Below w.heap.size w w' ∧ ((feedE l la n ≠ 0 ∧ e = .returned (.tuple #[.pointer none, .int .i64 (feedE l la n)])) ∨
    (feedE l la n = 0 ∧ ∃ f S K, e = .returned (.tuple #[.pointer (some ⟨f, 0, none⟩), .int .i64 0]) ∧ FeedAt w' w.heap.size f S l 0 0 [] K n la))

/-- a feed's cells, at its beginning -/
def feedCells (a b : Value) : Array Value := (a :: .int .i64 0 :: (clk 0 [] ++ [b])).toArray
def zeroF : Array Value := feedCells (.slice none 0 0) (.slice none 0 0)
theorem zeroFeed : ∀ w : World, (zeroValue 87).run Try.prog w = .ok (.agg zeroF) w := fun _ => by kernel_rfl
theorem zeroF_size : zeroF.size = 133 := by decide +kernel
theorem zeroF_set (a b : Value) : ((zeroF.setIfInBounds 0 a).setIfInBounds 1 (.int .i64 0)).setIfInBounds 132 b = feedCells a b := by
  have hl : (clk 0 []).length = 130 := length_clk 0 [] (by simp)
  apply Array.ext'
  simp only [zeroF, feedCells, Array.toList_setIfInBounds, List.set_cons_zero, List.set_cons_succ]
  rw [List.set_append_right _ _ (by omega), hl]
  rfl

set_option maxRecDepth 100000 in
set_option maxHeartbeats 1000000 in
theorem NewFeed_any (A A' : Option Addr) (n c m c' : Nat) (l : List UInt8) (la : List (Int × Int)) (w : World) (B B' : Nat) (hr : RB w B A n l) (hB : B ≤ w.heap.size) (hn : n ≤ 140737488355328) (ha : RA w B' A' m la) (hB' : B' ≤ w.heap.size) (hm : m * 16 ≤ 140737488355328) :
    Calls Try.prog 33 #[.slice A n c, .slice A' m c'] w (NewFeedPost w l la m) := by
  have HL := Lib.hid hr.len
  have HR := Lib.hid hr
  have HOK := Lib.hid ha.2
  go_enter Try.func33, Try.ntmps33
  go_wp2_with fail
  refine (NewAcks_any _ _ _ la _ B' ha hB' hm).mono ?_
  rintro e w1 ⟨A1, m1, c1, rfl, hm1, hown1, hb1⟩
  have HB1 := Lib.hid hb1
  have HO1 := Lib.hid hown1
  have HM1 := Lib.hid hm1
  have hz1 := hb1.size
  clear hb1 hown1 hm1 hr ha
  by_cases he : acksE la m = 0
  · by_cases hbig : 1048576 < n
    · have HE := Lib.hid (show feedE l la m = 2 by simp [feedE, he, HL.out, hbig])
      rw [he]
      clear he
      go_wp2
      go_ret2
      exact ⟨HB1.out.alloc hz1 _, .inl ⟨by rw [HE.out]; decide, by rw [HE.out]; rfl⟩⟩
    · have HE := Lib.hid (show feedE l la m = 0 by simp [feedE, he, HL.out, hbig])
      have hm1 : m1 = m := by rw [HM1.out, if_pos he]
      have ho1 := HO1.out
      rw [if_pos he, hm1] at ho1
      subst hm1
      have h256 : m1 ≤ 256 := by
        have := he
        unfold acksE at this
        split at this
        · omega
        · split at this <;> omega
      have HO1 := Lib.hid ho1
      rw [he]
      clear he ho1 HM1
      go_wp2
      have HB2 := Lib.hid (HB1.out.alloc hz1 (.cells #[.slice A1 m1 c1] 26))
      have HO2 := Lib.hid (HO1.out.alloc (.cells #[.slice A1 m1 c1] 26))
      have hq := heap_alloc_new w1 (.cells #[.slice A1 m1 c1] 26)
      have hqc : (w1.alloc (.cells #[.slice A1 m1 c1] 26)).cell? ⟨w1.heap.size, 0, none⟩ = some (.slice A1 m1 c1) := by rw [cell_of_row _ _ 0 _ _ _ hq]; rfl
      have hql : w1.heap.size < (w1.alloc (.cells #[.slice A1 m1 c1] 26)).heap.size := by simp
      clear hq HB1 HO1
      generalize w1.alloc (.cells #[.slice A1 m1 c1] 26) = w2 at *
      have hz2 := HB2.out.size
      generalize w1.heap.size = q at *
      have z1 := zeroFeed
      have z2 := zeroF_size
      have z3 := zeroF_set
      go_region_law (first
        | (go_simp; go_at_call 25; refine (NewTape_any _ _ _ l _ B (by exact (HR.out.below (HB2.out.mono hB)).drew) (by exact Nat.le_trans hB hz2) hn).mono ?_; rintro e w3 ⟨p, S, rfl, hc3, hb3⟩; have k0 := (hb3.cell (p := ⟨q, 0, none⟩) (by exact hql)).trans hqc; have HC3 := Lib.hid hc3; have HB3 := Lib.hid hb3; obtain ⟨hp3, _, AS, nS, cS, hS, h3, h4⟩ := hc3; obtain ⟨s0, s1, _, _⟩ := cur_cells h3; have H4 := Lib.hid h4; clear h3 h4))
      all_goals
        go_wp2
        go_ret2
        have hw3 : Below w.heap.size w w3 := (HB2.out.drew).trans (HB3.out.mono hz2)
        have hz3 : w.heap.size ≤ w3.heap.size := hw3.size
        refine ⟨hw3.alloc hz3 _, .inr ⟨HE.out, w3.heap.size, S, .slice A1 m1 c1, rfl, ⟨hz3, by omega, AS, nS, cS, hS, ?_, ?_⟩, by simp, ?_, HOK.out, h256⟩⟩
        · rw [hS.symm]
          exact heap_alloc_new w3 _
        · exact (own_base H4.out hz2).alloc _
        · exact (own_later (w := w2.drew) HO2.out HB3.out).alloc _
  · have HE := Lib.hid (show feedE l la m = acksE la m by simp [feedE, he])
    have hb : (acksE la m != 0) = true := by simpa using he
    have HX := Lib.hid he
    clear he
    generalize acksE la m = E at *
    go_wp2
    go_ret2
    exact ⟨HB1.out.alloc hz1 _, .inl ⟨by rw [HE.out]; exact HX.out, by rw [HE.out]; rfl⟩⟩
end Go.Proofs.Ytcjpfjmmnnfieaa
