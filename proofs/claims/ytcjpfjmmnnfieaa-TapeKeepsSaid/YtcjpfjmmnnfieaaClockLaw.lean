/-
  The walk of shallotlaw08.TapeClocks: for every list of calls the law returns true and writes nothing that was there. Conditions: the sizes that slices can have.
-/
import Derived.Test.YtcjpfjmmnnfieaaTapeAwake
import Derived.Test.YtcjpfjmmnnfieaaRefDue
import Derived.Test.YtcjpfjmmnnfieaaOpen
namespace Go.Proofs.Ytcjpfjmmnnfieaa
open Go Go.RowKit Go.Sh

theorem quiet_left {P : Program} {f : FuncId} {args : Array Value} {w : World} {n : Nat} {v : Value}
    (h : Calls P f args (w.drewN n) fun e w' => e = .returned v ∧ w.drewN n = w') : Calls P f args (w.drewN n) fun e w'' => e = .returned v ∧ ∃ m, w'' = w.drewN m :=
  h.mono fun _ _ ⟨he, hm⟩ => ⟨he, n, hm.symm⟩

/-- a call of a clock: its kind and its two numbers -/
structure Tick3 where
  k : Int
  a : Int
  b : Int
def Tick3.ok (x : Tick3) : Prop := (-9223372036854775808 ≤ x.k ∧ x.k ≤ 9223372036854775807) ∧ (-9223372036854775808 ≤ x.a ∧ x.a ≤ 9223372036854775807) ∧ (-9223372036854775808 ≤ x.b ∧ x.b ≤ 9223372036854775807)
def RTicks (w : World) (B : Nat) (A : Option Addr) (m : Nat) (f : Nat → Tick3) : Prop :=
  0 < m → ∃ b off, A = some ⟨b, off, none⟩ ∧ b < B ∧ ∀ i, i < m → (f i).ok ∧ w.cell? ⟨b, off + i * 3, none⟩ = some (.int .i64 (f i).k) ∧ w.cell? ⟨b, off + i * 3 + 1, none⟩ = some (.int .i64 (f i).a) ∧ w.cell? ⟨b, off + i * 3 + 2, none⟩ = some (.int .i64 (f i).b)

set_option maxRecDepth 100000 in
/-- the calls among the arguments -/
theorem openTicks {H : Type} {enc : TypeId × Value → H} {W : World} {b0 : Nat} {r : Reach} {v : Value} {d : DataW H} {p : List MemPlace} (hok : Value.okWide Try.prog W r b0 40 v) (h : DataW.Trod enc Try.prog W 0 (fun _ => true) true 40 v d p) :
    ∃ A n c f, v = .slice A n c ∧ RTicks W W.heap.size A n f ∧ HasLen d n := by
  obtain ⟨A, n, c, rfl, _, hl, hx⟩ := openStructs Try.underlying40 Try.underlying51 (by kernel_rfl) (by kernel_rfl) (by simp) hok h
  rcases Nat.eq_zero_or_pos n with h0 | h0
  · subst h0
    exact ⟨A, 0, c, fun _ => ⟨0, 0, 0⟩, rfl, fun h => absurd h (by omega), hl⟩
  · obtain ⟨b, off, rfl, hb, hi⟩ := hx h0
    have key : ∀ i, i < n → ∃ x : Tick3, x.ok ∧ W.cell? ⟨b, off + i * 3, none⟩ = some (.int .i64 x.k) ∧ W.cell? ⟨b, off + i * 3 + 1, none⟩ = some (.int .i64 x.a) ∧ W.cell? ⟨b, off + i * 3 + 2, none⟩ = some (.int .i64 x.b) := by
      intro i hin
      obtain ⟨fuel, hf⟩ := hi i hin
      obtain ⟨x0, y0, c0, t0⟩ := hf 0 _ rfl
      obtain ⟨x1, y1, c1, t1⟩ := hf 1 _ rfl
      obtain ⟨x2, y2, c2, t2⟩ := hf 2 _ rfl
      obtain ⟨z0, e0, _, w0⟩ := DataW.trod_int Try.underlying3 t0
      obtain ⟨z1, e1, _, w1⟩ := DataW.trod_int Try.underlying3 t1
      obtain ⟨z2, e2, _, w2⟩ := DataW.trod_int Try.underlying3 t2
      simp only [List.cons.injEq, and_true] at e0 e1 e2
      subst e0 e1 e2
      exact ⟨⟨z0, z1, z2⟩, ⟨bounds_i64 w0, bounds_i64 w1, bounds_i64 w2⟩, c0, c1, c2⟩
    have : Inhabited Tick3 := ⟨⟨0, 0, 0⟩⟩
    obtain ⟨f, hf⟩ := Go.Deep.choose_lt key
    exact ⟨_, n, c, f, rfl, fun _ => ⟨b, off, rfl, hb, hf⟩, hl⟩

/-- the two clocks, side by side: the program's in block b, the document's in block r -/
def Two (w0 w : World) (b r : Nat) (now : Int) (ts : List (Int × Int)) (A : Option Addr) (c : Nat) : Prop :=
  ClkAt w b 46 [] now ts [] ∧ w.heap[r]? = some (.cells #[.int .i64 now, .slice A ts.length c] 49 (0, 0)) ∧ w.ownsRow w0.heap.size 96 2 (.slice A ts.length c) ts.length (tmv ts) ∧ Below w0.heap.size w0 w ∧ w0.heap.size ≤ b ∧ w0.heap.size ≤ r
section
variable {w0 w w' : World} {b r c : Nat} {now : Int} {ts : List (Int × Int)} {A : Option Addr}
theorem Two.later (h : Two w0 w b r now ts A c) (hb : Below w.heap.size w w') : Two w0 w' b r now ts A c := by
  obtain ⟨h1, h2, h3, h4, h5, h6⟩ := h
  have hr : r < w.heap.size := (Array.getElem?_eq_some_iff.1 h2).1
  exact ⟨h1.block (hb.block b h1.lt), (hb.block r hr).trans h2, own_later h3 hb, below_up h4 hb (Nat.le_refl _), h5, h6⟩
theorem own_apartC {base n p : Nat} {v : Value} {xs : List Value} {cs : Array Value} {fr : Nat × Nat} (h : w.ownsRow base 96 2 v n xs) (hp : w.heap[p]? = some (.cells cs 46 fr)) : v.ownBlock = none ∨ v.ownBlock ≠ some p := by
  rcases h.2 with ⟨rfl, _⟩ | ⟨g, cap, cur, rfl, _, hgg, _⟩
  · exact .inl rfl
  · refine .inr fun he => ?_
    simp only [Value.ownBlock, Option.some.injEq] at he
    subst he
    rw [hgg] at hp
    simp only [Option.some.injEq, Obj.cells.injEq] at hp
    exact absurd hp.2.1 (by decide)
theorem Two.ne (h : Two w0 w b r now ts A c) : b ≠ r := by
  intro e
  subst e
  have h2 := h.2.1
  rw [h.1.1] at h2
  simp only [Option.some.injEq, Obj.cells.injEq] at h2
  exact absurd h2.2.1 (by decide)
theorem Two.lt (h : Two w0 w b r now ts A c) : r < w.heap.size := (Array.getElem?_eq_some_iff.1 h.2.1).1
/-- the document's clock has gone on (its new value is stored in block r), then the program's -/
theorem Two.step (h : Two w0 w b r now ts A c) {now' : Int} {ts' : List (Int × Int)} {A' : Option Addr} {c' : Nat} (hb : Below w.heap.size w w') (ho : w'.ownsRow w0.heap.size 96 2 (.slice A' ts'.length c') ts'.length (tmv ts')) {w'' : World}
    (hk : ClkAt w'' b 46 [] now' ts' []) (hg : ((w'.setCell ⟨r, 0, none⟩ (.int .i64 now')).setCell ⟨r, 1, none⟩ (.slice A' ts'.length c')).grownBy w'' (some b)) : Two w0 w'' b r now' ts' A' c' := by
  have hne := h.ne
  have h' := h.later hb
  have hrow : ((w'.setCell ⟨r, 0, none⟩ (.int .i64 now')).setCell ⟨r, 1, none⟩ (.slice A' ts'.length c')).heap[r]? = some (.cells #[.int .i64 now', .slice A' ts'.length c'] 49 (0, 0)) := by
    have := h'.2.1
    simp [World.setCell, Array.getElem?_modify, this]
  have hk1 : ((w'.setCell ⟨r, 0, none⟩ (.int .i64 now')).setCell ⟨r, 1, none⟩ (.slice A' ts'.length c')).heap[b]? = w'.heap[b]? := by
    rw [heap_setCell_other _ _ _ _ hne, heap_setCell_other _ _ _ _ hne]
  have o1 := (ho.kept (grown_put _ r 0 (.int .i64 now')) (own_apart ho h'.2.1))
  have hrow1 : (w'.setCell ⟨r, 0, none⟩ (.int .i64 now')).heap[r]? = some (.cells #[.int .i64 now', .slice A ts.length c] 49 (0, 0)) := by
    have := h'.2.1
    simp [World.setCell, Array.getElem?_modify, this]
  have o2 := o1.kept (grown_put _ r 1 (.slice A' ts'.length c')) (own_apart o1 hrow1)
  have hkb : ((w'.setCell ⟨r, 0, none⟩ (.int .i64 now')).setCell ⟨r, 1, none⟩ (.slice A' ts'.length c')).heap[b]? = some (.cells (clk now ts).toArray 46 (0, 0)) := by
    rw [hk1]
    have := h'.1.1
    simpa using this
  refine ⟨hk, ?_, o2.kept hg (own_apartC o2 hkb), ?_, h.2.2.2.2⟩
  · rw [hg.block r (by have := h'.lt; simp; exact this) (by simp; exact fun e => hne e.symm)]
    exact hrow
  · refine ((h'.2.2.2.1.setCell (by exact h.2.2.2.2.2) _).setCell (by exact h.2.2.2.2.2) _).grown hg ?_ (fun g e => ?_)
    · have := h'.2.2.2.1.size
      simpa using this
    · injection e with e
      have := h.2.2.2.2.1
      omega
end

set_option maxRecDepth 100000 in
set_option maxHeartbeats 4000000 in
theorem TapeClocks_walk (A : Option Addr) (m c : Nat) (f : Nat → Tick3) (w : World) (hf : RTicks w w.heap.size A m f) (hm : m ≤ 140737488355328) :
    Calls Try.prog 4 #[.slice A m c] w (LawPost w) := by
  have HF := Lib.hid hf
  clear hf
  have hzero := zeroClock
  go_enter Try.func4, Try.ntmps4
  go_wp2_with fail
  refine (awake_any _).mono ?_
  rintro e w1 ⟨rfl, hb1⟩
  have HB1 := Lib.hid hb1
  have hz1 := hb1.size
  clear hb1
  go_wp2_with fail
  have HT := Lib.hid (show Two w ((w1.alloc (.cells (clk 0 []).toArray 46)).alloc (.cells #[.int .i64 0, .slice none 0 0] 49)) w1.heap.size (w1.heap.size + 1) 0 [] none 0 from
    ⟨⟨by rw [List.nil_append, List.append_nil]; exact new_at1 rfl _ _, by simp⟩, new_at2 rfl _ _, World.ownsRow_nil _ _ _ _, (HB1.out.alloc hz1 _).alloc (by simp; omega) _, hz1, by omega⟩)
  generalize (w1.alloc (.cells (clk 0 []).toArray 46)).alloc (.cells #[.int .i64 0, .slice none 0 0] 49) = w2 at *
  obtain ⟨b, hb⟩ : ∃ b, w1.heap.size = b := ⟨_, rfl⟩
  rw [hb] at HT ⊢
  obtain ⟨r, hr⟩ : ∃ r, b + 1 = r := ⟨_, rfl⟩
  rw [hr] at HT ⊢
  clear hb hr hz1 HB1 hzero
  go_loopw [6, 7, 8, 9, 10, 11, 16] (fun _ _ _ _ _ _ i wr => ∃ (k : Nat) (now : Int) (ts : List (Int × Int)) (A' : Option Addr) (c' : Nat), k ≤ m ∧ i = .int .i64 k ∧ Two w wr b r now ts A' c') (fun _ _ _ _ _ _ i _ => m - (intOf i).toNat)
  case atStart => exact ⟨0, 0, [], none, 0, by omega, rfl, HT.out⟩
  case round =>
    obtain ⟨k, now, ts, A', c', hk, rfl, hT⟩ := hrel
    have HT := Lib.hid hT
    clear hT
    by_cases hlt : k < m
    · obtain ⟨tb, off, rfl, hadb, hc⟩ := HF.out (by omega)
      obtain ⟨⟨⟨o1, o2⟩, ⟨a1, a2⟩, ⟨d1, d2⟩⟩, c0, c1, c2⟩ := hc k hlt
      clear hc
      rw [← HT.out.2.2.2.1.cell hadb] at c0 c1 c2
      generalize (f k).k = o at *
      generalize (f k).a = a at *
      generalize (f k).b = d at *
      have hsz : w.heap.size ≤ wr.heap.size := HT.out.2.2.2.1.size
      by_cases h1 : o = 1
      · subst h1
        have hr0 : wr.cell? ⟨r, 0, none⟩ = some (.int .i64 now) := by rw [cell_of_row _ _ 0 _ _ _ HT.out.2.1]; rfl
        have hr1 : wr.cell? ⟨r, 1, none⟩ = some (.slice A' ts.length c') := by rw [cell_of_row _ _ 1 _ _ _ HT.out.2.1]; rfl
        have hrl := HT.out.lt
        go_wp2_with fail
        have HT1 := Lib.hid (HT.out.later ((Below.refl _ _).alloc (Nat.le_refl _) (.cells #[.int .i64 1, .int .i64 a, .int .i64 d] 51)))
        have hq := heap_alloc_new wr (.cells #[.int .i64 1, .int .i64 a, .int .i64 d] 51)
        have hql : wr.heap.size < (wr.alloc (.cells #[.int .i64 1, .int .i64 a, .int .i64 d] 51)).heap.size := by simp
        have HQ := Lib.hid hq
        have hsz1 : w.heap.size ≤ (wr.alloc (.cells #[.int .i64 1, .int .i64 a, .int .i64 d] 51)).heap.size := by simp; omega
        clear hq hr0 hr1 c0 c1 c2 HT
        generalize wr.alloc (.cells #[.int .i64 1, .int .i64 a, .int .i64 d] 51) = W1 at *
        generalize wr.heap.size = q at *
        refine (RefSet_any w.heap.size _ now ts a d _ ⟨A', c', rfl, HT1.out.2.2.1⟩ HT1.out.1.2 hsz1).mono ?_
        rintro e w3 ⟨v3, rfl, ⟨A3, c3, rfl, ho3⟩, hb3⟩
        have hq3 : w3.heap[q]? = some (.cells #[.int .i64 1, .int .i64 a, .int .i64 d] 51 (0, 0)) := by rw [hb3.block q hql]; exact HQ.out
        have qa : w3.cell? ⟨q, 1, none⟩ = some (.int .i64 a) := by rw [cell_of_row _ _ 1 _ _ _ hq3]; rfl
        have qd : w3.cell? ⟨q, 2, none⟩ = some (.int .i64 d) := by rw [cell_of_row _ _ 2 _ _ _ hq3]; rfl
        have HT3 := Lib.hid (HT1.out.later hb3)
        have r0 : w3.cell? ⟨r, 0, none⟩ = some (.int .i64 now) := by rw [cell_of_row _ _ 0 _ _ _ HT3.out.2.1]; rfl
        have r1 : w3.cell? ⟨r, 1, none⟩ = some (.slice A' ts.length c') := by rw [cell_of_row _ _ 1 _ _ _ HT3.out.2.1]; rfl
        have g0 : w3.frozen? ⟨r, 0, none⟩ = false := frozen_of_row _ _ _ _ _ HT3.out.2.1
        have g1 : w3.frozen? ⟨r, 1, none⟩ = false := frozen_of_row _ _ _ _ _ HT3.out.2.1
        have hqr : q ≠ r := by intro e; subst e; have := HT3.out.2.1; rw [hq3] at this; simp at this
        have HO3 := Lib.hid ho3
        have HB3 := Lib.hid hb3
        clear ho3 hb3 hq3
        go_wp2_with fail
        refine (Set_any b _ [] now ts [] a d _ (HT3.out.1.block (by rw [heap_setCell_other _ _ _ _ HT3.out.ne, heap_setCell_other _ _ _ _ HT3.out.ne]))).mono ?_
        rintro e w5 ⟨rfl, hk5, hg5⟩
        have HT5 := Lib.hid (Two.step HT1.out HB3.out HO3.out hk5 hg5)
        clear hk5 hg5 HO3 HB3 HT3 HT1 qa qd r0 r1 g0 g1 HQ
        have z0 : (setE ts a != setE ts a) = false := by simp
        generalize setE ts a = E at *
        generalize setT now ts a d = ts5 at *
        go_wp2
        have X0 : w5.cell? ⟨r, 0, none⟩ = some (.int .i64 now) := by rw [cell_of_row _ _ 0 _ _ _ HT5.out.2.1]; rfl
        have X1 : w5.cell? ⟨r, 1, none⟩ = some (.slice A3 ts5.length c3) := by rw [cell_of_row _ _ 1 _ _ _ HT5.out.2.1]; rfl
        have y0 : (now != now) = false := by simp
        have y1 : ((ts5.length : Int) != (ts5.length : Int)) = false := by simp
        go_quiet (first | (go_at_call 21; exact quiet_left (Now_any b _ [] now ts5 [] _ HT5.out.1)) | (go_at_call 22; exact quiet_left (Waiting_any b _ [] now ts5 [] _ HT5.out.1)))
        go_wp2
        exact ⟨⟨k + 1, now, ts5, A3, c3, by omega, by go_num, (show Two w (w5.drewN nq) b r now ts5 A3 c3 from ⟨HT5.out.1, HT5.out.2.1, HT5.out.2.2.1, below_drewN HT5.out.2.2.2.1 _, HT5.out.2.2.2.2⟩)⟩, by simp [intOf]; omega⟩
      · by_cases h2 : o = 2
        · subst h2
          have hr0 : wr.cell? ⟨r, 0, none⟩ = some (.int .i64 now) := by rw [cell_of_row _ _ 0 _ _ _ HT.out.2.1]; rfl
          have hr1 : wr.cell? ⟨r, 1, none⟩ = some (.slice A' ts.length c') := by rw [cell_of_row _ _ 1 _ _ _ HT.out.2.1]; rfl
          have hrl := HT.out.lt
          go_wp2_with fail
          have HT1 := Lib.hid (HT.out.later ((Below.refl _ _).alloc (Nat.le_refl _) (.cells #[.int .i64 2, .int .i64 a, .int .i64 d] 51)))
          have hq := heap_alloc_new wr (.cells #[.int .i64 2, .int .i64 a, .int .i64 d] 51)
          have hql : wr.heap.size < (wr.alloc (.cells #[.int .i64 2, .int .i64 a, .int .i64 d] 51)).heap.size := by simp
          have HQ := Lib.hid hq
          have hsz1 : w.heap.size ≤ (wr.alloc (.cells #[.int .i64 2, .int .i64 a, .int .i64 d] 51)).heap.size := by simp; omega
          clear hq hr0 hr1 c0 c1 c2 HT
          generalize wr.alloc (.cells #[.int .i64 2, .int .i64 a, .int .i64 d] 51) = W1 at *
          generalize wr.heap.size = q at *
          refine (RefDue_any w.heap.size _ now ts a _ ⟨A', c', rfl, HT1.out.2.2.1⟩ HT1.out.1.2 hsz1).mono ?_
          rintro e w3 ⟨v3, rfl, ⟨A3, c3, rfl, ho3⟩, hb3⟩
          have hq3 : w3.heap[q]? = some (.cells #[.int .i64 2, .int .i64 a, .int .i64 d] 51 (0, 0)) := by rw [hb3.block q hql]; exact HQ.out
          have qa : w3.cell? ⟨q, 1, none⟩ = some (.int .i64 a) := by rw [cell_of_row _ _ 1 _ _ _ hq3]; rfl
          have qd : w3.cell? ⟨q, 2, none⟩ = some (.int .i64 d) := by rw [cell_of_row _ _ 2 _ _ _ hq3]; rfl
          have HT3 := Lib.hid (HT1.out.later hb3)
          have r0 : w3.cell? ⟨r, 0, none⟩ = some (.int .i64 now) := by rw [cell_of_row _ _ 0 _ _ _ HT3.out.2.1]; rfl
          have r1 : w3.cell? ⟨r, 1, none⟩ = some (.slice A' ts.length c') := by rw [cell_of_row _ _ 1 _ _ _ HT3.out.2.1]; rfl
          have g0 : w3.frozen? ⟨r, 0, none⟩ = false := frozen_of_row _ _ _ _ _ HT3.out.2.1
          have g1 : w3.frozen? ⟨r, 1, none⟩ = false := frozen_of_row _ _ _ _ _ HT3.out.2.1
          have hqr : q ≠ r := by intro e; subst e; have := HT3.out.2.1; rw [hq3] at this; simp at this
          have HO3 := Lib.hid ho3
          have HB3 := Lib.hid hb3
          clear ho3 hb3 hq3
          go_wp2_with fail
          refine (Due_any b _ [] now ts [] a _ (HT3.out.1.block (by rw [heap_setCell_other _ _ _ _ HT3.out.ne, heap_setCell_other _ _ _ _ HT3.out.ne]))).mono ?_
          rintro e w5 ⟨rfl, hk5, hg5⟩
          have HT5 := Lib.hid (Two.step HT1.out HB3.out HO3.out hk5 hg5)
          clear hk5 hg5 HO3 HB3 HT3 HT1 qa qd r0 r1 g0 g1 HQ
          have z0 : (dueW ts a != dueW ts a) = false := by simp
          have z1 : (dueB ts a != dueB ts a) = false := by simp
          generalize dueW ts a = E at *
          generalize dueB ts a = E' at *
          generalize dueT ts a = ts5 at *
          generalize dueN now ts a = now5 at *
          go_wp2
          have X0 : w5.cell? ⟨r, 0, none⟩ = some (.int .i64 now5) := by rw [cell_of_row _ _ 0 _ _ _ HT5.out.2.1]; rfl
          have X1 : w5.cell? ⟨r, 1, none⟩ = some (.slice A3 ts5.length c3) := by rw [cell_of_row _ _ 1 _ _ _ HT5.out.2.1]; rfl
          have y0 : (now5 != now5) = false := by simp
          have y1 : ((ts5.length : Int) != (ts5.length : Int)) = false := by simp
          go_quiet (first | (go_at_call 21; exact quiet_left (Now_any b _ [] now5 ts5 [] _ HT5.out.1)) | (go_at_call 22; exact quiet_left (Waiting_any b _ [] now5 ts5 [] _ HT5.out.1)))
          go_wp2
          exact ⟨⟨k + 1, now5, ts5, A3, c3, by omega, by go_num, (show Two w (w5.drewN nq) b r now5 ts5 A3 c3 from ⟨HT5.out.1, HT5.out.2.1, HT5.out.2.2.1, below_drewN HT5.out.2.2.2.1 _, HT5.out.2.2.2.2⟩)⟩, by simp [intOf]; omega⟩
        · by_cases h3 : o = 3
          · subst h3
            have hr0 : wr.cell? ⟨r, 0, none⟩ = some (.int .i64 now) := by rw [cell_of_row _ _ 0 _ _ _ HT.out.2.1]; rfl
            have hr1 : wr.cell? ⟨r, 1, none⟩ = some (.slice A' ts.length c') := by rw [cell_of_row _ _ 1 _ _ _ HT.out.2.1]; rfl
            have hrl := HT.out.lt
            go_wp2_with fail
            have HT1 := Lib.hid (HT.out.later ((Below.refl _ _).alloc (Nat.le_refl _) (.cells #[.int .i64 3, .int .i64 a, .int .i64 d] 51)))
            have hq := heap_alloc_new wr (.cells #[.int .i64 3, .int .i64 a, .int .i64 d] 51)
            have hql : wr.heap.size < (wr.alloc (.cells #[.int .i64 3, .int .i64 a, .int .i64 d] 51)).heap.size := by simp
            have HQ := Lib.hid hq
            have hsz1 : w.heap.size ≤ (wr.alloc (.cells #[.int .i64 3, .int .i64 a, .int .i64 d] 51)).heap.size := by simp; omega
            clear hq hr0 hr1 c0 c1 c2 HT
            generalize wr.alloc (.cells #[.int .i64 3, .int .i64 a, .int .i64 d] 51) = W1 at *
            generalize wr.heap.size = q at *
            refine (RefMove_any w.heap.size _ now ts a _ ⟨A', c', rfl, HT1.out.2.2.1⟩).mono ?_
            rintro e w3 ⟨v3, rfl, ⟨A3, c3, rfl, ho3⟩, hb3⟩
            have hq3 : w3.heap[q]? = some (.cells #[.int .i64 3, .int .i64 a, .int .i64 d] 51 (0, 0)) := by rw [hb3.block q hql]; exact HQ.out
            have qa : w3.cell? ⟨q, 1, none⟩ = some (.int .i64 a) := by rw [cell_of_row _ _ 1 _ _ _ hq3]; rfl
            have qd : w3.cell? ⟨q, 2, none⟩ = some (.int .i64 d) := by rw [cell_of_row _ _ 2 _ _ _ hq3]; rfl
            have HT3 := Lib.hid (HT1.out.later hb3)
            have r0 : w3.cell? ⟨r, 0, none⟩ = some (.int .i64 now) := by rw [cell_of_row _ _ 0 _ _ _ HT3.out.2.1]; rfl
            have r1 : w3.cell? ⟨r, 1, none⟩ = some (.slice A' ts.length c') := by rw [cell_of_row _ _ 1 _ _ _ HT3.out.2.1]; rfl
            have g0 : w3.frozen? ⟨r, 0, none⟩ = false := frozen_of_row _ _ _ _ _ HT3.out.2.1
            have g1 : w3.frozen? ⟨r, 1, none⟩ = false := frozen_of_row _ _ _ _ _ HT3.out.2.1
            have hqr : q ≠ r := by intro e; subst e; have := HT3.out.2.1; rw [hq3] at this; simp at this
            have HO3 := Lib.hid ho3
            have HB3 := Lib.hid hb3
            clear ho3 hb3 hq3
            go_wp2_with fail
            refine (Move_any b _ [] now ts [] a _ (HT3.out.1.block (by rw [heap_setCell_other _ _ _ _ HT3.out.ne, heap_setCell_other _ _ _ _ HT3.out.ne]))).mono ?_
            rintro e w5 ⟨rfl, hk5, hg5⟩
            have HT5 := Lib.hid (Two.step HT1.out HB3.out HO3.out hk5 hg5)
            clear hk5 hg5 HO3 HB3 HT3 HT1 qa qd r0 r1 g0 g1 HQ
            have z0 : (movE now a != movE now a) = false := by simp
            generalize movE now a = E at *
            generalize movN now a = now5 at *
            go_wp2
            have X0 : w5.cell? ⟨r, 0, none⟩ = some (.int .i64 now5) := by rw [cell_of_row _ _ 0 _ _ _ HT5.out.2.1]; rfl
            have X1 : w5.cell? ⟨r, 1, none⟩ = some (.slice A3 ts.length c3) := by rw [cell_of_row _ _ 1 _ _ _ HT5.out.2.1]; rfl
            have y0 : (now5 != now5) = false := by simp
            have y1 : ((ts.length : Int) != (ts.length : Int)) = false := by simp
            go_quiet (first | (go_at_call 21; exact quiet_left (Now_any b _ [] now5 ts [] _ HT5.out.1)) | (go_at_call 22; exact quiet_left (Waiting_any b _ [] now5 ts [] _ HT5.out.1)))
            go_wp2
            exact ⟨⟨k + 1, now5, ts, A3, c3, by omega, by go_num, (show Two w (w5.drewN nq) b r now5 ts A3 c3 from ⟨HT5.out.1, HT5.out.2.1, HT5.out.2.2.1, below_drewN HT5.out.2.2.2.1 _, HT5.out.2.2.2.2⟩)⟩, by simp [intOf]; omega⟩
          · skip
            have e1 : (o == 1) = false := by simpa using h1
            have e2 : (o == 2) = false := by simpa using h2
            have e3 : (o == 3) = false := by simpa using h3
            clear h1 h2 h3
            go_wp2_with fail
            have HT5 := Lib.hid (HT.out.later ((Below.refl _ _).alloc (Nat.le_refl _) (.cells #[.int .i64 o, .int .i64 a, .int .i64 d] 51)))
            clear c0 c1 c2 HT
            generalize wr.alloc (.cells #[.int .i64 o, .int .i64 a, .int .i64 d] 51) = w5 at *
            have X0 : w5.cell? ⟨r, 0, none⟩ = some (.int .i64 now) := by rw [cell_of_row _ _ 0 _ _ _ HT5.out.2.1]; rfl
            have X1 : w5.cell? ⟨r, 1, none⟩ = some (.slice A' ts.length c') := by rw [cell_of_row _ _ 1 _ _ _ HT5.out.2.1]; rfl
            have y0 : (now != now) = false := by simp
            have y1 : ((ts.length : Int) != (ts.length : Int)) = false := by simp
            go_quiet (first | (go_at_call 21; exact quiet_left (Now_any b _ [] now ts [] _ HT5.out.1)) | (go_at_call 22; exact quiet_left (Waiting_any b _ [] now ts [] _ HT5.out.1)))
            go_wp2
            exact ⟨⟨k + 1, now, ts, A', c', by omega, by go_num, (show Two w (w5.drewN nq) b r now ts A' c' from ⟨HT5.out.1, HT5.out.2.1, HT5.out.2.2.1, below_drewN HT5.out.2.2.2.1 _, HT5.out.2.2.2.2⟩)⟩, by simp [intOf]; omega⟩
    · go_wp2
      go_ret
      exact ⟨rfl, HT.out.2.2.2.1⟩
end Go.Proofs.Ytcjpfjmmnnfieaa
