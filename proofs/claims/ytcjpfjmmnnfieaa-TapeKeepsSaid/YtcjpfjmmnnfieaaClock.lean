/-
  Contracts of the methods Set, Due, Move, Now and Waiting of tape.Clock, for a clock that lies anywhere in a block. No conditions.
-/
import Derived.Test.YtcjpfjmmnnfieaaClockWords
import Derived.Test.YtcjpfjmmnnfieaaCopy
namespace Go.Proofs.Ytcjpfjmmnnfieaa
open Go Go.RowKit Go.Sh

theorem TTm : STy Try.prog 98 43 (.agg #[.int .i64 0, .int .i64 0]) 2 16 := ⟨Try.underlying98, by kernel_rfl, rfl, by decide⟩

theorem Now_any (b : Nat) (t : TypeId) (pre : List Value) (now : Int) (ts : List (Int × Int)) (suf : List Value) (w : World) (h : ClkAt w b t pre now ts suf) :
    Calls Try.prog 21 #[.pointer (some ⟨b, pre.length, none⟩)] w (fun e w' => e = .returned (.int .i64 now) ∧ w = w') := by
  have c0 := h.now_
  clear h
  go_enter Try.func21, Try.ntmps21
  go_wp2
  go_ret
  exact ⟨rfl, rfl⟩
theorem Waiting_any (b : Nat) (t : TypeId) (pre : List Value) (now : Int) (ts : List (Int × Int)) (suf : List Value) (w : World) (h : ClkAt w b t pre now ts suf) :
    Calls Try.prog 22 #[.pointer (some ⟨b, pre.length, none⟩)] w (fun e w' => e = .returned (.int .i64 (ts.length : Int)) ∧ w = w') := by
  have c0 := h.count_
  clear h
  go_enter Try.func22, Try.ntmps22
  go_wp2
  go_ret
  exact ⟨rfl, rfl⟩

/-- what a call on a clock leaves -/
def ClkPost (w : World) (b : Nat) (t : TypeId) (pre : List Value) (suf : List Value) (v : Value) (now : Int) (ts : List (Int × Int)) (e : Ending) (w' : World) : Prop :=
  e = .returned v ∧ ClkAt w' b t pre now ts suf ∧ w.grownBy w' (some b)

def movE (now to : Int) : Int := if to < now ∨ 1099511627776 < to then 1 else 0
def movN (now to : Int) : Int := if to < now ∨ 1099511627776 < to then now else to

theorem grown_put (w : World) (b i : Nat) (v : Value) : w.grownBy (w.setCell ⟨b, i, none⟩ v) (some b) :=
  ⟨rfl, rfl, rfl, by simp [World.setCell], fun k _ hk => Below.heap_setCell _ _ _ _ (fun e => hk (by simp [e]))⟩

theorem grown_drewN1 {a w : World} {row : Option Nat} (h : a.grownBy w row) (n : Nat) : a.grownBy (w.drewN n) row := ⟨h.os, h.tape, h.output, h.size, h.block⟩

theorem cell_alloc_lt {w : World} {p : Addr} (h : p.block < w.heap.size) (o : Obj) : (w.alloc o).cell? p = w.cell? p := ((Below.refl w.heap.size w).alloc (Nat.le_refl _) o).cell h
theorem grown_alloc {a w : World} {row : Option Nat} (h : a.grownBy w row) (o : Obj) : a.grownBy (w.alloc o) row :=
  ⟨h.os, h.tape, h.output, Nat.le_trans h.size (by simp), fun i hi hne => (Below.heap_alloc w o i (Nat.lt_of_lt_of_le hi h.size)).trans (h.block i hi hne)⟩

theorem cell_set_other (w : World) (a p : Addr) (v : Value) (h : p ≠ a) : (w.setCell a v).cell? p = w.cell? p := World.cell?_setCell_other _ _ _ _ (fun e => h e.symm)

theorem Move_any (b : Nat) (t : TypeId) (pre : List Value) (now : Int) (ts : List (Int × Int)) (suf : List Value) (to : Int) (w : World) (h : ClkAt w b t pre now ts suf) :
    Calls Try.prog 20 #[.pointer (some ⟨b, pre.length, none⟩), .int .i64 to] w (ClkPost w b t pre suf (.int .i64 (movE now to)) (movN now to) ts) := by
  have c0 := h.now_
  have f0 := h.frozen pre.length
  have HC := Lib.hid h
  clear h
  by_cases h1 : to < now
  · have E := Lib.hid (show movE now to = 1 ∧ movN now to = now by simp [movE, movN, h1])
    go_enter Try.func20, Try.ntmps20
    go_wp2
    go_ret
    exact ⟨by rw [E.out.1]; rfl, by rw [E.out.2]; exact HC.out, World.grownBy.refl _ _⟩
  · by_cases h2 : 1099511627776 < to
    · have E := Lib.hid (show movE now to = 1 ∧ movN now to = now by simp [movE, movN, h2])
      go_enter Try.func20, Try.ntmps20
      go_wp2
      go_ret
      exact ⟨by rw [E.out.1]; rfl, by rw [E.out.2]; exact HC.out, World.grownBy.refl _ _⟩
    · have E := Lib.hid (show movE now to = 0 ∧ movN now to = to by simp [movE, movN, h1, h2])
      go_enter Try.func20, Try.ntmps20
      go_wp2
      go_ret
      exact ⟨by rw [E.out.1]; rfl, by rw [E.out.2]; exact HC.out.setNow _, grown_put _ _ _ _⟩

def setE (ts : List (Int × Int)) (after : Int) : Int := if after < 0 ∨ 1000000 < after then 1 else if 64 ≤ ts.length then 11 else 0
def setT (now : Int) (ts : List (Int × Int)) (after what : Int) : List (Int × Int) := if setE ts after = 0 then ts ++ [(wrap64 (now + after), what)] else ts

set_option maxRecDepth 100000 in
set_option maxHeartbeats 400000 in
theorem Set_any (b : Nat) (t : TypeId) (pre : List Value) (now : Int) (ts : List (Int × Int)) (suf : List Value) (after what : Int) (w : World) (h : ClkAt w b t pre now ts suf) :
    Calls Try.prog 16 #[.pointer (some ⟨b, pre.length, none⟩), .int .i64 after, .int .i64 what] w (ClkPost w b t pre suf (.int .i64 (setE ts after)) now (setT now ts after what)) := by
  have h64 := h.2
  have HC := Lib.hid h
  have c0 := h.now_
  have c1 := h.count_
  have f1 := h.frozen (pre.length + 1)
  by_cases h1 : after < 0
  · have E := Lib.hid (show setE ts after = 1 ∧ setT now ts after what = ts by simp [setE, setT, h1])
    clear h
    go_enter Try.func16, Try.ntmps16
    go_wp2
    go_ret
    exact ⟨by rw [E.out.1]; rfl, by rw [E.out.2]; exact HC.out, World.grownBy.refl _ _⟩
  · by_cases h2 : 1000000 < after
    · have E := Lib.hid (show setE ts after = 1 ∧ setT now ts after what = ts by simp [setE, setT, h2])
      clear h
      go_enter Try.func16, Try.ntmps16
      go_wp2
      go_ret
      exact ⟨by rw [E.out.1]; rfl, by rw [E.out.2]; exact HC.out, World.grownBy.refl _ _⟩
    · by_cases h3 : ts.length = 64
      · have E := Lib.hid (show setE ts after = 11 ∧ setT now ts after what = ts by simp [setE, setT, h1, h2, h3])
        have hb : ((ts.length : Int) == 64) = true := by rw [beq_iff_eq]; omega
        clear h h3
        go_enter Try.func16, Try.ntmps16
        go_wp2
        go_ret
        exact ⟨by rw [E.out.1]; rfl, by rw [E.out.2]; exact HC.out, World.grownBy.refl _ _⟩
      · have hlt : ts.length < 64 := by omega
        have E := Lib.hid (show setE ts after = 0 ∧ setT now ts after what = ts ++ [(wrap64 (now + after), what)] by simp [setE, setT, h1, h2, show ¬ 64 ≤ ts.length by omega])
        have hb : ((ts.length : Int) == 64) = false := beq_eq_false_iff_ne.2 (by omega)
        obtain ⟨k0, k1⟩ := h.free (k := ts.length) (Nat.le_refl _) hlt
        have g0 := h.frozen (pre.length + 2 + ts.length * 2)
        have g1 := h.frozen (pre.length + 2 + ts.length * 2 + 1)
        have i0 : (0 : Int) ≤ (ts.length : Int) := by omega
        have i1 : (ts.length : Int) < 64 := by omega
        clear h h3
        generalize hn : ts.length = n at *
        go_enter Try.func16, Try.ntmps16
        go_wp2
        go_still_tail 16, (by kernel_rfl)
        change wpList _ _ _ _ _ (World.drew _)
        go_wp2
        go_ret
        subst hn
        have hp := HC.out.push hlt (wrap64 (now + after)) what
        exact ⟨by rw [E.out.1]; rfl, by rw [E.out.2]; exact hp, grown_drewN1 (((grown_put _ _ _ _).trans (grown_put _ _ _ _)).trans (grown_put _ _ _ _)) 1⟩

/-- the timer that is due first among the first k: its place, or -1 -/
def bestTo (ts : List (Int × Int)) (until_ : Int) : Nat → Int
  | 0 => -1
  | k + 1 => if t1 ts k ≤ until_ ∧ (bestTo ts until_ k < 0 ∨ t1 ts k < t1 ts (bestTo ts until_ k).toNat) then (k : Int) else bestTo ts until_ k
theorem bestTo_rng (ts : List (Int × Int)) (u : Int) : ∀ k, -1 ≤ bestTo ts u k ∧ bestTo ts u k < k := by
  intro k
  induction k with
  | zero => simp [bestTo]
  | succ k ih =>
    simp only [bestTo]
    split <;> omega
def dueI (ts : List (Int × Int)) (u : Int) : Int := bestTo ts u ts.length
def dueW (ts : List (Int × Int)) (u : Int) : Int := if dueI ts u < 0 then 0 else t2 ts (dueI ts u).toNat
def dueB (ts : List (Int × Int)) (u : Int) : Bool := decide (0 ≤ dueI ts u)
def dueN (now : Int) (ts : List (Int × Int)) (u : Int) : Int := if dueI ts u < 0 then now else max now (t1 ts (dueI ts u).toNat)
def dueT (ts : List (Int × Int)) (u : Int) : List (Int × Int) := if dueI ts u < 0 then ts else ts.eraseIdx (dueI ts u).toNat

set_option maxRecDepth 100000 in
set_option maxHeartbeats 1000000 in
theorem Due_any (b : Nat) (t : TypeId) (pre : List Value) (now : Int) (ts : List (Int × Int)) (suf : List Value) (u : Int) (w : World) (h : ClkAt w b t pre now ts suf) :
    Calls Try.prog 18 #[.pointer (some ⟨b, pre.length, none⟩), .int .i64 u] w (ClkPost w b t pre suf (.tuple #[.int .i64 (dueW ts u), .bool (dueB ts u)]) (dueN now ts u) (dueT ts u)) := by
  have h64 := h.2
  have HC := Lib.hid h
  have c0 := h.now_
  have c1 := h.count_
  have f0 := h.frozen pre.length
  have f1 := h.frozen (pre.length + 1)
  clear h
  obtain ⟨n, hn⟩ : ∃ n, n = ts.length := ⟨_, rfl⟩
  rw [← hn] at c1 h64
  have HN := Lib.hid hn
  clear hn
  go_enter Try.func18, Try.ntmps18
  go_wp2
  go_loopw [6, 7, 13] (fun be _ i wr => ∃ k nd : Nat, k ≤ n ∧ i = .int .i64 k ∧ be = .int .i64 (bestTo ts u k) ∧ wr = w.drewN nd) (fun _ _ i _ => n - (intOf i).toNat)
  case atStart => exact ⟨0, 0, by omega, rfl, rfl, rfl⟩
  case round =>
    obtain ⟨k, nd, hk, rfl, rfl, rfl⟩ := hrel
    by_cases hlt : k < n
    · obtain ⟨k0, k1⟩ := HC.out.at_ (k := k) (by rw [← HN.out]; exact hlt)
      have i0 : (0 : Int) ≤ (k : Int) := by omega
      have i1 : (k : Int) < 64 := by omega
      have HF := Lib.hid (show bestTo ts u (k + 1) = if t1 ts k ≤ u ∧ (bestTo ts u k < 0 ∨ t1 ts k < t1 ts (bestTo ts u k).toNat) then (k : Int) else bestTo ts u k from rfl)
      have hr := bestTo_rng ts u k
      obtain ⟨be, hbe⟩ : ∃ be, bestTo ts u k = be := ⟨_, rfl⟩
      rw [hbe] at HF hr ⊢
      clear hbe
      obtain ⟨r1, r2⟩ := hr
      by_cases h1 : t1 ts k ≤ u
      · by_cases h2 : be < 0
        · have HF' := Lib.hid (show bestTo ts u (k + 1) = (k : Int) by rw [HF.out, if_pos ⟨h1, .inl h2⟩])
          have d1 : decide (t1 ts k ≤ u) = true := by simpa using h1
          have d2 : decide (be < 0) = true := by simpa using h2
          generalize t1 ts k = x at *
          clear HF
          go_wp2
          go_quiet (fail)
          go_wp2
          exact ⟨⟨k + 1, nd + nq, by omega, by go_num, by rw [HF'.out], rfl⟩, by simp [intOf]; omega⟩
        · obtain ⟨j, rfl⟩ := Int.eq_ofNat_of_zero_le (show 0 ≤ be by omega)
          rw [Int.toNat_natCast] at HF
          obtain ⟨j0, j1⟩ := HC.out.at_ (k := j) (by rw [← HN.out]; omega)
          have i2 : (0 : Int) ≤ (j : Int) := by omega
          have i3 : (j : Int) < 64 := by omega
          have d1 : decide (t1 ts k ≤ u) = true := by simpa using h1
          have d2 : decide ((j : Int) < 0) = false := by simp
          by_cases h3 : t1 ts k < t1 ts j
          · have HF' := Lib.hid (show bestTo ts u (k + 1) = (k : Int) by rw [HF.out, if_pos ⟨h1, .inr h3⟩])
            have d3 : decide (t1 ts k < t1 ts j) = true := by simpa using h3
            generalize t1 ts k = x at *
            generalize t1 ts j = y at *
            clear HF
            go_wp2
            go_quiet (fail)
            go_wp2
            exact ⟨⟨k + 1, nd + nq, by omega, by go_num, by rw [HF'.out], rfl⟩, by simp [intOf]; omega⟩
          · have HF' := Lib.hid (show bestTo ts u (k + 1) = (j : Int) by rw [HF.out, if_neg (by omega)])
            have d3 : decide (t1 ts k < t1 ts j) = false := by simpa using h3
            generalize t1 ts k = x at *
            generalize t1 ts j = y at *
            clear HF
            go_wp2
            go_quiet (fail)
            go_wp2
            exact ⟨⟨k + 1, nd + nq, by omega, by go_num, by rw [HF'.out], rfl⟩, by simp [intOf]; omega⟩
      · have HF' := Lib.hid (show bestTo ts u (k + 1) = be by rw [HF.out, if_neg (by omega)])
        have d1 : decide (t1 ts k ≤ u) = false := by simpa using h1
        generalize t1 ts k = x at *
        clear HF
        go_wp2
        go_quiet (fail)
        go_wp2
        exact ⟨⟨k + 1, nd + nq, by omega, by go_num, by rw [HF'.out], rfl⟩, by simp [intOf]; omega⟩
    · obtain rfl : k = n := by omega
      have hr := bestTo_rng ts u k
      have HI := Lib.hid (show dueI ts u = bestTo ts u k by rw [dueI, ← HN.out])
      obtain ⟨be, hbe⟩ : ∃ be, bestTo ts u k = be := ⟨_, rfl⟩
      rw [hbe] at HI hr ⊢
      clear hbe
      obtain ⟨r1, r2⟩ := hr
      by_cases h2 : be < 0
      · have E := Lib.hid (show dueW ts u = 0 ∧ dueB ts u = false ∧ dueN now ts u = now ∧ dueT ts u = ts by simp [dueW, dueB, dueN, dueT, HI.out, h2])
        go_wp2
        go_ret2
        exact ⟨by rw [E.out.1, E.out.2.1]; rfl, by rw [E.out.2.2.1, E.out.2.2.2]; exact HC.out, ⟨rfl, rfl, rfl, Nat.le_refl _, fun _ _ _ => rfl⟩⟩
      · obtain ⟨j, rfl⟩ := Int.eq_ofNat_of_zero_le (show 0 ≤ be by omega)
        have E := Lib.hid (show dueW ts u = t2 ts j ∧ dueB ts u = true ∧ dueN now ts u = max now (t1 ts j) ∧ dueT ts u = ts.eraseIdx j by simp [dueW, dueB, dueN, dueT, HI.out, show ¬ (j : Int) < 0 by omega])
        obtain ⟨j0, j1⟩ := HC.out.at_ (k := j) (by rw [← HN.out]; omega)
        have i2 : (0 : Int) ≤ (j : Int) := by omega
        have i3 : (j : Int) < 64 := by omega
        have HC2 := Lib.hid (show ClkAt (w.drewN nd) b t pre now ts suf from HC.out)
        have HG2 := Lib.hid (grown_drewN1 (World.grownBy.refl w (some b)) nd)
        have hbw : b < (w.drewN nd).heap.size := HC.out.lt
        have c0 : (w.drewN nd).cell? ⟨b, pre.length, none⟩ = some (.int .i64 now) := c0
        have c1 : (w.drewN nd).cell? ⟨b, pre.length + 1, none⟩ = some (.int .i64 (k : Int)) := c1
        have j0 : (w.drewN nd).cell? ⟨b, pre.length + 2 + j * 2, none⟩ = some (.int .i64 (t1 ts j)) := j0
        have j1 : (w.drewN nd).cell? ⟨b, pre.length + 2 + j * 2 + 1, none⟩ = some (.int .i64 (t2 ts j)) := j1
        have f0 : (w.drewN nd).frozen? ⟨b, pre.length, none⟩ = false := f0
        have f1 : (w.drewN nd).frozen? ⟨b, pre.length + 1, none⟩ = false := f1
        generalize w.drewN nd = w2 at *
        clear HC
        go_wp2
        have c0 := (cell_alloc_lt (w := w2) (p := ⟨b, pre.length, none⟩) hbw (.cells #[.int .i64 (t1 ts j), .int .i64 (t2 ts j)] 43)).trans c0
        have c1 := (cell_alloc_lt (w := w2) (p := ⟨b, pre.length + 1, none⟩) hbw (.cells #[.int .i64 (t1 ts j), .int .i64 (t2 ts j)] 43)).trans c1
        have hq := heap_alloc_new w2 (.cells #[.int .i64 (t1 ts j), .int .i64 (t2 ts j)] 43)
        have HQ := Lib.hid hq
        have HC3 := Lib.hid (HC2.out.block (Below.heap_alloc w2 (.cells #[.int .i64 (t1 ts j), .int .i64 (t2 ts j)] 43) b hbw))
        have HG3 := Lib.hid (grown_alloc HG2.out (.cells #[.int .i64 (t1 ts j), .int .i64 (t2 ts j)] 43))
        obtain ⟨q, hqq⟩ : ∃ q, w2.heap.size = q := ⟨_, rfl⟩
        rw [hqq] at HQ hbw ⊢
        clear hq hqq HC2 HG2
        generalize w2.alloc (.cells #[.int .i64 (t1 ts j), .int .i64 (t2 ts j)] 43) = w3 at *
        have i4 : (0 : Int) ≤ (j : Int) + 1 := by omega
        have i5 : (j : Int) + 1 ≤ (k : Int) := by omega
        have i6 : (j : Int) ≤ (k : Int) := by omega
        have i7 : (k : Int) ≤ 64 := by omega
        have e1 : IntKind.i64.wrap ((j : Int) + 1) = (j : Int) + 1 := by rw [IntKind.wrap_i64]; omega
        have e2 : ((j : Int) + 1).toNat = j + 1 := by omega
        go_still_tail 19, (by kernel_rfl)
        go_simp
        refine wl_copyN TTm rfl (.tmp 64) (.tmp 74) rfl _ _ _ rfl _ _ _ rfl b (pre.length + 2 + j * 2) (pre ++ (clk now ts ++ suf)) t HC3.out.1 ?d1 w3.heap.size (tmv (ts.drop (j + 1))) ?d2 (tmv_one _) ?d3 ?d4 ?d5
        case d1 =>
          intro hpos
          rw [if_neg (by omega)]
        case d2 =>
          have := HC3.out.reads (j + 1) (some (if j = 63 then { block := b, off := pre.length + 2 } else { block := b, off := pre.length + 2 + (j + 1) * 2 })) (fun hlt => by rw [← HN.out] at hlt; rw [if_neg (by omega)])
          rw [← HN.out] at this
          exact this
        case d3 => omega
        case d4 =>
          have := length_clk now ts (by rw [← HN.out]; exact h64)
          simp only [List.length_append, this]
          omega
        case d5 =>
          intro w4 hrow hg4
          obtain ⟨x, y, hxy⟩ := clk_pull pre suf now ts j (by rw [← HN.out]; omega)
          rw [← HN.out] at hxy
          rw [hxy] at hrow
          have hle : (ts.eraseIdx j).length + 1 = k := by rw [List.length_eraseIdx, if_pos (by rw [← HN.out]; omega), ← HN.out]; omega
          obtain ⟨p0, p1, p2, p3⟩ := pull_cells hle hrow
          have g0 : w4.frozen? ⟨b, pre.length, none⟩ = false := frozen_of_row _ _ _ _ _ hrow
          have g1 : w4.frozen? ⟨b, pre.length + 1, none⟩ = false := frozen_of_row _ _ _ _ _ hrow
          have g2 : w4.frozen? ⟨b, pre.length + 2 + (k - 1) * 2, none⟩ = false := frozen_of_row _ _ _ _ _ hrow
          have g3 : w4.frozen? ⟨b, pre.length + 2 + (k - 1) * 2 + 1, none⟩ = false := frozen_of_row _ _ _ _ _ hrow
          have hqq : w4.heap[q]? = some (.cells #[.int .i64 (t1 ts j), .int .i64 (t2 ts j)] 43 (0, 0)) := by
            rw [hg4.block q (by exact (Array.getElem?_eq_some_iff.1 HQ.out).1) (by simp; omega)]
            exact HQ.out
          have q0 : w4.cell? ⟨q, 0, none⟩ = some (.int .i64 (t1 ts j)) := by rw [cell_of_row _ _ 0 _ _ _ hqq]; rfl
          have q1 : w4.cell? ⟨q, 1, none⟩ = some (.int .i64 (t2 ts j)) := by rw [cell_of_row _ _ 1 _ _ _ hqq]; rfl
          have HD := Lib.hid (pull_done hle h64 (max now (t1 ts j)) hrow)
          have HG4 := Lib.hid ((grown_drewN1 HG3.out 1).trans hg4)
          have n0 : (0 : Int) ≤ (k : Int) - 1 := by omega
          have n1 : (k : Int) - 1 < 64 := by omega
          have hne : q ≠ b := by omega
          clear hrow hg4 hxy hle hqq HQ HC3 HG3 c0 c1 f0 f1 j0 j1 e1 e2 hbw
          generalize t1 ts j = d at *
          generalize t2 ts j = v at *
          generalize (if 64 = j then ({ block := b, off := pre.length + 2 } : Addr) else { block := b, off := pre.length + 2 + j * 2 }) = ax1
          generalize (if j = 63 then ({ block := b, off := pre.length + 2 } : Addr) else { block := b, off := pre.length + 2 + (j + 1) * 2 }) = ax2
          go_wp2
          have P0 : (w4.setCell ⟨b, pre.length + 1, none⟩ (.int .i64 ((k : Int) - 1))).cell? ⟨b, pre.length, none⟩ = some (.int .i64 now) := by go_simp
          have P1 : (w4.setCell ⟨b, pre.length + 1, none⟩ (.int .i64 ((k : Int) - 1))).cell? ⟨b, pre.length + 1, none⟩ = some (.int .i64 ((k : Int) - 1)) := by go_simp
          have P2 : (w4.setCell ⟨b, pre.length + 1, none⟩ (.int .i64 ((k : Int) - 1))).cell? ⟨b, pre.length + 2 + (k - 1) * 2, none⟩ = some x := by rw [cell_set_other _ _ _ _ (by simp <;> omega)]; exact p2
          have P3 : (w4.setCell ⟨b, pre.length + 1, none⟩ (.int .i64 ((k : Int) - 1))).cell? ⟨b, pre.length + 2 + (k - 1) * 2 + 1, none⟩ = some y := by rw [cell_set_other _ _ _ _ (by simp <;> omega)]; exact p3
          have Q0 : (w4.setCell ⟨b, pre.length + 1, none⟩ (.int .i64 ((k : Int) - 1))).cell? ⟨q, 0, none⟩ = some (.int .i64 d) := by rw [cell_set_other _ _ _ _ (by simp <;> omega)]; exact q0
          have Q1 : (w4.setCell ⟨b, pre.length + 1, none⟩ (.int .i64 ((k : Int) - 1))).cell? ⟨q, 1, none⟩ = some (.int .i64 v) := by rw [cell_set_other _ _ _ _ (by simp <;> omega)]; exact q1
          have G0 : (w4.setCell ⟨b, pre.length + 1, none⟩ (.int .i64 ((k : Int) - 1))).frozen? ⟨b, pre.length, none⟩ = false := by go_simp
          have G2 : (w4.setCell ⟨b, pre.length + 1, none⟩ (.int .i64 ((k : Int) - 1))).frozen? ⟨b, pre.length + 2 + (k - 1) * 2, none⟩ = false := by go_simp
          have G3 : (w4.setCell ⟨b, pre.length + 1, none⟩ (.int .i64 ((k : Int) - 1))).frozen? ⟨b, pre.length + 2 + (k - 1) * 2 + 1, none⟩ = false := by go_simp
          have HG5 := Lib.hid (HG4.out.trans (grown_put w4 b (pre.length + 1) (.int .i64 ((k : Int) - 1))))
          clear p0 p1 p2 p3 q0 q1 g0 g1 g2 g3 HG4
          obtain ⟨m, hm⟩ : ∃ m, k - 1 = m := ⟨_, rfl⟩
          have em : (k : Int) - 1 = (m : Int) := by omega
          have hm64 : (m : Int) < 64 := by omega
          have hm0 : (0 : Int) ≤ (m : Int) := by omega
          rw [em, hm] at P2 P3 G2 G3 HD
          rw [em] at P0 P1 Q0 Q1 G0 HG5 ⊢
          generalize w4.setCell ⟨b, pre.length + 1, none⟩ (.int .i64 (m : Int)) = w5 at *
          clear em hm n0 n1
          go_still_tail 9, (by kernel_rfl)
          change wpList _ _ _ _ _ (World.drew _)
          go_wp2
          have R0 : ((w5.setCell ⟨b, pre.length + 2 + m * 2, none⟩ (.int .i64 0)).setCell ⟨b, pre.length + 2 + m * 2 + 1, none⟩ (.int .i64 0)).drew.cell? ⟨b, pre.length, none⟩ = some (.int .i64 now) := by
            show ((w5.setCell ⟨b, pre.length + 2 + m * 2, none⟩ (.int .i64 0)).setCell ⟨b, pre.length + 2 + m * 2 + 1, none⟩ (.int .i64 0)).cell? ⟨b, pre.length, none⟩ = _
            rw [cell_set_other _ _ _ _ (by simp <;> omega), cell_set_other _ _ _ _ (by simp <;> omega)]; exact P0
          have R1 : ((w5.setCell ⟨b, pre.length + 2 + m * 2, none⟩ (.int .i64 0)).setCell ⟨b, pre.length + 2 + m * 2 + 1, none⟩ (.int .i64 0)).drew.cell? ⟨q, 0, none⟩ = some (.int .i64 d) := by
            show ((w5.setCell ⟨b, pre.length + 2 + m * 2, none⟩ (.int .i64 0)).setCell ⟨b, pre.length + 2 + m * 2 + 1, none⟩ (.int .i64 0)).cell? ⟨q, 0, none⟩ = _
            rw [cell_set_other _ _ _ _ (by simp <;> omega), cell_set_other _ _ _ _ (by simp <;> omega)]; exact Q0
          have R2 : ((w5.setCell ⟨b, pre.length + 2 + m * 2, none⟩ (.int .i64 0)).setCell ⟨b, pre.length + 2 + m * 2 + 1, none⟩ (.int .i64 0)).drew.cell? ⟨q, 1, none⟩ = some (.int .i64 v) := by
            show ((w5.setCell ⟨b, pre.length + 2 + m * 2, none⟩ (.int .i64 0)).setCell ⟨b, pre.length + 2 + m * 2 + 1, none⟩ (.int .i64 0)).cell? ⟨q, 1, none⟩ = _
            rw [cell_set_other _ _ _ _ (by simp <;> omega), cell_set_other _ _ _ _ (by simp <;> omega)]; exact Q1
          have S0 : ((w5.setCell ⟨b, pre.length + 2 + m * 2, none⟩ (.int .i64 0)).setCell ⟨b, pre.length + 2 + m * 2 + 1, none⟩ (.int .i64 0)).drew.frozen? ⟨b, pre.length, none⟩ = false := by go_simp
          have HD6 := Lib.hid (show ClkAt (((w5.setCell ⟨b, pre.length + 2 + m * 2, none⟩ (.int .i64 0)).setCell ⟨b, pre.length + 2 + m * 2 + 1, none⟩ (.int .i64 0)).drew.setCell ⟨b, pre.length, none⟩ (.int .i64 (max now d))) b t pre (max now d) (ts.eraseIdx j) suf from HD.out)
          have HG6 := Lib.hid (grown_drewN1 ((HG5.out.trans (grown_put w5 b _ _)).trans (grown_put _ b _ _)) 1 : w.grownBy (((w5.setCell ⟨b, pre.length + 2 + m * 2, none⟩ (.int .i64 0)).setCell ⟨b, pre.length + 2 + m * 2 + 1, none⟩ (.int .i64 0)).drewN 1) (some b))
          have HG6 := Lib.hid (show w.grownBy (((w5.setCell ⟨b, pre.length + 2 + m * 2, none⟩ (.int .i64 0)).setCell ⟨b, pre.length + 2 + m * 2 + 1, none⟩ (.int .i64 0)).drew) (some b) from HG6.out)
          clear P0 P1 P2 P3 Q0 Q1 G0 G2 G3 HD HG5
          generalize ((w5.setCell ⟨b, pre.length + 2 + m * 2, none⟩ (.int .i64 0)).setCell ⟨b, pre.length + 2 + m * 2 + 1, none⟩ (.int .i64 0)).drew = w6 at *
          go_still_tail 10, (by kernel_rfl)
          change wpList _ _ _ _ _ (World.drew _)
          go_wp2
          all_goals
            go_ret2
            refine ⟨by rw [E.out.1, E.out.2.1]; rfl, ?_, grown_drewN1 (HG6.out.trans (grown_put _ b _ _)) 1⟩
            rw [E.out.2.2.1, E.out.2.2.2]
            have h6 := HD6.out
            first
              | (rw [show max now d = d by omega] at h6 ⊢; exact h6)
              | (rw [show max now d = now by omega] at h6 ⊢; exact h6)
end Go.Proofs.Ytcjpfjmmnnfieaa
