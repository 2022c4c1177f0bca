/-
  Contracts of shallotref08.Set, shallotref08.Due and shallotref08.Move: the document's clock, a value with a list of timers in memory of the call's own. Condition: at most 64 timers.
-/
import Derived.Test.YtcjpfjmmnnfieaaClock
import Derived.Deep.RegionLaw
import Derived.Deep.RegionHeld3
namespace Go.Proofs.Ytcjpfjmmnnfieaa
open Go Go.RowKit Go.Sh

theorem TRm : STy Try.prog 47 96 (.agg #[.int .i64 0, .int .i64 0]) 2 16 := ⟨Try.underlying47, by kernel_rfl, rfl, by decide⟩

/-- the document's clock v: its tick, and its timers in a row of the call's own -/
def RClk (w : World) (base : Nat) (v : Value) (now : Int) (ts : List (Int × Int)) : Prop :=
  ∃ A c, v = .agg #[.int .i64 now, .slice A ts.length c] ∧ w.ownsRow base 96 2 (.slice A ts.length c) ts.length (tmv ts)
/-- the clock and what else is handed back -/
def RClkPost (w : World) (base : Nat) (now : Int) (ts : List (Int × Int)) (rest : List Value) (e : Ending) (w' : World) : Prop :=
  ∃ v, e = .returned (.tuple (v :: rest).toArray) ∧ RClk w' base v now ts ∧ Below w.heap.size w w'

theorem RClk.later {w w' : World} {base : Nat} {v : Value} {now : Int} {ts : List (Int × Int)} (h : RClk w base v now ts) (hb : Below w.heap.size w w') : RClk w' base v now ts := by
  obtain ⟨A, c, h1, h2⟩ := h
  exact ⟨A, c, h1, own_later h2 hb⟩

theorem own_empty {w : World} {base e size g : Nat} (h : w.heap[g]? = some (.cells #[] e (0, 0))) (hb : base ≤ g) : w.ownsRow base e size (.slice (some ⟨g, 0, none⟩) 0 0) 0 [] :=
  ⟨by simp, .inr ⟨g, 0, #[], rfl, hb, h, by omega, by simp [maxLen], by simp, by simp⟩⟩
/-- what stays while Set makes its new list -/
def SInv (w : World) (B0 : Nat) (A : Option Addr) (n c : Nat) (now : Int) (ts : List (Int × Int)) (W : World) : Prop :=
  W.heap[B0]? = some (.cells #[.int .i64 now, .slice A n c] 49 (0, 0)) ∧ W.heap[B0 + 1]? = some (.cells #[.int .i64 0, .slice none 0 0] 49 (0, 0)) ∧ Below B0 w W ∧ B0 + 2 ≤ W.heap.size ∧ Reads W (B0 + 2) 2 A n (tmv ts)
section
variable {w W W' : World} {B0 n c : Nat} {A : Option Addr} {now : Int} {ts : List (Int × Int)}
theorem SInv.drew (h : SInv w B0 A n c now ts W) : SInv w B0 A n c now ts W.drew := ⟨h.1, h.2.1, h.2.2.1.drew, h.2.2.2.1, h.2.2.2.2⟩
theorem SInv.grown (h : SInv w B0 A n c now ts W) {row : Option Nat} (hg : W.grownBy W' row) (hr : ∀ g, row = some g → B0 + 2 ≤ g) : SInv w B0 A n c now ts W' := by
  obtain ⟨h1, h2, h3, h4, h5⟩ := h
  refine ⟨?_, ?_, h3.grown hg (by omega) (fun g hg' => by have := hr g hg'; omega), Nat.le_trans h4 hg.size, h5.grown hg h4 hr⟩
  · rw [hg.block B0 (by omega) (fun e => by have := hr B0 e.symm; omega)]
    exact h1
  · rw [hg.block (B0 + 1) (by omega) (fun e => by have := hr (B0 + 1) e.symm; omega)]
    exact h2
theorem SInv.alloc (h : SInv w B0 A n c now ts W) (o : Obj) : SInv w B0 A n c now ts (W.alloc o) := h.grown (row := none) ⟨rfl, rfl, rfl, by simp, fun k hk _ => Below.heap_alloc W o k hk⟩ (by simp)
theorem SInv.c0 (h : SInv w B0 A n c now ts W) : W.cell? ⟨B0, 0, none⟩ = some (.int .i64 now) := by rw [cell_of_row _ _ 0 _ _ _ h.1]; rfl
theorem SInv.c1 (h : SInv w B0 A n c now ts W) : W.cell? ⟨B0, 1, none⟩ = some (.slice A n c) := by rw [cell_of_row _ _ 1 _ _ _ h.1]; rfl
theorem SInv.d0 (h : SInv w B0 A n c now ts W) : W.cell? ⟨B0 + 1, 0, none⟩ = some (.int .i64 0) := by rw [cell_of_row _ _ 0 _ _ _ h.2.1]; rfl
theorem SInv.d1 (h : SInv w B0 A n c now ts W) : W.cell? ⟨B0 + 1, 1, none⟩ = some (.slice none 0 0) := by rw [cell_of_row _ _ 1 _ _ _ h.2.1]; rfl
theorem SInv.d2 (h : SInv w B0 A n c now ts W) : W.frozen? ⟨B0 + 1, 0, none⟩ = false := frozen_of_row _ _ _ _ _ h.2.1
theorem SInv.d3 (h : SInv w B0 A n c now ts W) : W.frozen? ⟨B0 + 1, 1, none⟩ = false := frozen_of_row _ _ _ _ _ h.2.1
theorem SInv.f1 (h : SInv w B0 A n c now ts W) : W.frozen? ⟨B0, 1, none⟩ = false := frozen_of_row _ _ _ _ _ h.1
end
theorem new_at {w : World} {k : Nat} (hk : w.heap.size = k) (o : Obj) : (w.alloc o).heap[k]? = some o := by
  subst hk
  exact heap_alloc_new w o
theorem new_at1 {w : World} {k : Nat} (hk : w.heap.size = k) (o o' : Obj) : ((w.alloc o).alloc o').heap[k]? = some o := by
  rw [heap_alloc_old _ _ (by simp; omega)]
  exact new_at hk o
theorem new_at2 {w : World} {k : Nat} (hk : w.heap.size = k) (o o' : Obj) : ((w.alloc o).alloc o').heap[k + 1]? = some o' := new_at (by simp [hk]) o'
theorem reads_row {w : World} {g B : Nat} {x y : Value} {t : TypeId} {fr : Nat × Nat} (h : w.heap[g]? = some (.cells #[x, y] t fr)) (hB : g < B) : Reads w B 2 (some ⟨g, 0, none⟩) 1 [x, y] := by
  refine ⟨rfl, .inr ⟨_, rfl, hB, fun j hj => ?_⟩⟩
  rw [add_mk, cell_of_row _ _ _ _ _ _ h]
  simp
theorem below2 {w : World} (o o' : Obj) : Below w.heap.size w ((w.alloc o).alloc o') := ((Below.refl _ _).alloc (Nat.le_refl _) _).alloc (by simp) _

theorem RefMove_any (base : Nat) (v : Value) (now : Int) (ts : List (Int × Int)) (to : Int) (w : World) (h : RClk w base v now ts) :
    Calls Try.prog 19 #[v, .int .i64 to] w (RClkPost w base (movN now to) ts [.int .i64 (movE now to)]) := by
  obtain ⟨A, c, rfl, ho⟩ := h
  have HO := Lib.hid ho
  obtain ⟨n, hn⟩ : ∃ n, n = ts.length := ⟨_, rfl⟩
  rw [← hn] at HO ⊢
  have HN := Lib.hid hn
  clear ho hn
  by_cases h1 : to < now
  · have E := Lib.hid (show movE now to = 1 ∧ movN now to = now by simp [movE, movN, h1])
    go_enter Try.func19, Try.ntmps19
    go_wp2
    (try simp only [Exit.inBlock, Exit.then])
    refine bodyPost_ret (v := .tuple #[.agg #[.int .i64 now, .slice A n c], .int .i64 1]) (by simp [results, Try.results19, go_sem]) rfl ?_
    rw [E.out.1, E.out.2]
    exact ⟨_, rfl, ⟨A, c, by rw [← HN.out], by rw [← HN.out]; exact (HO.out.alloc _).alloc _⟩, below2 _ _⟩
  · by_cases h2 : 1099511627776 < to
    · have E := Lib.hid (show movE now to = 1 ∧ movN now to = now by simp [movE, movN, h2])
      go_enter Try.func19, Try.ntmps19
      go_wp2
      (try simp only [Exit.inBlock, Exit.then])
      refine bodyPost_ret (v := .tuple #[.agg #[.int .i64 now, .slice A n c], .int .i64 1]) (by simp [results, Try.results19, go_sem]) rfl ?_
      rw [E.out.1, E.out.2]
      exact ⟨_, rfl, ⟨A, c, by rw [← HN.out], by rw [← HN.out]; exact (HO.out.alloc _).alloc _⟩, below2 _ _⟩
    · have E := Lib.hid (show movE now to = 0 ∧ movN now to = to by simp [movE, movN, h1, h2])
      go_enter Try.func19, Try.ntmps19
      go_wp2
      (try simp only [Exit.inBlock, Exit.then])
      refine bodyPost_ret (v := .tuple #[.agg #[.int .i64 to, .slice A n c], .int .i64 0]) (by simp [results, Try.results19, go_sem]) rfl ?_
      rw [E.out.1, E.out.2]
      exact ⟨_, rfl, ⟨A, c, by rw [← HN.out], by rw [← HN.out]; exact (HO.out.alloc _).alloc _⟩, below2 _ _⟩

theorem rc_far {w : World} {base e size n p : Nat} {v : Value} {xs : List Value} (h : w.ownsRow base e size v n xs) (hp : p < base) : v.ownBlock = none ∨ v.ownBlock ≠ some p := by
  cases hv : v.ownBlock with
  | none => exact .inl rfl
  | some g =>
    right
    intro he
    have := (h.lt g hv).1
    injection he with he
    omega
theorem set_fin {base : Nat} {w w2 : World} {B0 n c k2 : Nat} {A A2 : Option Addr} {now after what X : Int} {ts : List (Int × Int)} (hI : SInv w B0 A n c now ts w2) (hB : w.heap.size = B0) (hbase : base ≤ B0)
    (ho : w2.ownsRow (B0 + 2) 96 2 (.slice A2 (n + 1) k2) (n + 1) (tmv ts ++ [.int .i64 X, .int .i64 what])) (hE : setE ts after = 0 ∧ setT now ts after what = ts ++ [(wrap64 (now + after), what)]) (hX : wrap64 (now + after) = X) (hn : n = ts.length) :
    RClkPost w base now (setT now ts after what) [.int .i64 (setE ts after)] (.returned (.tuple #[.agg #[.int .i64 now, .slice A2 (n + 1) k2], .int .i64 0]))
      (((w2.setCell ⟨B0, 1, none⟩ (.slice A2 (n + 1) k2)).setCell ⟨B0 + 1, 0, none⟩ (.int .i64 now)).setCell ⟨B0 + 1, 1, none⟩ (.slice A2 (n + 1) k2)) := by
  rw [hE.1, hE.2, hX]
  have hlen : (ts ++ [(X, what)]).length = n + 1 := by simp [hn]
  refine ⟨_, rfl, ⟨A2, k2, by rw [hlen], ?_⟩, ?_⟩
  · rw [hlen, tmv_append]
    exact own_base (((ho.kept (grown_put _ _ _ _) (rc_far ho (by omega))).kept (grown_put _ _ _ _) (rc_far ho (by omega))).kept (grown_put _ _ _ _) (rc_far ho (by omega))) (by omega)
  · subst hB
    exact ((hI.2.2.1.setCell (by simp) _).setCell (by simp) _).setCell (by simp) _

set_option maxRecDepth 100000 in
set_option maxHeartbeats 1000000 in
theorem RefSet_any (base : Nat) (v : Value) (now : Int) (ts : List (Int × Int)) (after what : Int) (w : World) (h : RClk w base v now ts) (h64 : ts.length ≤ 64) (hbase : base ≤ w.heap.size) :
    Calls Try.prog 15 #[v, .int .i64 after, .int .i64 what] w (RClkPost w base now (setT now ts after what) [.int .i64 (setE ts after)]) := by
  obtain ⟨A, c, rfl, ho⟩ := h
  have HO := Lib.hid ho
  obtain ⟨n, hn⟩ : ∃ n, n = ts.length := ⟨_, rfl⟩
  rw [← hn] at HO h64 ⊢
  have HN := Lib.hid hn
  clear ho
  by_cases h1 : after < 0
  · have E := Lib.hid (show setE ts after = 1 ∧ setT now ts after what = ts by simp [setE, setT, h1])
    clear hn
    go_enter Try.func15, Try.ntmps15
    go_wp2
    (try simp only [Exit.inBlock, Exit.then])
    refine bodyPost_ret (v := .tuple #[.agg #[.int .i64 now, .slice A n c], .int .i64 1]) (by simp [results, Try.results15, go_sem]) rfl ?_
    rw [E.out.1, E.out.2]
    exact ⟨_, rfl, ⟨A, c, by rw [← HN.out], by rw [← HN.out]; exact (HO.out.alloc _).alloc _⟩, below2 _ _⟩
  · by_cases h2 : 1000000 < after
    · have E := Lib.hid (show setE ts after = 1 ∧ setT now ts after what = ts by simp [setE, setT, h2])
      clear hn
      go_enter Try.func15, Try.ntmps15
      go_wp2
      (try simp only [Exit.inBlock, Exit.then])
      refine bodyPost_ret (v := .tuple #[.agg #[.int .i64 now, .slice A n c], .int .i64 1]) (by simp [results, Try.results15, go_sem]) rfl ?_
      rw [E.out.1, E.out.2]
      exact ⟨_, rfl, ⟨A, c, by rw [← HN.out], by rw [← HN.out]; exact (HO.out.alloc _).alloc _⟩, below2 _ _⟩
    · by_cases h3 : 64 ≤ n
      · have E := Lib.hid (show setE ts after = 11 ∧ setT now ts after what = ts by simp [setE, setT, h1, h2, ← hn, h3])
        clear hn
        go_enter Try.func15, Try.ntmps15
        go_wp2
        (try simp only [Exit.inBlock, Exit.then])
        refine bodyPost_ret (v := .tuple #[.agg #[.int .i64 now, .slice A n c], .int .i64 11]) (by simp [results, Try.results15, go_sem]) rfl ?_
        rw [E.out.1, E.out.2]
        exact ⟨_, rfl, ⟨A, c, by rw [← HN.out], by rw [← HN.out]; exact (HO.out.alloc _).alloc _⟩, below2 _ _⟩
      · have E := Lib.hid (show setE ts after = 0 ∧ setT now ts after what = ts ++ [(wrap64 (now + after), what)] by simp [setE, setT, h1, h2, ← hn, h3])
        clear hn
        go_enter Try.func15, Try.ntmps15
        go_wp2
        have hv0 : ((w.alloc (Obj.cells #[Value.int IntKind.i64 now, Value.slice A n c] 49)).alloc (Obj.cells #[Value.int IntKind.i64 0, Value.slice none 0 0] 49)).heap[w.heap.size]? = some (.cells #[Value.int IntKind.i64 now, Value.slice A n c] 49 (0, 0)) := by
          rw [heap_alloc_old _ _ (by simp)]
          exact heap_alloc_new w _
        have hv1 : ((w.alloc (Obj.cells #[Value.int IntKind.i64 now, Value.slice A n c] 49)).alloc (Obj.cells #[Value.int IntKind.i64 0, Value.slice none 0 0] 49)).heap[w.heap.size + 1]? = some (.cells #[Value.int IntKind.i64 0, Value.slice none 0 0] 49 (0, 0)) := by
          have := heap_alloc_new (w.alloc (Obj.cells #[Value.int IntKind.i64 now, Value.slice A n c] 49)) (Obj.cells #[Value.int IntKind.i64 0, Value.slice none 0 0] 49)
          simpa using this
        have hov := (HO.out.alloc (Obj.cells #[Value.int IntKind.i64 now, Value.slice A n c] 49)).alloc (Obj.cells #[Value.int IntKind.i64 0, Value.slice none 0 0] 49)
        have hbv := below2 (w := w) (Obj.cells #[Value.int IntKind.i64 now, Value.slice A n c] 49) (Obj.cells #[Value.int IntKind.i64 0, Value.slice none 0 0] 49)
        have hzv : ((w.alloc (Obj.cells #[Value.int IntKind.i64 now, Value.slice A n c] 49)).alloc (Obj.cells #[Value.int IntKind.i64 0, Value.slice none 0 0] 49)).heap.size = w.heap.size + 2 := by simp
        generalize (w.alloc (Obj.cells #[Value.int IntKind.i64 now, Value.slice A n c] 49)).alloc (Obj.cells #[Value.int IntKind.i64 0, Value.slice none 0 0] 49) = wv at *
        obtain ⟨B0, hB0⟩ : ∃ B0, w.heap.size = B0 := ⟨_, rfl⟩
        rw [hB0] at hv0 hv1 hbv hzv ⊢
        have c0 : wv.cell? ⟨B0, 0, none⟩ = some (.int .i64 now) := by rw [cell_of_row _ _ 0 _ _ _ hv0]; rfl
        have c1 : wv.cell? ⟨B0, 1, none⟩ = some (.slice A n c) := by rw [cell_of_row _ _ 1 _ _ _ hv0]; rfl
        have f1 : wv.frozen? ⟨B0, 1, none⟩ = false := frozen_of_row _ _ _ _ _ hv0
        have hlt0 : B0 < wv.heap.size := by omega
        have HV0 := Lib.hid hv0
        have HV1 := Lib.hid hv1
        have HOV := Lib.hid hov
        have HBV := Lib.hid hbv
        have HZV := Lib.hid hzv
        have HB0 := Lib.hid hB0
        clear hv0 hv1 hov hbv hzv hB0 HO
        have HI := Lib.hid (show SInv w B0 A n c now ts wv from ⟨HV0.out, HV1.out, HBV.out, by rw [HZV.out]; exact Nat.le_refl _, by rw [← HZV.out]; exact Reads.of_own HOV.out⟩)
        have hsz : wv.heap.size = B0 + 2 := HZV.out
        clear HV0 HV1 HBV HOV HZV
        obtain ⟨X, hX⟩ : ∃ X, IntKind.i64.wrap (now + after) = X := ⟨_, rfl⟩
        have HX := Lib.hid (show wrap64 (now + after) = X by rw [← hX, IntKind.wrap_i64, wrap64])
        go_region_law (first
          | (refine step_app TRm (by rfl) (.tmp 20) (.tmp 22) (by rfl) (.slice (some ⟨_, 0, none⟩) 0 0) (by rfl) A n c (by rfl) (B0 + 2) 0 [] (own_empty (by first | exact new_at hsz _ | exact new_at1 hsz _ _ | exact new_at2 hsz _ _) (by omega)) (B0 + 2) (tmv ts) (by first | exact (HI.out.alloc _).drew.2.2.2.2 | exact ((HI.out.alloc _).alloc _).drew.2.2.2.2) (tmv_one _) (by omega) (by omega) (by simp; omega) ?_; intro A1 k1 w1 ho1 hg1 hat1; (try simp only [Nat.zero_add, List.nil_append] at ho1 ⊢); have HI1 := SInv.grown (by first | exact (HI.out.alloc _).drew | exact ((HI.out.alloc _).alloc _).drew) hg1 (by intro g hg; simp [Value.ownBlock] at hg; omega); have c0 := HI1.c0; have c1 := HI1.c1; have f1 := HI1.f1; have hz1 := HI1.2.2.2.1; have HX0 := Lib.hid (hg1.block (B0 + 2)); have HX1 := Lib.hid (hg1.block (B0 + 3)); have HI2 := Lib.hid HI1; have HO1 := Lib.hid ho1; clear ho1 hg1 hat1 HI1)
          | (refine step_app TRm (by rfl) (.tmp 23) (.tmp 30) (by rfl) (.slice A1 n k1) (by rfl) (some ⟨_, 0, none⟩) 1 1 (by rfl) (B0 + 2) n (tmv ts) (by first | exact HO1.out | exact HO1.out.alloc _) (w1.heap.size + B0 + 10) [.int .i64 X, .int .i64 what] (by first | exact (Reads.lit w1 _ [.int .i64 X, .int .i64 what] 1 2 rfl _ rfl).more (by omega) | exact reads_row ((HX0.out (by simp; omega) (by simp [Value.ownBlock])).trans (by first | exact new_at hsz _ | exact new_at1 hsz _ _ | exact new_at2 hsz _ _)) (by omega) | exact reads_row ((HX1.out (by simp; omega) (by simp [Value.ownBlock])).trans (by first | exact new_at hsz _ | exact new_at1 hsz _ _ | exact new_at2 hsz _ _)) (by omega)) (by simp [Value.oneCell']) (by omega) (by omega) (by first | (simp; omega) | omega) ?_; intro A2 k2 w2 ho2 hg2 hat2; have HI1 := SInv.grown (by first | exact HI2.out | exact HI2.out.alloc _) hg2 (fun g hg => (HO1.out.lt g hg).1); have c0 := HI1.c0; have c1 := HI1.c1; have f1 := HI1.f1; have d0 := HI1.d0; have d1 := HI1.d1; have d2 := HI1.d2; have d3 := HI1.d3; have HI3 := Lib.hid HI1; have HO2 := Lib.hid ho2; clear ho2 hg2 hat2 HI1))
        all_goals
          go_wp2
          (try simp only [Exit.inBlock, Exit.then])
          refine bodyPost_ret (v := .tuple #[.agg #[.int .i64 now, .slice A2 (n + 1) k2], .int .i64 0]) (by simp [results, Try.results15, go_sem, d0, d1]) rfl ?_
          exact set_fin HI3.out HB0.out (by have := HB0.out; omega) HO2.out E.out HX.out HN.out
end Go.Proofs.Ytcjpfjmmnnfieaa
