/-
  Contract of shallotref08.Due: the timer that is due first is taken away. Condition: at most 64 timers.
-/
import Derived.Test.YtcjpfjmmnnfieaaRefClock
import Derived.Test.YtcjpfjmmnnfieaaBest
import Derived.RegionTactic
namespace Go.Proofs.Ytcjpfjmmnnfieaa
open Go Go.RowKit Go.Sh

theorem own_apart {w : World} {base n p : Nat} {v : Value} {xs : List Value} {cs : Array Value} {fr : Nat × Nat} (h : w.ownsRow base 96 2 v n xs) (hp : w.heap[p]? = some (.cells cs 49 fr)) : v.ownBlock = none ∨ v.ownBlock ≠ some p := by
  rcases h.2 with ⟨rfl, _⟩ | ⟨g, cap, cur, rfl, _, hgg, _⟩
  · exact .inl rfl
  · refine .inr fun he => ?_
    simp only [Value.ownBlock, Option.some.injEq] at he
    subst he
    rw [hgg] at hp
    simp only [Option.some.injEq, Obj.cells.injEq] at hp
    exact absurd hp.2.1 (by decide)
theorem due_fin {base : Nat} {w w5 : World} {B0 ll c' : Nat} {A' : Option Addr} {now u x y M : Int} {ts L : List (Int × Int)} {j : Nat} (hE : dueW ts u = y ∧ dueB ts u = true ∧ dueN now ts u = max now x ∧ dueT ts u = ts.eraseIdx j) (hM : max now x = M) (hL : L = ts.eraseIdx j) (hl : L.length = ll)
    (ho : w5.ownsRow (B0 + 3) 96 2 (.slice A' ll c') ll (tmv L)) (hb : Below B0 w w5) (hB : w.heap.size = B0) (hbase : base ≤ w.heap.size) :
    RClkPost w base (dueN now ts u) (dueT ts u) [.int .i64 (dueW ts u), .bool (dueB ts u)] (.returned (.tuple #[.agg #[.int .i64 M, .slice A' ll c'], .int .i64 y, .bool true]))
      (((w5.setCell ⟨B0 + 1, 0, none⟩ (.int .i64 M)).setCell ⟨B0 + 1, 1, none⟩ (.slice A' ll c')).drew) := by
  rw [hE.1, hE.2.1, hE.2.2.1, hE.2.2.2, hM, ← hL]
  refine ⟨_, rfl, ⟨A', c', by rw [hl], ?_⟩, ?_⟩
  · rw [hl]
    have h1 := ho.kept (grown_put w5 (B0 + 1) 0 (.int .i64 M)) (rc_far ho (by omega))
    have h2 := h1.kept (grown_put _ (B0 + 1) 1 (.slice A' ll c')) (rc_far ho (by omega))
    exact own_base h2 (by omega)
  · subst hB
    exact ((hb.setCell (by simp) _).setCell (by simp) _).drew
section
variable {w W W' : World} {B0 n c g : Nat} {A : Option Addr} {now : Int} {ts : List (Int × Int)}
theorem SInv.drewN (h : SInv w B0 A n c now ts W) (k : Nat) : SInv w B0 A n c now ts (W.drewN k) := ⟨h.1, h.2.1, below_drewN h.2.2.1 k, h.2.2.2.1, h.2.2.2.2⟩
theorem SInv.at_ (h : SInv w B0 (some ⟨g, 0, none⟩) n c now ts W) {k : Nat} (hn : n = ts.length) (hk : k < n) : W.cell? ⟨g, k * 2, none⟩ = some (.int .i64 (t1 ts k)) ∧ W.cell? ⟨g, k * 2 + 1, none⟩ = some (.int .i64 (t2 ts k)) := by
  have hl := length_tmv ts
  obtain ⟨ad, e, _, hc⟩ := h.2.2.2.2.some_ (by rw [hl]; omega)
  injection e with e
  subst e
  obtain ⟨h0, h1⟩ := tmv_at ts k (by omega)
  have a0 := hc.get h0
  have a1 := hc.get h1
  rw [add_mk, Nat.zero_add] at a0 a1
  exact ⟨a0, a1⟩
theorem SInv.f0 (h : SInv w B0 A n c now ts W) : W.frozen? ⟨B0, 0, none⟩ = false := frozen_of_row _ _ _ _ _ h.1
end

set_option maxRecDepth 100000 in
set_option maxHeartbeats 1000000 in
theorem RefDue_any (base : Nat) (v : Value) (now : Int) (ts : List (Int × Int)) (u : Int) (w : World) (h : RClk w base v now ts) (h64 : ts.length ≤ 64) (hbase : base ≤ w.heap.size) :
    Calls Try.prog 17 #[v, .int .i64 u] w (RClkPost w base (dueN now ts u) (dueT ts u) [.int .i64 (dueW ts u), .bool (dueB ts u)]) := by
  obtain ⟨A, c, rfl, ho⟩ := h
  have HO := Lib.hid ho
  obtain ⟨n, hn⟩ : ∃ n, n = ts.length := ⟨_, rfl⟩
  rw [← hn] at HO h64 ⊢
  have HN := Lib.hid hn
  clear ho hn
  go_enter Try.func17, Try.ntmps17
  go_wp2
  have HI := Lib.hid (show SInv w w.heap.size A n c now ts ((w.alloc (Obj.cells #[Value.int IntKind.i64 now, Value.slice A n c] 49)).alloc (Obj.cells #[Value.int IntKind.i64 0, Value.slice none 0 0] 49)) from ⟨new_at1 rfl _ _, new_at2 rfl _ _, below2 _ _, by simp, ((Reads.of_own HO.out).alloc (by simp) _ |>.alloc (by simp) _).more (by simp)⟩)
  have HOv := Lib.hid ((HO.out.alloc (Obj.cells #[Value.int IntKind.i64 now, Value.slice A n c] 49)).alloc (Obj.cells #[Value.int IntKind.i64 0, Value.slice none 0 0] 49))
  have hzv : ((w.alloc (Obj.cells #[Value.int IntKind.i64 now, Value.slice A n c] 49)).alloc (Obj.cells #[Value.int IntKind.i64 0, Value.slice none 0 0] 49)).heap.size = w.heap.size + 2 := by simp
  generalize (w.alloc (Obj.cells #[Value.int IntKind.i64 now, Value.slice A n c] 49)).alloc (Obj.cells #[Value.int IntKind.i64 0, Value.slice none 0 0] 49) = wv at *
  obtain ⟨B0, hB0⟩ : ∃ B0, w.heap.size = B0 := ⟨_, rfl⟩
  rw [hB0] at HI hzv ⊢
  have HB0 := Lib.hid hB0
  have HZV := Lib.hid hzv
  have c0 := HI.out.c0
  have c1 := HI.out.c1
  clear hB0 hzv HO
  go_loopw [7, 8] (fun be i wr => ∃ (m nd : Nat) (b : Int), m ≤ n ∧ i = .int .i64 ((m : Int) - 1) ∧ be = .int .i64 b ∧ IsBest ts u m n b ∧ wr = wv.drewN nd) (fun _ i _ => ((intOf i) + 1).toNat)
  case atStart => exact ⟨n, 0, -1, Nat.le_refl _, rfl, rfl, .inl ⟨rfl, fun i h1 h2 => absurd h2 (by omega)⟩, rfl⟩
  case round =>
    obtain ⟨m, nd, b, hm, rfl, rfl, hbest, rfl⟩ := hrel
    have HBe := Lib.hid hbest
    clear hbest
    rcases m with _ | m
    · have hi : ((0 : Nat) : Int) - 1 = -1 := by omega
      rw [hi]
      clear hi hm
      have hI : b = dueI ts u := best_eq (by rw [← HN.out]; exact HBe.out)
      have HD := Lib.hid hI
      have hcase : b = -1 ∨ ∃ j : Nat, b = (j : Int) ∧ j < n := by
        rcases HBe.out with ⟨h, _⟩ | ⟨j, h, _, h2, _⟩
        · exact .inl h
        · exact .inr ⟨j, h, h2⟩
      have HI2 := Lib.hid (HI.out.drewN nd)
      have HO2 := Lib.hid (show (wv.drewN nd).ownsRow base 96 2 (.slice A n c) n (tmv ts) from HOv.out)
      have hz2 : (wv.drewN nd).heap.size = B0 + 2 := HZV.out
      have hgl : ∀ g, (Value.slice A n c).ownBlock = some g → base ≤ g ∧ g < (wv.drewN nd).heap.size := fun g hg => HOv.out.lt g hg
      have HGL := Lib.hid hgl
      have HZ2 := Lib.hid hz2
      clear hI HBe HI HOv c0 c1 hgl hz2 HZV
      generalize wv.drewN nd = w2 at *
      have c0 := HI2.out.c0
      have c1 := HI2.out.c1
      have f0 := HI2.out.f0
      have f1 := HI2.out.f1
      have d0 := HI2.out.d0
      have d1 := HI2.out.d1
      have d2 := HI2.out.d2
      have d3 := HI2.out.d3
      rcases hcase with rfl | ⟨j, rfl, hj⟩
      · have E := Lib.hid (show dueW ts u = 0 ∧ dueB ts u = false ∧ dueN now ts u = now ∧ dueT ts u = ts by simp [dueW, dueB, dueN, dueT, ← HD.out])
        go_wp2
        (try simp only [Exit.inBlock, Exit.then])
        refine bodyPost_ret (v := .tuple #[.agg #[.int .i64 now, .slice A n c], .int .i64 0, .bool false]) (by simp [results, Try.results17, go_sem, d0, d1]) rfl ?_
        rw [E.out.1, E.out.2.1, E.out.2.2.1, E.out.2.2.2]
        have hb := HI2.out.2.2.1
        refine ⟨_, rfl, ⟨A, c, by rw [← HN.out], ?_⟩, ?_⟩
        · rw [← HN.out]
          exact (HO2.out.kept (grown_put _ _ _ _) (own_apart HO2.out HI2.out.2.1)).kept (grown_put _ _ _ _) (own_apart HO2.out HI2.out.2.1)
        · rw [HB0.out]
          exact (hb.setCell (by simp) _).setCell (by simp) _
      · have E := Lib.hid (show dueW ts u = t2 ts j ∧ dueB ts u = true ∧ dueN now ts u = max now (t1 ts j) ∧ dueT ts u = ts.eraseIdx j by simp [dueW, dueB, dueN, dueT, ← HD.out, show ¬ (j : Int) < 0 by omega])
        obtain ⟨g, hA⟩ : ∃ g, A = some ⟨g, 0, none⟩ := by
          rcases HO2.out.2 with ⟨h, h0⟩ | ⟨g, cap, cur, h, _⟩
          · omega
          · injection h with h
            exact ⟨g, h⟩
        subst hA
        obtain ⟨j0, j1⟩ := HI2.out.at_ HN.out hj
        go_wp2
        have HI3 := Lib.hid (HI2.out.alloc (Obj.cells #[.int .i64 (t1 ts j), .int .i64 (t2 ts j)] 96))
        have HQ := Lib.hid (new_at HZ2.out (Obj.cells #[.int .i64 (t1 ts j), .int .i64 (t2 ts j)] 96))
        have hz3 : (w2.alloc (Obj.cells #[.int .i64 (t1 ts j), .int .i64 (t2 ts j)] 96)).heap.size = B0 + 3 := by simp [HZ2.out]
        have hz2 := HZ2.out
        rw [hz2]
        have HZ3 := Lib.hid hz3
        clear hz2 hz3 c0 c1 f0 f1 d0 d1 d2 d3 j0 j1 HI2 HO2 HGL
        generalize w2.alloc (Obj.cells #[.int .i64 (t1 ts j), .int .i64 (t2 ts j)] 96) = w3 at *
        have hw3 : w3.ownsRow (B0 + 3) 96 2 (.slice none ((ts.take 0).eraseIdx j).length 0) ((ts.take 0).eraseIdx j).length (tmv ((ts.take 0).eraseIdx j)) := by simp [tmv]; exact World.ownsRow_nil _ _ _ _
        go_loopw [10, 11] (fun v i wr => ∃ (k : Nat) (A' : Option Addr) (c' : Nat), k ≤ n ∧ i = .int .i64 k ∧ v = .slice A' ((ts.take k).eraseIdx j).length c' ∧ wr.ownsRow (B0 + 3) 96 2 (.slice A' ((ts.take k).eraseIdx j).length c') ((ts.take k).eraseIdx j).length (tmv ((ts.take k).eraseIdx j)) ∧ SInv w B0 (some ⟨g, 0, none⟩) n c now ts wr ∧ wr.heap[B0 + 2]? = some (.cells #[.int .i64 (t1 ts j), .int .i64 (t2 ts j)] 96 (0, 0)) ∧ B0 + 3 ≤ wr.heap.size) (fun _ i _ => n - (intOf i).toNat)
        case atStart => exact ⟨0, none, 0, by omega, rfl, by simp, hw3, HI3.out, HQ.out, by rw [HZ3.out]; exact Nat.le_refl _⟩
        case round =>
          obtain ⟨k, A', c', hk, rfl, rfl, ho, hI, hq, hz⟩ := hrel
          have HO := Lib.hid ho
          have HI := Lib.hid hI
          have HQ := Lib.hid hq
          have c0 := hI.c0
          have c1 := hI.c1
          obtain ⟨L, hL⟩ : ∃ L, L = (ts.take k).eraseIdx j := ⟨_, rfl⟩
          rw [← hL] at HO ⊢
          have HL := Lib.hid hL
          clear ho hI hq hw3 HI3 hL
          by_cases hlt : k < n
          · by_cases hkj : k = j
            · have hne : ((k : Int) != (j : Int)) = false := by simp [hkj]
              have HS := Lib.hid (show (ts.take (k + 1)).eraseIdx j = L by rw [HL.out, hkj]; exact skip_self ts j (by rw [← HN.out]; exact hj))
              clear hkj
              generalize hLl : L.length = ll at *
              go_wp2
              exact ⟨⟨k + 1, A', c', by omega, by go_num, by rw [HS.out, hLl], by rw [HS.out, hLl]; exact HO.out, HI.out, HQ.out, hz⟩, by simp [intOf]; omega⟩
            · have hne : ((k : Int) != (j : Int)) = true := by rw [bne_iff_ne]; omega
              have HS := Lib.hid (show (ts.take (k + 1)).eraseIdx j = L ++ [(t1 ts k, t2 ts k)] by rw [HL.out]; exact skip_other ts j k (by rw [← HN.out]; exact hlt) hkj)
              have hll : L.length ≤ 64 := by
                rw [HL.out]
                have h1 := List.length_eraseIdx_le (ts.take k) j
                have h2 : (ts.take k).length ≤ k := List.length_take_le _ _
                omega
              obtain ⟨k0, k1⟩ := HI.out.at_ HN.out hlt
              generalize t1 ts k = x at *
              generalize t2 ts k = y at *
              clear hkj
              generalize hLl : L.length = ll at *
              have HLl := Lib.hid hLl
              clear hLl
              go_wp2_with (at_builtin; refine wl_app TRm rfl (.tmp 66) (.tmp 72) rfl (.slice A' ll c') rfl (some ⟨wr.heap.size, 0, none⟩) 1 1 rfl (B0 + 3) ll (tmv L) ?c1 (wr.heap.size + 1) [.int .i64 x, .int .i64 y] ?c2 ?c3 ?c4 ?c5 ?c6 ?c7)
              case c1 => exact HO.out.alloc _
              case c2 => exact Reads.lit _ _ [.int .i64 x, .int .i64 y] 1 2 rfl _ (by simp)
              case c3 => simp [Value.oneCell']
              case c4 => omega
              case c5 => omega
              case c6 => simp; omega
              case c7 =>
                intro A2 c2 w4 hown2 hg2 _
                have HO2 := Lib.hid hown2
                have HI4 := Lib.hid ((HI.out.alloc (Obj.cells #[.int .i64 x, .int .i64 y] 96)).grown hg2 (fun p hp => by have := (HO.out.lt p hp).1; omega))
                have HQ4 := Lib.hid (show w4.heap[B0 + 2]? = some (.cells #[.int .i64 (t1 ts j), .int .i64 (t2 ts j)] 96 (0, 0)) by
                  rw [hg2.block (B0 + 2) (by simp; omega) (fun e => by have := (HO.out.lt _ e.symm).1; omega), heap_alloc_old _ _ (by omega)]
                  exact HQ.out)
                have hz4 : B0 + 3 ≤ w4.heap.size := by have := hg2.size; simp at this; omega
                clear hown2 hg2 k0 k1 c0 c1
                go_wp2
                refine ⟨⟨k + 1, A2, c2, by omega, by go_num, ?_, ?_, HI4.out, HQ4.out, hz4⟩, by simp [intOf]; omega⟩
                · rw [HS.out, List.length_append, HLl.out]
                  rfl
                · rw [HS.out, List.length_append, HLl.out, tmv_append]
                  exact HO2.out
          · obtain rfl : k = n := by omega
            have HLE := Lib.hid (show L = ts.eraseIdx j by rw [HL.out, List.take_of_length_le (by rw [← HN.out]; exact Nat.le_refl _)])
            have f0 := HI.out.f0
            have f1 := HI.out.f1
            have d0 := HI.out.d0
            have d1 := HI.out.d1
            have d2 := HI.out.d2
            have d3 := HI.out.d3
            have q0 : wr.cell? ⟨B0 + 2, 0, none⟩ = some (.int .i64 (t1 ts j)) := by rw [cell_of_row _ _ 0 _ _ _ HQ.out]; rfl
            have q1 : wr.cell? ⟨B0 + 2, 1, none⟩ = some (.int .i64 (t2 ts j)) := by rw [cell_of_row _ _ 1 _ _ _ HQ.out]; rfl
            generalize t1 ts j = x at *
            generalize t2 ts j = y at *
            generalize hLl : L.length = ll at *
            have HLl := Lib.hid hLl
            clear hLl HL
            by_cases hmx : now < x
            · have HM := Lib.hid (show max now x = x by omega)
              go_wp2
              have P0 : ((wr.setCell ⟨B0, 1, none⟩ (.slice A' ll c')).setCell ⟨B0, 0, none⟩ (.int .i64 x)).cell? ⟨B0, 0, none⟩ = some (.int .i64 x) := by go_simp
              have P1 : ((wr.setCell ⟨B0, 1, none⟩ (.slice A' ll c')).setCell ⟨B0, 0, none⟩ (.int .i64 x)).cell? ⟨B0, 1, none⟩ = some (.slice A' ll c') := by go_simp
              have D0 : ((wr.setCell ⟨B0, 1, none⟩ (.slice A' ll c')).setCell ⟨B0, 0, none⟩ (.int .i64 x)).cell? ⟨B0 + 1, 0, none⟩ = some (.int .i64 0) := by go_simp
              have D1 : ((wr.setCell ⟨B0, 1, none⟩ (.slice A' ll c')).setCell ⟨B0, 0, none⟩ (.int .i64 x)).cell? ⟨B0 + 1, 1, none⟩ = some (.slice none 0 0) := by go_simp
              have D2 : ((wr.setCell ⟨B0, 1, none⟩ (.slice A' ll c')).setCell ⟨B0, 0, none⟩ (.int .i64 x)).frozen? ⟨B0 + 1, 0, none⟩ = false := by go_simp
              have D3 : ((wr.setCell ⟨B0, 1, none⟩ (.slice A' ll c')).setCell ⟨B0, 0, none⟩ (.int .i64 x)).frozen? ⟨B0 + 1, 1, none⟩ = false := by go_simp
              have Q1 : ((wr.setCell ⟨B0, 1, none⟩ (.slice A' ll c')).setCell ⟨B0, 0, none⟩ (.int .i64 x)).cell? ⟨B0 + 2, 1, none⟩ = some (.int .i64 y) := by go_simp
              have HO5 := Lib.hid (show ((wr.setCell ⟨B0, 1, none⟩ (.slice A' ll c')).setCell ⟨B0, 0, none⟩ (.int .i64 x)).ownsRow (B0 + 3) 96 2 (.slice A' ll c') ll (tmv L) from (HO.out.kept (grown_put _ _ _ _) (rc_far HO.out (by omega))).kept (grown_put _ _ _ _) (rc_far HO.out (by omega)))
              have HB5 := Lib.hid (show Below B0 w ((wr.setCell ⟨B0, 1, none⟩ (.slice A' ll c')).setCell ⟨B0, 0, none⟩ (.int .i64 x)) from (HI.out.2.2.1.setCell (Nat.le_refl _) _).setCell (Nat.le_refl _) _)
              clear c0 c1 d0 d1 d2 d3 q0 q1 f0 f1
              generalize (wr.setCell ⟨B0, 1, none⟩ (.slice A' ll c')).setCell ⟨B0, 0, none⟩ (.int .i64 x) = w5 at *
              go_region
              all_goals
                go_wp2
                (try simp only [Exit.inBlock, Exit.then])
                refine bodyPost_ret (v := .tuple #[.agg #[.int .i64 x, .slice A' ll c'], .int .i64 y, .bool true]) (by simp [results, Try.results17, go_sem, D0, D1]) rfl ?_
                exact due_fin E.out HM.out HLE.out HLl.out HO5.out HB5.out HB0.out hbase
            · have HM := Lib.hid (show max now x = now by omega)
              go_wp2
              have P0 : (wr.setCell ⟨B0, 1, none⟩ (.slice A' ll c')).cell? ⟨B0, 0, none⟩ = some (.int .i64 now) := by go_simp
              have P1 : (wr.setCell ⟨B0, 1, none⟩ (.slice A' ll c')).cell? ⟨B0, 1, none⟩ = some (.slice A' ll c') := by go_simp
              have D0 : (wr.setCell ⟨B0, 1, none⟩ (.slice A' ll c')).cell? ⟨B0 + 1, 0, none⟩ = some (.int .i64 0) := by go_simp
              have D1 : (wr.setCell ⟨B0, 1, none⟩ (.slice A' ll c')).cell? ⟨B0 + 1, 1, none⟩ = some (.slice none 0 0) := by go_simp
              have D2 : (wr.setCell ⟨B0, 1, none⟩ (.slice A' ll c')).frozen? ⟨B0 + 1, 0, none⟩ = false := by go_simp
              have D3 : (wr.setCell ⟨B0, 1, none⟩ (.slice A' ll c')).frozen? ⟨B0 + 1, 1, none⟩ = false := by go_simp
              have Q1 : (wr.setCell ⟨B0, 1, none⟩ (.slice A' ll c')).cell? ⟨B0 + 2, 1, none⟩ = some (.int .i64 y) := by go_simp
              have HO5 := Lib.hid (show (wr.setCell ⟨B0, 1, none⟩ (.slice A' ll c')).ownsRow (B0 + 3) 96 2 (.slice A' ll c') ll (tmv L) from HO.out.kept (grown_put _ _ _ _) (rc_far HO.out (by omega)))
              have HB5 := Lib.hid (show Below B0 w (wr.setCell ⟨B0, 1, none⟩ (.slice A' ll c')) from HI.out.2.2.1.setCell (Nat.le_refl _) _)
              clear c0 c1 d0 d1 d2 d3 q0 q1 f0 f1
              generalize wr.setCell ⟨B0, 1, none⟩ (.slice A' ll c') = w5 at *
              go_region
              all_goals
                go_wp2
                (try simp only [Exit.inBlock, Exit.then])
                refine bodyPost_ret (v := .tuple #[.agg #[.int .i64 now, .slice A' ll c'], .int .i64 y, .bool true]) (by simp [results, Try.results17, go_sem, D0, D1]) rfl ?_
                exact due_fin E.out HM.out HLE.out HLl.out HO5.out HB5.out HB0.out hbase
    · have hi : ((m + 1 : Nat) : Int) - 1 = (m : Int) := by omega
      rw [hi]
      clear hi
      obtain ⟨g, hA⟩ : ∃ g, A = some ⟨g, 0, none⟩ := by
        rcases HOv.out.2 with ⟨h, h0⟩ | ⟨g, cap, cur, h, _⟩
        · omega
        · injection h with h
          exact ⟨g, h⟩
      subst hA
      have hrd : ∀ k, k < n → wv.cell? ⟨g, k * 2, none⟩ = some (.int .i64 (t1 ts k)) := fun k hk => by
        rw [HOv.out.cellAt _ (by omega)]
        exact (tmv_at ts k (by rw [← HN.out]; exact hk)).1
      have HRD := Lib.hid hrd
      have k0 := hrd m (by omega)
      clear hrd
      have HS := Lib.hid (best_down HBe.out (show m < n by omega))
      have i0 : (0 : Int) ≤ (m : Int) := by omega
      have i1 : (m : Int) < (n : Int) := by omega
      have hb0 : b = -1 ∨ ∃ j : Nat, b = (j : Int) ∧ j < n := by
        rcases HBe.out with ⟨h, _⟩ | ⟨j, h, _, h2, _⟩
        · exact .inl h
        · exact .inr ⟨j, h, h2⟩
      by_cases h1 : t1 ts m ≤ u
      · have d1 : decide (t1 ts m ≤ u) = true := by simpa using h1
        rcases hb0 with rfl | ⟨j, rfl, hj⟩
        · have HF := Lib.hid (show IsBest ts u m n (m : Int) by have := HS.out; rw [if_pos ⟨h1, .inl (by omega)⟩] at this; exact this)
          generalize t1 ts m = x at *
          clear HS HBe
          go_wp2
          go_quiet (fail)
          go_wp2
          exact ⟨⟨m, nd + nq, _, by omega, rfl, rfl, HF.out, rfl⟩, by simp [intOf]⟩
        · have j0 := HRD.out j hj
          have i2 : (0 : Int) ≤ (j : Int) := by omega
          have i3 : (j : Int) < (n : Int) := by omega
          have d2 : decide ((j : Int) < 0) = false := by simp
          by_cases h3 : t1 ts m ≤ t1 ts j
          · have HF := Lib.hid (show IsBest ts u m n (m : Int) by have := HS.out; rw [Int.toNat_natCast, if_pos ⟨h1, .inr h3⟩] at this; exact this)
            have d3 : decide (t1 ts m ≤ t1 ts j) = true := by simpa using h3
            generalize t1 ts m = x at *
            generalize t1 ts j = y at *
            clear HS HBe
            go_wp2
            go_quiet (fail)
            go_wp2
            exact ⟨⟨m, nd + nq, _, by omega, rfl, rfl, HF.out, rfl⟩, by simp [intOf]⟩
          · have HF := Lib.hid (show IsBest ts u m n (j : Int) by have := HS.out; rw [Int.toNat_natCast, if_neg (by omega)] at this; exact this)
            have d3 : decide (t1 ts m ≤ t1 ts j) = false := by simpa using h3
            generalize t1 ts m = x at *
            generalize t1 ts j = y at *
            clear HS HBe
            go_wp2
            go_quiet (fail)
            go_wp2
            exact ⟨⟨m, nd + nq, _, by omega, rfl, rfl, HF.out, rfl⟩, by simp [intOf]⟩
      · have d1 : decide (t1 ts m ≤ u) = false := by simpa using h1
        have HF := Lib.hid (show IsBest ts u m n b by have := HS.out; rw [if_neg (fun h => h1 h.1)] at this; exact this)
        generalize t1 ts m = x at *
        clear HS HBe
        go_wp2
        go_quiet (fail)
        go_wp2
        exact ⟨⟨m, nd + nq, _, by omega, rfl, rfl, HF.out, rfl⟩, by simp [intOf]⟩
end Go.Proofs.Ytcjpfjmmnnfieaa
