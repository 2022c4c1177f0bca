/-
  Contracts of code.sendable and bounded. Conditions: the numbers fit; the sizes that slices can have.
-/
import Derived.Test.YtkmcjjoicpgjfaaDoorCodeShaped
namespace Go.Proofs.YtkmcjjoicpgjfaaDoor
open Go Go.RowKit Go.Sh

set_option maxRecDepth 100000 in
set_option maxHeartbeats 2000000 in
theorem sendable_any (s : Snd) (A : Option Addr) (n c : Nat) (w : World) (B : Nat) (hr : RI w B A n s.rts) (hB : B ≤ w.heap.size) :
    Calls Tryd.prog 80 #[.agg #[.int .i64 s.msg, .slice A n c, .int .i64 s.blk]] w (fun e w' => e = .returned (.bool (sdB s)) ∧ Below w.heap.size w w') := by
  obtain ⟨msg, rts, blk⟩ := s
  have HB := Lib.hid ((Below.refl w.heap.size w).alloc (Nat.le_refl _) (.cells #[.int .i64 msg, .slice A n c, .int .i64 blk] 43))
  have HR := Lib.hid (hr.alloc hB (.cells #[.int .i64 msg, .slice A n c, .int .i64 blk] 43))
  have HL := Lib.hid (show rts.length = n from hr.len)
  have HS := Lib.hid (show sdB ⟨msg, rts, blk⟩ = (decide (1 ≤ rts.length) && decide (rts.length ≤ 8) && rts.all (fun r => wi r 0 63) && wi msg 0 63 && wi blk (-1) 15) from rfl)
  have hc0 : (w.alloc (.cells #[.int .i64 msg, .slice A n c, .int .i64 blk] 43)).cell? ⟨w.heap.size, 0, none⟩ = some (.int .i64 msg) := by rw [blk_cell (heap_alloc_new w _)]; rfl
  have hc1 : (w.alloc (.cells #[.int .i64 msg, .slice A n c, .int .i64 blk] 43)).cell? ⟨w.heap.size, 1, none⟩ = some (.slice A n c) := by rw [blk_cell (heap_alloc_new w _)]; rfl
  have hc2 : (w.alloc (.cells #[.int .i64 msg, .slice A n c, .int .i64 blk] 43)).cell? ⟨w.heap.size, 2, none⟩ = some (.int .i64 blk) := by rw [blk_cell (heap_alloc_new w _)]; rfl
  rw [HL.out] at HS
  generalize sdB ⟨msg, rts, blk⟩ = r at *
  show Calls _ _ #[.agg #[.int .i64 msg, .slice A n c, .int .i64 blk]] _ _
  clear hr
  go_enter Tryd.func80, Tryd.ntmps80
  go_wp2_with fail
  generalize w.alloc (.cells #[.int .i64 msg, .slice A n c, .int .i64 blk] 43) = w1 at *
  refine (within_any (n : Int) 1 8 w1).mono ?_
  rintro e w2 ⟨rfl, rfl⟩
  by_cases hn8 : 1 ≤ n ∧ n ≤ 8
  · have e8 : wi (n : Int) 1 8 = true := by unfold wi; rw [decide_eq_true (by omega), decide_eq_true (by omega)]; rfl
    have hr : r = (rts.all (fun r => wi r 0 63) && wi msg 0 63 && wi blk (-1) 15) := by rw [HS.out, decide_eq_true hn8.1, decide_eq_true hn8.2]; rfl
    rw [e8]
    clear HS e8
    have HRR := Lib.hid hr
    clear hr
    go_wp2_with fail
    go_loopw [4, 13] (fun _ i wr => ∃ k : Nat, k ≤ n ∧ i = .int .i64 (k : Int) ∧ wr = w1 ∧ ∀ j, j < k → wi (it rts j) 0 63 = true) (fun _ i _ => n - (intOf i).toNat)
    case atStart => exact ⟨0, by omega, rfl, rfl, fun j hj => absurd hj (by omega)⟩
    case round =>
      obtain ⟨k, hk, rfl, rfl, hall⟩ := hrel
      have HA := Lib.hid hall
      clear hall
      by_cases hlt : k < n
      · have dk : (k : Int) < (n : Int) := by omega
        obtain ⟨ad, rfl, _, hcell, _⟩ := HR.out.at_ hlt
        go_wp2_with fail
        refine (within_any (it rts k) 0 63 wr).mono ?_
        rintro e w2 ⟨rfl, rfl⟩
        rcases Bool.eq_false_or_eq_true (wi (it rts k) 0 63) with h | h
        · rw [h]
          have HH := Lib.hid h
          clear h
          go_wp2_with fail
          refine ⟨⟨k + 1, by omega, by go_num, by first | trivial | rfl, fun j hj => ?_⟩, by simp [intOf]; omega⟩
          by_cases hjk : j = k
          · subst hjk; exact HH.out
          · exact HA.out j (by omega)
        · have e9 : rts.all (fun r => wi r 0 63) = false := all_not (k := k) (x := it rts k) (by unfold it; rw [List.getD_eq_getElem?_getD, List.getElem?_eq_getElem (by rw [HL.out]; exact hlt)]; rfl) h
          have hr := HRR.out
          rw [e9] at hr
          rw [h]
          clear e9 h
          go_wp2_with fail
          go_ret
          exact ⟨by rw [hr]; rfl, HB.out⟩
      · obtain rfl : k = n := by omega
        have e9 : rts.all (fun r => wi r 0 63) = true := all_upto fun j x hj hx => by
          have := HA.out j (by rw [← HL.out]; exact hj)
          unfold it at this
          rw [List.getD_eq_getElem?_getD, hx] at this
          exact this
        have hr := HRR.out
        rw [e9, Bool.true_and] at hr
        clear e9
        go_wp2_with fail
        refine (within_any msg 0 63 wr).mono ?_
        rintro e w2 ⟨rfl, rfl⟩
        rcases Bool.eq_false_or_eq_true (wi msg 0 63) with h | h
        · rw [h] at hr ⊢
          clear h
          go_wp2_with fail
          refine (within_any blk (-1) 15 wr).mono ?_
          rintro e w2 ⟨rfl, rfl⟩
          go_wp2_with fail
          go_ret
          exact ⟨by rw [hr]; rfl, HB.out⟩
        · rw [h] at hr ⊢
          go_wp2_with fail
          go_ret
          exact ⟨by rw [hr]; rfl, HB.out⟩
  · have e8 : wi (n : Int) 1 8 = false := by
      rw [Bool.eq_false_iff]
      intro h
      unfold wi at h
      rw [Bool.and_eq_true, decide_eq_true_eq, decide_eq_true_eq] at h
      omega
    have hr : r = false := by
      rw [HS.out, show (decide (1 ≤ n) && decide (n ≤ 8)) = false by
        rw [Bool.eq_false_iff]; intro h; rw [Bool.and_eq_true, decide_eq_true_eq, decide_eq_true_eq] at h; exact hn8 h]
      rfl
    rw [e8]
    clear e8 hn8 HS
    go_wp2_with fail
    go_ret
    exact ⟨by rw [hr]; rfl, HB.out⟩

set_option maxRecDepth 100000 in
set_option maxHeartbeats 2000000 in
theorem bounded_any (d : Pad) (p : Prg) (w : World) (h1 : p.code.length = d.n1) (h2 : p.msgs.length = d.n2) (h3 : p.rts.length = d.n3) (h4 : p.snds.length = d.n4) :
    Calls Tryd.prog 69 #[.agg (pcs d p)] w (fun e w' => e = .returned (.bool (bdB p)) ∧ Below w.heap.size w w') := by
  have HS := Lib.hid (show bdB p = (decide (d.n1 ≤ 4000) && decide (d.n2 ≤ 64) && decide (d.n3 ≤ 64) && decide (d.n4 ≤ 64) && wi p.vars 0 64 && wi p.stack 0 64 && wi p.blocks 0 16 && wi p.fuel 0 1000000) by unfold bdB; rw [h1, h2, h3, h4])
  have HP := Lib.hid (show (pcs d p) = #[.slice d.A1 d.n1 d.c1, .slice d.A2 d.n2 d.c2, .slice d.A3 d.n3 d.c3, .slice d.A4 d.n4 d.c4, .int .i64 p.vars, .int .i64 p.stack, .int .i64 p.blocks, .int .i64 p.fuel] from rfl)
  have HB := Lib.hid ((Below.refl w.heap.size w).alloc (Nat.le_refl _) (.cells (pcs d p) 30))
  have HC := Lib.hid (show ∀ (k : Nat) v, (pcs d p)[k]? = some v → (w.alloc (.cells (pcs d p) 30)).cell? ⟨w.heap.size, k, none⟩ = some v from fun k v hv => by rw [blk_cell (heap_alloc_new w _)]; exact hv)
  have hc0 := HC.out 0 (.slice d.A1 d.n1 d.c1) rfl
  have hc1 := HC.out 1 (.slice d.A2 d.n2 d.c2) rfl
  have hc2 := HC.out 2 (.slice d.A3 d.n3 d.c3) rfl
  have hc3 := HC.out 3 (.slice d.A4 d.n4 d.c4) rfl
  have hc4 := HC.out 4 (.int .i64 p.vars) rfl
  have hc5 := HC.out 5 (.int .i64 p.stack) rfl
  have hc6 := HC.out 6 (.int .i64 p.blocks) rfl
  have hc7 := HC.out 7 (.int .i64 p.fuel) rfl
  have hps : (pcs d p).size = 8 := rfl
  generalize bdB p = r at *
  clear h1 h2 h3 h4 HC HP
  obtain ⟨A1, n1, k1, A2, n2, k2, A3, n3, k3, A4, n4, k4⟩ := d
  obtain ⟨_, _, _, _, v, s, b, f⟩ := p
  generalize hX : pcs _ _ = X at *
  have hxe : ¬ X = #[] := by intro h; rw [h] at hps; cases hps
  clear hX
  simp only at *
  by_cases ok : n1 ≤ 4000 ∧ n2 ≤ 64 ∧ n3 ≤ 64 ∧ n4 ≤ 64
  · obtain ⟨o1, o2, o3, o4⟩ := ok
    have hr : r = (wi v 0 64 && wi s 0 64 && wi b 0 16 && wi f 0 1000000) := by
      rw [HS.out, decide_eq_true o1, decide_eq_true o2, decide_eq_true o3, decide_eq_true o4]; rfl
    clear HS
    have d1 : ¬ (4000 : Int) < (n1 : Int) := by omega
    have d2 : ¬ (64 : Int) < (n2 : Int) := by omega
    have d3 : ¬ (64 : Int) < (n3 : Int) := by omega
    have d4 : ¬ (64 : Int) < (n4 : Int) := by omega
    clear o1 o2 o3 o4
    have HRR := Lib.hid hr
    clear hr
    go_enter Tryd.func69, Tryd.ntmps69
    go_wp2_with fail
    generalize w.alloc (.cells X 30) = w1 at *
    refine (within_any v 0 64 w1).mono ?_
    rintro e w2 ⟨rfl, rfl⟩
    have hr := HRR.out
    clear HRR
    rcases Bool.eq_false_or_eq_true (wi v 0 64) with h | h
    · rw [h] at hr ⊢
      have HRR := Lib.hid hr
      clear h hr
      go_wp2_with fail
      refine (within_any s 0 64 w1).mono ?_
      rintro e w2 ⟨rfl, rfl⟩
      have hr := HRR.out
      clear HRR
      rcases Bool.eq_false_or_eq_true (wi s 0 64) with h | h
      · rw [h] at hr ⊢
        have HRR := Lib.hid hr
        clear h hr
        go_wp2_with fail
        refine (within_any b 0 16 w1).mono ?_
        rintro e w2 ⟨rfl, rfl⟩
        have hr := HRR.out
        clear HRR
        rcases Bool.eq_false_or_eq_true (wi b 0 16) with h | h
        · rw [h] at hr ⊢
          have HRR := Lib.hid hr
          clear h hr
          go_wp2_with fail
          refine (within_any f 0 1000000 w1).mono ?_
          rintro e w2 ⟨rfl, rfl⟩
          have hr := HRR.out
          clear HRR
          go_wp2_with fail
          go_ret
          exact ⟨by rw [hr]; rfl, HB.out⟩
        · rw [h] at hr ⊢
          clear h
          go_wp2_with fail
          go_ret
          exact ⟨by rw [hr]; rfl, HB.out⟩
      · rw [h] at hr ⊢
        clear h
        go_wp2_with fail
        go_ret
        exact ⟨by rw [hr]; rfl, HB.out⟩
    · rw [h] at hr ⊢
      clear h
      go_wp2_with fail
      go_ret
      exact ⟨by rw [hr]; rfl, HB.out⟩
  · have hr : r = false := by
      rw [HS.out, show (decide (n1 ≤ 4000) && decide (n2 ≤ 64) && decide (n3 ≤ 64) && decide (n4 ≤ 64)) = false by
        rw [Bool.eq_false_iff]; intro h; simp only [Bool.and_eq_true, decide_eq_true_eq] at h; exact ok ⟨h.1.1.1, h.1.1.2, h.1.2, h.2⟩]
      rfl
    clear HS
    have OK := Lib.hid ok
    have HRR := Lib.hid hr
    clear ok hr
    go_enter Tryd.func69, Tryd.ntmps69
    go_wp2_with fail
    all_goals first
      | (exfalso; have := OK.out; omega)
      | (go_ret; exact ⟨by rw [HRR.out]; rfl, HB.out⟩)
end Go.Proofs.YtkmcjjoicpgjfaaDoor
