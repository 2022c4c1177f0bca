/-
  Contracts of code.named and routed. Conditions: the numbers fit; the sizes that slices can have.
-/
import Derived.Test.YtkmcjjoicpgjfaaDoorCodeSend
import Derived.Test.YtkmcjjoicpgjfaaDoorDirCheck
import Derived.Test.YtkmcjjoicpgjfaaDoorDirWords
namespace Go.Proofs.YtkmcjjoicpgjfaaDoor
open Go Go.RowKit Go.Sh
open Classical

/-- a node with this name -/
def nHop (s : ByteArray) : Hp := ⟨s, 1, List.replicate 64 (.int .u8 0), 0, 0⟩
theorem nHop_ok (s : ByteArray) : (nHop s).OK :=
  ⟨⟨by show (0 : Int) ≤ 1; decide, by show (1 : Int) < 18446744073709551616; decide⟩, by simp [nHop], fun v hv => by rw [List.eq_of_mem_replicate hv]; rfl, ⟨by show (-9223372036854775808 : Int) ≤ 0; decide, by show (0 : Int) ≤ 9223372036854775807; decide⟩, ⟨by show (-9223372036854775808 : Int) ≤ 0; decide, by show (0 : Int) ≤ 9223372036854775807; decide⟩⟩
set_option maxRecDepth 100000 in
theorem nHop_lit (s : ByteArray) : Tryd.prog.built 149 [(0, .string s), (1, .int .u64 1)] = some (nHop s).node.toArray := by kernel_rfl
/-- is a name in form? -/
noncomputable def nmB (s : ByteArray) : Bool := decide (wfN s)
theorem chk_named (s : ByteArray) : chkN [nHop s] = if nmB s = true then 0 else 3 := by
  unfold chkN
  rw [if_neg (show ¬ 64 < ([nHop s] : List Hp).length from by show ¬ 64 < 1; decide)]
  by_cases h : wfN s
  · rw [if_pos (show nmB s = true from decide_eq_true h), if_neg, if_neg]
    · rintro ⟨i, j, hj, hi, _⟩
      have : i < 1 := hi
      omega
    · rintro ⟨i, hi, hb⟩
      have h0 : i = 0 := by have : i < 1 := hi; omega
      subst h0
      rcases hb with hb | hb
      · exact absurd hb (show ¬ (1 : Int) = 0 by decide)
      · exact hb h
  · rw [if_neg (show ¬ nmB s = true by unfold nmB; rw [decide_eq_false h]; decide), if_pos]
    exact ⟨0, Nat.zero_lt_one, .inr h⟩
set_option maxRecDepth 100000 in
set_option maxHeartbeats 1000000 in
theorem named_is (s : ByteArray) (w : World) : Calls Tryd.prog 88 #[.string s] w (fun e w' => e = .returned (.bool (nmB s)) ∧ Below w.heap.size w w') := by
  have HND := Lib.hid (nHop_lit s)
  have HZS := Lib.hid (show (nHop s).node.toArray.size = 66 by rw [List.size_toArray, Hp.node_len (nHop_ok s)])
  have HW1 := Lib.hid ((Below.refl w.heap.size w).alloc (Nat.le_refl _) (.cells (nHop s).node.toArray 149))
  have HZR := Lib.hid (show RR (w.alloc (.cells (nHop s).node.toArray 149)) (w.heap.size + 1) 66 (some ⟨w.heap.size, 0, none⟩) 1 ([nHop s].map Hp.node) from
    ⟨rfl, fun cs hcs => by rw [List.mem_singleton.1 hcs]; exact Hp.node_len (nHop_ok s), .inr ⟨_, 0, rfl, Nat.lt_succ_self _, fun i cs hc => by
      cases i with
      | zero => obtain rfl : (nHop s).node = cs := by simpa using hc
                exact blk_range (heap_alloc_new w _)
      | succ i => simp at hc⟩⟩)
  have HCK := Lib.hid (chk_named s)
  obtain ⟨zc, hzc⟩ : ∃ zc, (nHop s).node.toArray = zc := ⟨_, rfl⟩
  rw [hzc] at HND HZS HW1 HZR
  clear hzc
  generalize nmB s = r at *
  go_enter Tryd.func88, Tryd.ntmps88
  go_wp2_with (first | (refine wl_lit (by rfl) 149 [(0, .tmp 3), (1, .const (.int .u64 1))] rfl [(0, .string s), (1, .int .u64 1)] rfl zc HND.out ?_) | (refine wl_bs1 TND rfl (.tmp 4) rfl zc rfl HZS.out (by decide) ?_))
  refine (DirCheck_any _ 1 1 [nHop s] _ _ HZR.out (fun h hh => by rw [List.mem_singleton.1 hh]; exact nHop_ok s) (by decide)).mono ?_
  rw [HCK.out]
  rintro e w2 ⟨rfl, md, rfl⟩
  have HB2 := Lib.hid (below_drewN HW1.out md)
  clear HW1 HZR
  generalize (w.alloc (.cells zc 149)).drewN md = w2 at *
  cases r with
  | true =>
    rw [if_pos rfl]
    go_wp2_with fail
    go_ret
    exact ⟨rfl, HB2.out⟩
  | false =>
    rw [if_neg (by decide)]
    go_wp2_with fail
    go_ret
    exact ⟨rfl, HB2.out⟩
/-- is a stop in form? -/
noncomputable def stB (s : Sp) : Bool := nmB s.nm && wi s.dl 0 1000000 && wi s.fl 0 255
noncomputable def rtB (ss : List Sp) : Bool := decide (1 ≤ ss.length) && decide (ss.length ≤ 5) && ss.all stB
set_option maxRecDepth 100000 in
set_option maxHeartbeats 2000000 in
theorem routed_any (ss : List Sp) (A : Option Addr) (n c : Nat) (w : World) (B : Nat) (hr : RR w B 3 A n (ss.map Sp.cells)) (hB : B ≤ w.heap.size) :
    Calls Tryd.prog 79 #[.slice A n c] w (fun e w' => e = .returned (.bool (rtB ss)) ∧ Below w.heap.size w w') := by
  have HR := Lib.hid hr
  have HL := Lib.hid (show ss.length = n by rw [← hr.len, List.length_map])
  have HS := Lib.hid (show rtB ss = (decide (1 ≤ n) && decide (n ≤ 5) && ss.all stB) by unfold rtB; rw [HL.out])
  generalize rtB ss = r at *
  clear hr
  go_enter Tryd.func79, Tryd.ntmps79
  go_wp2_with fail
  refine (within_any (n : Int) 1 5 w).mono ?_
  rintro e w2 ⟨rfl, rfl⟩
  by_cases hn8 : 1 ≤ n ∧ n ≤ 5
  · have e8 : wi (n : Int) 1 5 = true := by unfold wi; rw [decide_eq_true (by omega), decide_eq_true (by omega)]; rfl
    have hr : r = ss.all stB := by rw [HS.out, decide_eq_true hn8.1, decide_eq_true hn8.2]; rfl
    rw [e8]
    have hn : n ≤ 140737488355328 := by omega
    clear HS e8 hn8
    have HRR := Lib.hid hr
    clear hr
    go_wp2_with fail
    go_loopw [4, 11] (fun _ i wr => ∃ k : Nat, k ≤ n ∧ i = .int .i64 (k : Int) ∧ Below w.heap.size w wr ∧ ∀ j, j < k → stB (sat ss j) = true) (fun _ i _ => n - (intOf i).toNat)
    case atStart => exact ⟨0, by omega, rfl, Below.refl _ _, fun j hj => absurd hj (by omega)⟩
    case round =>
      obtain ⟨k, hk, rfl, hb, hall⟩ := hrel
      have HA := Lib.hid hall
      have HBr := Lib.hid hb
      have hz := hb.size
      clear hall hb
      by_cases hlt : k < n
      · have dk : (k : Int) < (n : Int) := by omega
        obtain ⟨b, off, rfl, _, c0, c1, c2⟩ := stop_at (HR.out.below (HBr.out.mono hB)) hlt
        have HSX := Lib.hid (sat_eq (ss := ss) (k := k) (by rw [HL.out]; exact hlt))
        have HST := Lib.hid (show stB (sat ss k) = (nmB (sat ss k).nm && wi (sat ss k).dl 0 1000000 && wi (sat ss k).fl 0 255) from rfl)
        have HSY := Lib.hid (show ∀ b : Bool, stB (sat ss k) = b → (b = true → ∀ j, j < k + 1 → stB (sat ss j) = true) ∧ (b = false → ss.all stB = false) from fun b hb => by
          refine ⟨fun e j hj => ?_, fun e => ?_⟩
          · by_cases hjk : j = k
            · subst hjk; rw [hb, e]
            · exact HA.out j (by omega)
          · exact all_not HSX.out (by rw [hb, e]))
        clear HSX
        generalize sat ss k = st at *
        obtain ⟨nm, dl, fl⟩ := st
        simp only at c0 c1 c2 HST
        go_wp2_with fail
        have hb1 := (Below.refl wr.heap.size wr).alloc (Nat.le_refl _) (.cells #[.string nm, .int .i64 dl, .int .i64 fl] 66)
        have hz1 : (wr.alloc (.cells #[.string nm, .int .i64 dl, .int .i64 fl] 66)).heap.size = wr.heap.size + 1 := by simp
        have hd1 : (wr.alloc (.cells #[.string nm, .int .i64 dl, .int .i64 fl] 66)).cell? ⟨wr.heap.size, 1, none⟩ = some (.int .i64 dl) := by rw [blk_cell (heap_alloc_new wr _)]; rfl
        have hd2 : (wr.alloc (.cells #[.string nm, .int .i64 dl, .int .i64 fl] 66)).cell? ⟨wr.heap.size, 2, none⟩ = some (.int .i64 fl) := by rw [blk_cell (heap_alloc_new wr _)]; rfl
        have HB1 := Lib.hid (HBr.out.trans (hb1.mono hz))
        clear hb1 c0 c1 c2
        generalize wr.alloc (.cells #[.string nm, .int .i64 dl, .int .i64 fl] 66) = wa at *
        refine (named_is nm wa).mono ?_
        rintro e wb ⟨rfl, hbb⟩
        have f1 := (hbb.cell (p := ⟨wr.heap.size, 1, none⟩) (by show wr.heap.size < _; omega)).trans hd1
        have f2 := (hbb.cell (p := ⟨wr.heap.size, 2, none⟩) (by show wr.heap.size < _; omega)).trans hd2
        have HBB := Lib.hid (HB1.out.trans (hbb.mono (by omega)))
        clear hbb hd1 hd2 HB1
        rcases Bool.eq_false_or_eq_true (nmB nm) with h | h
        · rw [h] at HST ⊢
          clear h
          go_wp2_with fail
          refine (within_any dl 0 1000000 wb).mono ?_
          rintro e w2 ⟨rfl, rfl⟩
          rcases Bool.eq_false_or_eq_true (wi dl 0 1000000) with h | h
          · rw [h] at HST ⊢
            clear h
            go_wp2_with fail
            refine (within_any fl 0 255 wb).mono ?_
            rintro e w2 ⟨rfl, rfl⟩
            rcases Bool.eq_false_or_eq_true (wi fl 0 255) with h | h
            · rw [h] at HST ⊢
              clear h
              have HG := Lib.hid ((HSY.out true HST.out).1 rfl)
              clear HSY HST
              go_wp2_with fail
              refine ⟨⟨k + 1, by omega, by go_num, HBB.out, HG.out⟩, by simp [intOf]; omega⟩
            · rw [h] at HST ⊢
              clear h
              have hr := HRR.out
              rw [(HSY.out false HST.out).2 rfl] at hr
              clear HSY HST
              go_wp2_with fail
              go_ret
              exact ⟨by rw [hr]; rfl, HBB.out⟩
          · rw [h] at HST ⊢
            clear h
            have hr := HRR.out
            rw [(HSY.out false HST.out).2 rfl] at hr
            clear HSY HST
            go_wp2_with fail
            go_ret
            exact ⟨by rw [hr]; rfl, HBB.out⟩
        · rw [h] at HST ⊢
          clear h
          have hr := HRR.out
          rw [(HSY.out false HST.out).2 rfl] at hr
          clear HSY HST
          go_wp2_with fail
          go_ret
          exact ⟨by rw [hr]; rfl, HBB.out⟩
      · obtain rfl : k = n := by omega
        have hr := HRR.out
        rw [show ss.all stB = true from all_upto fun j x hj hx => by
          have := HA.out j (by rw [← HL.out]; exact hj)
          rw [sat_eq hj] at hx
          rw [← Option.some.inj hx]
          exact this] at hr
        go_wp2_with fail
        go_ret
        exact ⟨by rw [hr]; rfl, HBr.out⟩
  · have e8 : wi (n : Int) 1 5 = false := by
      rw [Bool.eq_false_iff]
      intro h
      unfold wi at h
      rw [Bool.and_eq_true, decide_eq_true_eq, decide_eq_true_eq] at h
      omega
    have hr : r = false := by
      rw [HS.out, show (decide (1 ≤ n) && decide (n ≤ 5)) = false by
        rw [Bool.eq_false_iff]; intro h; rw [Bool.and_eq_true, decide_eq_true_eq, decide_eq_true_eq] at h; exact hn8 h]
      rfl
    rw [e8]
    clear e8 hn8 HS
    go_wp2_with fail
    go_ret
    exact ⟨by rw [hr]; rfl, Below.refl _ _⟩
end Go.Proofs.YtkmcjjoicpgjfaaDoor
