/-
  Contracts of shallotref18.SameInts, SameStops, SameSpec at equal rows: true. Conditions: the sizes that slices can have.
-/
import Derived.Test.YtkmcjjoicpgjfaaDoorVerOwn
import Derived.Test.YtkmcjjoicpgjfaaDoorLists
namespace Go.Proofs.YtkmcjjoicpgjfaaDoor
open Go Go.RowKit Go.Sh

/-- true is handed back; only draws -/
def OnlyTrue (w : World) (e : Ending) (w' : World) : Prop := e = .returned (.bool true) ∧ ∃ d, w' = w.drewN d
set_option maxHeartbeats 2000000 in
set_option maxRecDepth 100000 in
theorem SameInts_eq (A A' : Option Addr) (n c c' : Nat) (l : List Int) (w : World) (B B' : Nat) (hl : RI w B A n l) (hr : RI w B' A' n l) (hn : n ≤ 140737488355328) :
    Calls Tryd.prog 61 #[.slice A n c, .slice A' n c'] w (OnlyTrue w) := by
  have HL := Lib.hid hl
  have HR := Lib.hid hr
  clear hl hr
  have dnn : ((n : Int) != (n : Int)) = false := by simp
  go_enter Tryd.func61, Tryd.ntmps61
  go_wp2_with fail
  go_loopw [5] (fun i wr => ∃ k d : Nat, k ≤ n ∧ i = .int .i64 (k : Int) ∧ wr = w.drewN d) (fun i _ => n - (intOf i).toNat)
  case atStart => exact ⟨0, 0, by omega, rfl, rfl⟩
  case round =>
    obtain ⟨k, d, hk, rfl, rfl⟩ := hrel
    by_cases hlt : k < n
    · obtain ⟨ad, rfl, _, he, _⟩ := HL.out.at_ hlt
      obtain ⟨ad', rfl, _, he', _⟩ := HR.out.at_ hlt
      have hki : (k : Int) < (n : Int) := by omega
      generalize it l k = x at *
      have hxx : (x != x) = false := by simp
      go_wp2_with fail
      go_quiet (fail)
      go_wp2_with fail
      exact ⟨⟨k + 1, d + nq, by omega, by go_num, by first | rfl | simp⟩, by simp [intOf]; omega⟩
    · go_wp2_with fail
      go_ret
      exact ⟨rfl, d, rfl⟩
set_option maxHeartbeats 2000000 in
set_option maxRecDepth 100000 in
theorem SameStops_eq (A A' : Option Addr) (n c c' : Nat) (l : List Sp) (w : World) (B B' : Nat) (hl : RR w B 3 A n (l.map Sp.cells)) (hr : RR w B' 3 A' n (l.map Sp.cells)) (hn : n ≤ 140737488355328) :
    Calls Tryd.prog 36 #[.slice A n c, .slice A' n c'] w (OnlyTrue w) := by
  have HL := Lib.hid hl
  have HR := Lib.hid hr
  clear hl hr
  have dnn : ((n : Int) != (n : Int)) = false := by simp
  go_enter Tryd.func36, Tryd.ntmps36
  go_wp2_with fail
  go_loopw [5] (fun i wr => ∃ k d : Nat, k ≤ n ∧ i = .int .i64 (k : Int) ∧ wr = w.drewN d) (fun i _ => n - (intOf i).toNat)
  case atStart => exact ⟨0, 0, by omega, rfl, rfl⟩
  case round =>
    obtain ⟨k, d, hk, rfl, rfl⟩ := hrel
    by_cases hlt : k < n
    · obtain ⟨b, o, rfl, _, e0, e1, e2⟩ := stop_at HL.out hlt
      obtain ⟨b', o', rfl, _, f0, f1, f2⟩ := stop_at HR.out hlt
      have hki : (k : Int) < (n : Int) := by omega
      generalize sat l k = st at *
      obtain ⟨nm, dl, fl⟩ := st
      simp only at e0 e1 e2 f0 f1 f2
      go_wp2_with fail
      go_quiet (fail)
      go_wp2_with fail
      exact ⟨⟨k + 1, d + nq, by omega, by go_num, by first | rfl | simp⟩, by simp [intOf]; omega⟩
    · go_wp2_with fail
      go_ret
      exact ⟨rfl, d, rfl⟩
set_option maxHeartbeats 2000000 in
set_option maxRecDepth 100000 in
theorem SameSpec_eq (m b : Int) (A A' : Option Addr) (n c c' : Nat) (l : List Int) (w : World) (B B' : Nat) (hl : RI w B A n l) (hr : RI w B' A' n l) (hB : B ≤ w.heap.size) (hB' : B' ≤ w.heap.size) (hn : n ≤ 140737488355328) :
    Calls Tryd.prog 38 #[.agg #[.int .i64 m, .slice A n c, .int .i64 b], .agg #[.int .i64 m, .slice A' n c', .int .i64 b]] w (fun e w' => e = .returned (.bool true) ∧ Below w.heap.size w w') := by
  have HS := Lib.hid (fun W (h : RI W B A n l) (h' : RI W B' A' n l) => SameInts_eq A A' n c c' l W B B' h h' hn)
  have e1 : (m == m) = true := by simp
  have e2 : (b == b) = true := by simp
  obtain ⟨hz2, hc2, hd2, hb2⟩ := two_new w (.cells #[.int .i64 m, .slice A n c, .int .i64 b] 43) (.cells #[.int .i64 m, .slice A' n c', .int .i64 b] 43)
  have hz1 : (w.alloc (.cells #[.int .i64 m, .slice A n c, .int .i64 b] 43)).heap.size = w.heap.size + 1 := by simp
  have HB := Lib.hid hb2
  have HL := Lib.hid (hl.below (hb2.mono hB))
  have HR := Lib.hid (hr.below (hb2.mono hB'))
  clear hl hr hb2 hc2 hd2
  go_enter Tryd.func38, Tryd.ntmps38
  go_wp2_with fail
  refine (HS.out _ HL.out HR.out).mono ?_
  rintro e w1 ⟨rfl, dd, rfl⟩
  have HB2 := Lib.hid (below_drewN HB.out dd)
  go_wp2_with fail
  go_ret
  exact ⟨rfl, HB2.out⟩
end Go.Proofs.YtkmcjjoicpgjfaaDoor
