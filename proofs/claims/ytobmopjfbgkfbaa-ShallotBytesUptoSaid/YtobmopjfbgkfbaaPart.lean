/-
  Parts of messages: their fields, frame.Check, shallotref11.Check, frame.Count, shallotref11.Count, frame.copied. Conditions: the fields fit their types.
-/
import Derived.Test.YtobmopjfbgkfbaaCopy
import Derived.Deep.Light
namespace Go.Proofs.Ytobmopjfbgkfbaa
open Go Go.RowKit Go.Sh

structure Pt where
  k : Int
  id : Int
  ix : Int
  ct : Int
  d : List UInt8
structure Pt.OK (p : Pt) : Prop where
  k : 0 ≤ p.k ∧ p.k < 256
  id : 0 ≤ p.id ∧ p.id < 18446744073709551616
  ix : -9223372036854775808 ≤ p.ix ∧ p.ix ≤ 9223372036854775807
  ct : -9223372036854775808 ≤ p.ct ∧ p.ct ≤ 9223372036854775807
/-- a part's value; its data is the slice '.slice A n c' -/
def Pt.v (p : Pt) (A : Option Addr) (n c : Nat) : Value := .agg #[.int .u8 p.k, .int .u64 p.id, .int .i64 p.ix, .int .i64 p.ct, .slice A n c]
def chk (k id ix ct : Int) (n : Nat) : Int :=
  if k < 1 ∨ 3 < k then 1 else if 450 < n then 2 else if ct < 1 ∨ 16 < ct ∨ ix < 0 ∨ ct ≤ ix then 3 else if k ≠ 1 ∧ ct ≠ 1 then 3 else if k = 2 ∧ (id ≠ 0 ∨ n ≠ 0) then 3 else 0
theorem chk_end {a b : Int} {v : Value} (hv : v = .int .i64 a) (h : a = b) : Ending.returned v = .returned (.int .i64 b) := by rw [hv, h]
def Pt.chk (p : Pt) : Int := Go.Proofs.Ytobmopjfbgkfbaa.chk p.k p.id p.ix p.ct p.d.length

set_option maxRecDepth 100000 in
set_option maxHeartbeats 1000000 in
theorem PCheck_any (k id ix ct : Int) (A : Option Addr) (n c : Nat) (w : World) (hk : 0 ≤ k ∧ k < 256) (hn : n ≤ 140737488355328) :
    Calls Try.prog 62 #[.agg #[.int .u8 k, .int .u64 id, .int .i64 ix, .int .i64 ct, .slice A n c]] w (fun e w' => e = .returned (.int .i64 (chk k id ix ct n)) ∧ Below w.heap.size w w') := by
  go_enter Try.func62, Try.ntmps62
  go_wp2
  all_goals go_ret
  all_goals refine ⟨chk_end rfl ?_, (Below.refl _ _).alloc (Nat.le_refl _) _⟩
  all_goals go_light
  all_goals try simp only [bne_iff_ne, bne_eq_false_iff_eq, ne_eq] at *
  all_goals (unfold chk; repeat (first | rw [if_pos (by omega)] | rw [if_neg (by omega)]))

def cntE (n : Int) : Int := if n < 0 then 1 else if 7200 < n then 2 else 0
def cntV (n : Int) : Int := if cntE n = 0 then (if n = 0 then 1 else (n + 449) / 450) else 0
set_option maxRecDepth 100000 in
theorem Count_any (n : Int) (w : World) : Calls Try.prog 22 #[.int .i64 n] w (fun e w' => e = .returned (.tuple #[.int .i64 (cntV n), .int .i64 (cntE n)]) ∧ w = w') := by
  by_cases h1 : n < 0
  · have e1 : cntE n = 1 := by unfold cntE; rw [if_pos h1]
    have e2 : cntV n = 0 := by unfold cntV; rw [e1]; rfl
    rw [e1, e2]
    go_enter Try.func22, Try.ntmps22
    go_wp2
    go_ret2
    exact ⟨rfl, rfl⟩
  by_cases h2 : 7200 < n
  · have e1 : cntE n = 2 := by unfold cntE; rw [if_neg h1, if_pos h2]
    have e2 : cntV n = 0 := by unfold cntV; rw [e1]; rfl
    rw [e1, e2]
    go_enter Try.func22, Try.ntmps22
    go_wp2
    go_ret2
    exact ⟨rfl, rfl⟩
  have e1 : cntE n = 0 := by unfold cntE; rw [if_neg h1, if_neg h2]
  by_cases h3 : n = 0
  · have e2 : cntV n = 1 := by unfold cntV; rw [e1, if_pos rfl, if_pos h3]
    rw [e1, e2]
    subst h3
    go_enter Try.func22, Try.ntmps22
    go_wp2
    go_ret2
    exact ⟨rfl, rfl⟩
  · have e2 : cntV n = (n + 449) / 450 := by unfold cntV; rw [e1, if_pos rfl, if_neg h3]
    rw [e1, e2]
    have e3 : (n + 450 - 1).tdiv 450 = (n + 449) / 450 := by rw [Int.tdiv_eq_ediv_of_nonneg (by omega)]; congr 1; omega
    have e4 : IntKind.i64.wrap (n + 450 - 1) = n + 450 - 1 := by rw [IntKind.wrap_i64]; omega
    have e5 : IntKind.i64.wrap (n + 450) = n + 450 := by rw [IntKind.wrap_i64]; omega
    have e6 : IntKind.i64.wrap ((n + 449) / 450) = (n + 449) / 450 := by rw [IntKind.wrap_i64]; omega
    go_enter Try.func22, Try.ntmps22
    go_wp2
    go_ret2
    exact ⟨rfl, rfl⟩
set_option maxRecDepth 100000 in
theorem copied_any (A : Option Addr) (n c : Nat) (l : List UInt8) (w : World) (B : Nat) (hr : RB w B A n l) (hB : B ≤ w.heap.size) (hn : n ≤ 140737488355328) :
    Calls Try.prog 60 #[.slice A n c] w (RetB w n l) := by
  have HL := Lib.hid hr.len
  have HR := Lib.hid hr
  clear hr
  go_enter Try.func60, Try.ntmps60
  go_wp2_with (at_make; refine wl_makeB TB rfl (.tmp 5) (.tmp 5) rfl .i64 .i64 _ _ rfl rfl n rfl rfl ?m3 w.heap.size (Nat.le_refl _) ?m5)
  case m3 => omega
  case m5 =>
    intro w1 hown hg hlt
    have HO := Lib.hid hown
    have HB := Lib.hid (show Below w.heap.size w w1 from (Below.refl _ _).grown hg (Nat.le_refl _) (by simp))
    clear hown hg
    go_wp2_with (with_reducible refine wl_copy TB rfl (.tmp 7) (.tmp 8) rfl _ n n rfl A n c rfl w.heap.size _ HO.out B (bv l) ?c1 (bv_one l) ?c2)
    case c1 => exact HR.out.below (HB.out.mono hB)
    case c2 =>
      intro w2 hown2 hg2
      have e3 : (bv l).take n ++ (bv (zs n)).drop n = bv l := by
        rw [List.take_of_length_le (by rw [length_bv, HL.out]; exact Nat.le_refl _), List.drop_of_length_le (by rw [length_bv, length_zs]; exact Nat.le_refl _), List.append_nil]
      rw [e3] at hown2
      have HO2 := Lib.hid hown2
      have HB2 := Lib.hid (HB.out.grown hg2 HB.out.size (by simp [Value.ownBlock]))
      clear hown2 hg2 HO HB e3
      go_wp2
      go_ret
      exact ⟨_, _, rfl, HO2.out, HB2.out⟩
end Go.Proofs.Ytobmopjfbgkfbaa
