/-
  Parts of messages: their fields, frame.Check, shallotref11.Check, frame.Count, shallotref11.Count, frame.copied. Conditions: the fields fit their types.
-/
import Derived.Test.YtkaakgabhhkggaaCopy
import Derived.Deep.Light
namespace Go.Proofs.Ytkaakgabhhkggaa
open Go Go.RowKit Go.Sh

structure Pt where
  k : Int
  id : Int
  ix : Int
  ct : Int
  d : List UInt8
structure Pt.OK (p : Pt) : Prop where
  k : 0 ≤ p.k ∧ p.k < 256
  id : 0 ≤ p.id ∧ p.id < 18446744073709551616
  ix : -9223372036854775808 ≤ p.ix ∧ p.ix ≤ 9223372036854775807
  ct : -9223372036854775808 ≤ p.ct ∧ p.ct ≤ 9223372036854775807
/-- a part's value; its data is the slice '.slice A n c' -/
def Pt.v (p : Pt) (A : Option Addr) (n c : Nat) : Value := .agg #[.int .u8 p.k, .int .u64 p.id, .int .i64 p.ix, .int .i64 p.ct, .slice A n c]
def chk (k id ix ct : Int) (n : Nat) : Int :=
  if k < 1 ∨ 3 < k then 1 else if 450 < n then 2 else if ct < 1 ∨ 16 < ct ∨ ix < 0 ∨ ct ≤ ix then 3 else if k ≠ 1 ∧ ct ≠ 1 then 3 else if k = 2 ∧ (id ≠ 0 ∨ n ≠ 0) then 3 else 0
theorem chk_end {a b : Int} {v : Value} (hv : v = .int .i64 a) (h : a = b) : Ending.returned v = .returned (.int .i64 b) := by rw [hv, h]
def Pt.chk (p : Pt) : Int := Go.Proofs.Ytkaakgabhhkggaa.chk p.k p.id p.ix p.ct p.d.length

def cntE (n : Int) : Int := if n < 0 then 1 else if 7200 < n then 2 else 0
def cntV (n : Int) : Int := if cntE n = 0 then (if n = 0 then 1 else (n + 449) / 450) else 0
end Go.Proofs.Ytkaakgabhhkggaa
