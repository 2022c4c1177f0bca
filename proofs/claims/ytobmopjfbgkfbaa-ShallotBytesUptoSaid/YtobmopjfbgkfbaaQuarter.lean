/-
  Contracts of math/bits.RotateLeft32, chacha.Quarter, shallotref04.left and shallotref04.Quarter: words of 32 bits, turned alike.
-/
import Derived.Test.YtobmopjfbgkfbaaCopy
import Derived.OpenShut
import Derived.Handy
import Derived.Deep.RegionHeld3
import Derived.Deep.RegionLaw
namespace Go.Proofs.Ytobmopjfbgkfbaa
open Go Go.RowKit Go.Sh

/-- x turned to the left by s -/
def rl (x : Int) (s : Nat) : Int := bits .or .u32 (x * 2 ^ s % 4294967296) (x / 2 ^ (32 - s))
def ad (x y : Int) : Int := (x + y) % 4294967296
def xo (x y : Int) : Int := bits .xor .u32 x y
/-- a word of 32 bits -/
def W32 (x : Int) : Prop := 0 ≤ x ∧ x ≤ 4294967295
theorem rl_w (x : Int) (s : Nat) : W32 (rl x s) := bounds_u32 (wf_bits _ _ _ _)
theorem xo_w (x y : Int) : W32 (xo x y) := bounds_u32 (wf_bits _ _ _ _)
theorem ad_w (x y : Int) : W32 (ad x y) := by unfold W32 ad; omega

set_option maxRecDepth 100000 in
theorem rot_any (x k k' : Int) (s : Nat) (hx : W32 x) (hk : IntKind.u64.wrap k = k') (hb : bits .and .u64 k' 31 = (s : Int)) (hs : s ≤ 31) (w : World) :
    Calls Try.prog 85 #[.int .u32 x, .int .i64 k] w (fun e w' => e = .returned (.int .u32 (rl x s)) ∧ w = w') := by
  obtain ⟨x1, x2⟩ := hx
  go_enter Try.func85, Try.ntmps85
  go_wp2
  go_ret
  exact ⟨rfl, rfl⟩
/-- a return of four values -/
theorem four_results {fn : Func} {t u v x : Tmp} (h : fn.results = #[.tmp t, .tmp u, .tmp v, .tmp x]) (ts : Array Value) (P : Program) (w : World) :
    (results fn ts).run P w = .ok (.tuple #[ts.getD t undef, ts.getD u undef, ts.getD v undef, ts.getD x undef]) w := by
  simp [results, h]

/-- half a quarter round: three of its four words -/
def h1 (a b c d : Int) (s t : Nat) : Int × Int × Int × Int :=
  let a' := ad a b
  let d' := rl (xo d a') s
  let c' := ad c d'
  (a', rl (xo b c') t, c', d')
def quarter (a b c d : Int) : Int × Int × Int × Int :=
  let q := h1 a b c d 16 12
  h1 q.1 q.2.1 q.2.2.1 q.2.2.2 8 7

/-- one of the four steps -/
def turnBy (k : Nat) : Nat := [16, 12, 8, 7].getD k 0
def qstep (k : Nat) (q : Int × Int × Int × Int) : Int × Int × Int × Int :=
  if k % 2 = 0 then (ad q.1 q.2.1, q.2.1, q.2.2.1, rl (xo q.2.2.2 (ad q.1 q.2.1)) (turnBy k)) else (q.1, rl (xo q.2.1 (ad q.2.2.1 q.2.2.2)) (turnBy k), ad q.2.2.1 q.2.2.2, q.2.2.2)
def qto (q : Int × Int × Int × Int) : Nat → Int × Int × Int × Int
  | 0 => q
  | k + 1 => qstep k (qto q k)
theorem qto_four (a b c d : Int) : qto (a, b, c, d) 4 = quarter a b c d := rfl

theorem row_set {w : World} {p i : Nat} {cs : Array Value} {t : TypeId} {fr : Nat × Nat} (h : w.heap[p]? = some (.cells cs t fr)) (v : Value) : (w.setCell ⟨p, i, none⟩ v).heap[p]? = some (.cells (cs.setIfInBounds i v) t fr) := by
  simp [World.setCell, Array.getElem?_modify, h]

end Go.Proofs.Ytobmopjfbgkfbaa
