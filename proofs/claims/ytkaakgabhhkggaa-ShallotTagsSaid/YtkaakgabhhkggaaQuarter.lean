/-
  Contracts of math/bits.RotateLeft32, chacha.Quarter, shallotref04.left and shallotref04.Quarter: words of 32 bits, turned alike.
-/
import Derived.Test.YtkaakgabhhkggaaCopy
import Derived.OpenShut
import Derived.Handy
import Derived.Deep.RegionHeld3
import Derived.Deep.RegionLaw
namespace Go.Proofs.Ytkaakgabhhkggaa
open Go Go.RowKit Go.Sh

/-- x turned to the left by s -/
def rl (x : Int) (s : Nat) : Int := bits .or .u32 (x * 2 ^ s % 4294967296) (x / 2 ^ (32 - s))
def ad (x y : Int) : Int := (x + y) % 4294967296
def xo (x y : Int) : Int := bits .xor .u32 x y
/-- a word of 32 bits -/
def W32 (x : Int) : Prop := 0 ≤ x ∧ x ≤ 4294967295
theorem rl_w (x : Int) (s : Nat) : W32 (rl x s) := bounds_u32 (wf_bits _ _ _ _)
theorem xo_w (x y : Int) : W32 (xo x y) := bounds_u32 (wf_bits _ _ _ _)
theorem ad_w (x y : Int) : W32 (ad x y) := by unfold W32 ad; omega

set_option maxRecDepth 100000 in
theorem rot_any (x k k' : Int) (s : Nat) (hx : W32 x) (hk : IntKind.u64.wrap k = k') (hb : bits .and .u64 k' 31 = (s : Int)) (hs : s ≤ 31) (w : World) :
    Calls Try.prog 66 #[.int .u32 x, .int .i64 k] w (fun e w' => e = .returned (.int .u32 (rl x s)) ∧ w = w') := by
  obtain ⟨x1, x2⟩ := hx
  go_enter Try.func66, Try.ntmps66
  go_wp2
  go_ret
  exact ⟨rfl, rfl⟩
/-- a return of four values -/
theorem four_results {fn : Func} {t u v x : Tmp} (h : fn.results = #[.tmp t, .tmp u, .tmp v, .tmp x]) (ts : Array Value) (P : Program) (w : World) :
    (results fn ts).run P w = .ok (.tuple #[ts.getD t undef, ts.getD u undef, ts.getD v undef, ts.getD x undef]) w := by
  simp [results, h]

/-- half a quarter round: three of its four words -/
def h1 (a b c d : Int) (s t : Nat) : Int × Int × Int × Int :=
  let a' := ad a b
  let d' := rl (xo d a') s
  let c' := ad c d'
  (a', rl (xo b c') t, c', d')
def quarter (a b c d : Int) : Int × Int × Int × Int :=
  let q := h1 a b c d 16 12
  h1 q.1 q.2.1 q.2.2.1 q.2.2.2 8 7

set_option maxRecDepth 100000 in
set_option maxHeartbeats 400000 in
theorem Quarter_any (a b c d : Int) (ha : W32 a) (hb : W32 b) (hc : W32 c) (hd : W32 d) (w : World) :
    Calls Try.prog 73 #[.int .u32 a, .int .u32 b, .int .u32 c, .int .u32 d] w
      (fun e w' => e = .returned (.tuple #[.int .u32 (quarter a b c d).1, .int .u32 (quarter a b c d).2.1, .int .u32 (quarter a b c d).2.2.1, .int .u32 (quarter a b c d).2.2.2]) ∧ w = w') := by
  obtain ⟨a1, a2⟩ := ha
  obtain ⟨b1, b2⟩ := hb
  obtain ⟨c1, c2⟩ := hc
  obtain ⟨d1, d2⟩ := hd
  go_enter Try.func73, Try.ntmps73
  go_wp2_with fail
  generalize e1 : (a + b) % 4294967296 = A1
  have EA1 := Lib.hid e1
  have pA1 : 0 ≤ A1 ∧ A1 ≤ 4294967295 := by omega
  clear e1
  refine (rot_any (bits .xor .u32 d A1) 16 16 16 (xo_w d A1) (by decide) (by decide) (by omega) _).mono ?_
  rintro e w' ⟨rfl, rfl⟩
  generalize e2 : rl (bits .xor .u32 d A1) 16 = D1
  have ED1 := Lib.hid e2
  have pD1 : W32 D1 := by rw [← e2]; exact rl_w _ _
  unfold W32 at pD1
  clear e2
  go_wp2_with fail
  generalize e1 : (c + D1) % 4294967296 = C1
  have EC1 := Lib.hid e1
  have pC1 : 0 ≤ C1 ∧ C1 ≤ 4294967295 := by omega
  clear e1
  refine (rot_any (bits .xor .u32 b C1) 12 12 12 (xo_w b C1) (by decide) (by decide) (by omega) _).mono ?_
  rintro e w' ⟨rfl, rfl⟩
  generalize e2 : rl (bits .xor .u32 b C1) 12 = B1
  have EB1 := Lib.hid e2
  have pB1 : W32 B1 := by rw [← e2]; exact rl_w _ _
  unfold W32 at pB1
  clear e2
  go_wp2_with fail
  generalize e1 : (A1 + B1) % 4294967296 = A2
  have EA2 := Lib.hid e1
  have pA2 : 0 ≤ A2 ∧ A2 ≤ 4294967295 := by omega
  clear e1
  refine (rot_any (bits .xor .u32 D1 A2) 8 8 8 (xo_w D1 A2) (by decide) (by decide) (by omega) _).mono ?_
  rintro e w' ⟨rfl, rfl⟩
  generalize e2 : rl (bits .xor .u32 D1 A2) 8 = D2
  have ED2 := Lib.hid e2
  have pD2 : W32 D2 := by rw [← e2]; exact rl_w _ _
  unfold W32 at pD2
  clear e2
  go_wp2_with fail
  generalize e1 : (C1 + D2) % 4294967296 = C2
  have EC2 := Lib.hid e1
  have pC2 : 0 ≤ C2 ∧ C2 ≤ 4294967295 := by omega
  clear e1
  refine (rot_any (bits .xor .u32 B1 C2) 7 7 7 (xo_w B1 C2) (by decide) (by decide) (by omega) _).mono ?_
  rintro e w' ⟨rfl, rfl⟩
  generalize e2 : rl (bits .xor .u32 B1 C2) 7 = B2
  have EB2 := Lib.hid e2
  have pB2 : W32 B2 := by rw [← e2]; exact rl_w _ _
  unfold W32 at pB2
  clear e2
  go_wp2
  (try simp only [Exit.inBlock, Exit.then])
  refine bodyPost_ret (four_results rfl _ _ _) rfl ?_
  have hq : quarter a b c d = (A2, B2, C2, D2) := by
    simp only [quarter, h1, ad, xo]
    rw [EA1.out, ED1.out, EC1.out, EB1.out, EA2.out, ED2.out, EC2.out, EB2.out]
  rw [hq]
  exact ⟨rfl, rfl⟩

/-- one of the four steps -/
def turnBy (k : Nat) : Nat := [16, 12, 8, 7].getD k 0
def qstep (k : Nat) (q : Int × Int × Int × Int) : Int × Int × Int × Int :=
  if k % 2 = 0 then (ad q.1 q.2.1, q.2.1, q.2.2.1, rl (xo q.2.2.2 (ad q.1 q.2.1)) (turnBy k)) else (q.1, rl (xo q.2.1 (ad q.2.2.1 q.2.2.2)) (turnBy k), ad q.2.2.1 q.2.2.2, q.2.2.2)
def qto (q : Int × Int × Int × Int) : Nat → Int × Int × Int × Int
  | 0 => q
  | k + 1 => qstep k (qto q k)
theorem qto_four (a b c d : Int) : qto (a, b, c, d) 4 = quarter a b c d := rfl

theorem row_set {w : World} {p i : Nat} {cs : Array Value} {t : TypeId} {fr : Nat × Nat} (h : w.heap[p]? = some (.cells cs t fr)) (v : Value) : (w.setCell ⟨p, i, none⟩ v).heap[p]? = some (.cells (cs.setIfInBounds i v) t fr) := by
  simp [World.setCell, Array.getElem?_modify, h]

end Go.Proofs.Ytkaakgabhhkggaa
