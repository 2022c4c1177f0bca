/-
  Contracts of codec.Put, shallotref01.Put and shallotlaw01.awake: both puts write a number as the same bytes, or give the same error's number; awake is true.
-/
import Derived.Test.YtkmcjjoicpgjfaaDoorGet
import Derived.Test.YtkmcjjoicpgjfaaDoorLists
namespace Go.Proofs.YtkmcjjoicpgjfaaDoor
open Go Go.RowKit Go.Sh

/-- d bytes by a rule -/
def rowf (d : Nat) (f : Nat → UInt8) : List UInt8 := (List.range d).map f
theorem length_rowf (d : Nat) (f : Nat → UInt8) : (rowf d f).length = d := by simp [rowf]
set_option maxRecDepth 100000 in
theorem rowf_congr {d : Nat} {f g : Nat → UInt8} (h : ∀ i, i < d → f i = g i) : rowf d f = rowf d g := List.map_congr_left fun i hi => h i (by simpa using hi)
theorem rowf_zs (d : Nat) : zs d = rowf d (fun _ => 0) := by
  apply List.ext_getElem
  · simp [zs, rowf]
  · intro i h1 h2
    simp [zs, rowf]
theorem rowf_set (d : Nat) (f : Nat → UInt8) (i : Nat) (x : UInt8) : (rowf d f).set i x = rowf d (fun j => if j = i then x else f j) := by
  apply List.ext_getElem
  · simp [rowf]
  · intro j h1 h2
    simp only [rowf, List.getElem_set, List.getElem_map, List.getElem_range]
    by_cases h : i = j
    · simp [h]
    · rw [if_neg h, if_neg (fun e => h e.symm)]
theorem by8_rowf {d i : Nat} (f : Nat → UInt8) (h : i < d) : by8 (rowf d f) i = (f i).toNat := by
  simp [by8, rowf, h]
theorem bv_store (l : List UInt8) (i : Nat) (x : UInt8) : (bv l).set i (.int .u8 (x.toNat : Int)) = bv (l.set i x) := by simp [bv, List.map_set]

/-- byte j of the number v -/
def pc (v j : Nat) : UInt8 := UInt8.ofNat (v / 256 ^ j)
theorem pc_nat (v j : Nat) : (pc v j).toNat = v / 256 ^ j % 256 := by simp [pc]
/-- the bytes of v -/
def putB (o : Int) (d v : Nat) : List UInt8 := if o = 2 then rowf d (fun i => pc v (d - 1 - i)) else rowf d (fun i => pc v i)
def putE (o d : Int) (v : Nat) : Int := if okW o d = false then 1 else if 256 ^ d.toNat ≤ v then 2 else 0
def putL (o d : Int) (v : Nat) : List UInt8 := if putE o d v = 0 then putB o d.toNat v else []
theorem length_putB (o : Int) (d v : Nat) : (putB o d v).length = d := by
  unfold putB
  split <;> rw [length_rowf]

theorem piece_wrap (v k : Nat) : (v : Int) / 2 ^ (8 * k) % 256 = ((pc v k).toNat : Int) := by
  have hp : (2 : Int) ^ (8 * k) = ((256 ^ k : Nat) : Int) := by
    have : (2 : Nat) ^ (8 * k) = 256 ^ k := by rw [Nat.pow_mul]
    rw [← this]
    simp
  rw [hp, pc_nat]
  have e : (v : Int) / ((256 ^ k : Nat) : Int) = ((v / 256 ^ k : Nat) : Int) := by simp
  rw [e]
  omega
theorem shr_zero (v k : Nat) (h : v < 256 ^ k) : (((v : Int) / 2 ^ (8 * k)) != 0) = false := by
  have hp : (2 : Int) ^ (8 * k) = ((256 ^ k : Nat) : Int) := by
    have : (2 : Nat) ^ (8 * k) = 256 ^ k := by rw [Nat.pow_mul]
    rw [← this]
    simp
  have e : (v : Int) / ((256 ^ k : Nat) : Int) = ((v / 256 ^ k : Nat) : Int) := by simp
  rw [hp, e, Nat.div_eq_of_lt h]
  rfl
theorem shr_not_zero (v k : Nat) (h : 256 ^ k ≤ v) : (((v : Int) / 2 ^ (8 * k)) != 0) = true := by
  have hp : (2 : Int) ^ (8 * k) = ((256 ^ k : Nat) : Int) := by
    have : (2 : Nat) ^ (8 * k) = 256 ^ k := by rw [Nat.pow_mul]
    rw [← this]
    simp
  have e : (v : Int) / ((256 ^ k : Nat) : Int) = ((v / 256 ^ k : Nat) : Int) := by simp
  have h1 : 0 < v / 256 ^ k := Nat.div_pos h (Nat.pow_pos (by decide))
  rw [hp, e, bne_iff_ne]
  omega

end Go.Proofs.YtkmcjjoicpgjfaaDoor
