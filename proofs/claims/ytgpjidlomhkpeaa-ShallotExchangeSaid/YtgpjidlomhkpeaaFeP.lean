/-
  Plain laws of bytes and words: the number of a list of bytes, put together and taken apart. No conditions.
-/
import Derived.Test.YtgpjidlomhkpeaaFe
namespace Go.Proofs.Ytgpjidlomhkpeaa
open Go Go.RowKit Go.Sh

/-- the number of a list of bytes, the least first -/
def le : List UInt8 → Nat
  | [] => 0
  | x :: l => x.toNat + 256 * le l
theorem le_lt : ∀ l : List UInt8, le l < 256 ^ l.length
  | [] => by simp [le]
  | x :: l => by
    have ih := le_lt l
    have hx : x.toNat < 256 := x.toNat_lt
    rw [le, List.length_cons, Nat.pow_succ]
    omega
theorem le_snoc : ∀ (l : List UInt8) (x : UInt8), le (l ++ [x]) = le l + x.toNat * 256 ^ l.length
  | [], x => by simp [le]
  | y :: l, x => by
    rw [List.cons_append, le, le, le_snoc l x, List.length_cons, Nat.pow_succ, Nat.mul_add, ← Nat.mul_assoc 256, Nat.mul_comm 256 x.toNat, Nat.mul_assoc x.toNat, Nat.mul_comm 256 (256 ^ l.length)]
    omega
theorem nt_ws : ∀ (k V q : Nat), q < k → nt (ws k V) q = V / 18446744073709551616 ^ q % 18446744073709551616
  | 0, _, _, h => by omega
  | k + 1, V, 0, _ => by simp [ws, nt]
  | k + 1, V, q + 1, h => by
    have ih := nt_ws k (V / 18446744073709551616) q (by omega)
    have e : nt (ws (k + 1) V) (q + 1) = nt (ws k (V / 18446744073709551616)) q := by simp [ws, nt]
    rw [e, ih, Nat.div_div_eq_div_mul, Nat.pow_succ, Nat.mul_comm (18446744073709551616 ^ q)]
theorem pow_split (i : Nat) : 256 ^ i = 18446744073709551616 ^ (i / 8) * 256 ^ (i % 8) := by
  rw [show (18446744073709551616 : Nat) = 256 ^ 8 by decide, ← Nat.pow_mul, ← Nat.pow_add, Nat.div_add_mod]
theorem pow256 (r : Nat) : 256 ^ r = 2 ^ (8 * r) := by rw [show (256 : Nat) = 2 ^ 8 by decide, ← Nat.pow_mul]
theorem word_top {i V : Nat} (hi : i < 32) (hV : V < 256 ^ i) : nt (ws 4 V) (i / 8) < 256 ^ (i % 8) := by
  rw [nt_ws 4 V (i / 8) (by omega)]
  refine Nat.lt_of_le_of_lt (Nat.mod_le _ _) ?_
  rw [pow_split] at hV
  exact Nat.div_lt_of_lt_mul hV
theorem or_shl {w x r : Nat} (hw : w < 256 ^ r) : w ||| (x * 256 ^ r) = w + x * 256 ^ r := by
  rw [pow256] at hw ⊢
  rw [Nat.or_comm, Nat.mul_comm, ← Nat.two_pow_add_eq_or_of_lt hw, Nat.add_comm]
theorem shl_fits {x r : Nat} (hx : x < 256) (hr : r < 8) : x * 256 ^ r < 18446744073709551616 := by
  have h1 : x * 256 ^ r < 256 * 256 ^ r := Nat.mul_lt_mul_of_pos_right hx (Nat.pow_pos (by decide))
  have h2 : 256 * 256 ^ r ≤ 256 ^ 8 := by rw [Nat.mul_comm, ← Nat.pow_succ]; exact Nat.pow_le_pow_right (by decide) (by omega)
  have h3 : (256 : Nat) ^ 8 = 18446744073709551616 := by decide
  omega
theorem sum_fits {w x r : Nat} (hw : w < 256 ^ r) (hx : x < 256) (hr : r < 8) : w + x * 256 ^ r < 18446744073709551616 := by
  have h1 : (x + 1) * 256 ^ r ≤ 256 * 256 ^ r := Nat.mul_le_mul_right _ hx
  have h2 : 256 * 256 ^ r ≤ 256 ^ 8 := by rw [Nat.mul_comm, ← Nat.pow_succ]; exact Nat.pow_le_pow_right (by decide) (by omega)
  have h3 : (256 : Nat) ^ 8 = 18446744073709551616 := by decide
  rw [Nat.add_mul, Nat.one_mul] at h1
  omega
/-- one more byte goes into the words -/
theorem ws_byte {i V x : Nat} (hi : i < 32) (hV : V < 256 ^ i) (hx : x < 256) : (ws 4 V).set (i / 8) (nt (ws 4 V) (i / 8) + x * 256 ^ (i % 8)) = ws 4 (V + x * 256 ^ i) := by
  have hw := word_top hi hV
  have hall := (AllB.ws 4 V).set (x := nt (ws 4 V) (i / 8) + x * 256 ^ (i % 8)) (sum_fits hw hx (by omega)) (i / 8)
  have hs := nv_set (ws 4 V) (i / 8) (nt (ws 4 V) (i / 8) + x * 256 ^ (i % 8)) (by rw [length_ws]; omega)
  have hV4 : V < 18446744073709551616 ^ 4 := by
    rw [show (18446744073709551616 : Nat) ^ 4 = 256 ^ 32 by decide]
    exact Nat.lt_of_lt_of_le hV (Nat.pow_le_pow_right (by decide) (by omega))
  rw [nv_ws 4 V hV4, Nat.add_mul, Nat.mul_assoc x, Nat.mul_comm (256 ^ (i % 8)), ← pow_split] at hs
  have h1 := ws_nv hall
  rw [List.length_set, length_ws] at h1
  rw [← h1]
  congr 1
  omega
/-- the bytes of a number -/
def byteAt (V i : Nat) : UInt8 := UInt8.ofNat (V / 256 ^ i)
def toLe (k V : Nat) : List UInt8 := (List.range k).map (byteAt V)
theorem toLe_len (k V : Nat) : (toLe k V).length = k := by simp [toLe]
theorem word_byte {V i : Nat} (hi : i < 32) : nt (ws 4 V) (i / 8) / 256 ^ (i % 8) % 256 = V / 256 ^ i % 256 := by
  rw [nt_ws 4 V (i / 8) (by omega), pow_split i, ← Nat.div_div_eq_div_mul]
  generalize V / 18446744073709551616 ^ (i / 8) = u
  have hr : i % 8 < 8 := Nat.mod_lt _ (by decide)
  generalize i % 8 = r at hr
  have h3 : (18446744073709551616 : Nat) = 256 ^ r * (256 * 256 ^ (7 - r)) := by
    rw [← Nat.mul_assoc, ← Nat.pow_succ, ← Nat.pow_add, show r + 1 + (7 - r) = 8 by omega]
  rw [h3, Nat.mod_mul_right_div_self, Nat.mod_mul_right_mod]
/-- the highest bit is dropped -/
theorem ws_drop {V : Nat} (hV : V < 115792089237316195423570985008687907853269984665640564039457584007913129639936) : (ws 4 V).set 3 (nt (ws 4 V) 3 % 9223372036854775808) = ws 4 (V % 57896044618658097711785492504343953926634992332820282019728792003956564819968) := by
  have hall := (AllB.ws 4 V).set (x := nt (ws 4 V) 3 % 9223372036854775808) (by omega) 3
  have hs := nv_set (ws 4 V) 3 (nt (ws 4 V) 3 % 9223372036854775808) (by rw [length_ws]; decide)
  rw [nv_ws 4 V (by rw [show (18446744073709551616 : Nat) ^ 4 = 115792089237316195423570985008687907853269984665640564039457584007913129639936 by decide]; exact hV)] at hs
  have h3 := nt_ws 4 V 3 (by decide)
  rw [show (18446744073709551616 : Nat) ^ 3 = 6277101735386680763835789423207666416102355444464034512896 by decide] at hs h3
  have h1 := ws_nv hall
  rw [List.length_set, length_ws] at h1
  rw [← h1]
  congr 1
  omega
theorem and_drop (x : Nat) : x &&& 9223372036854775807 = x % 9223372036854775808 := Nat.and_two_pow_sub_one_eq_mod x 63
set_option maxRecDepth 100000 in
theorem le_at : ∀ (l : List UInt8) (k : Nat), k < l.length → le l / 256 ^ k % 256 = (l.getD k 0).toNat
  | [], k, h => by simp at h
  | x :: l, 0, _ => by
    have hx : x.toNat < 256 := x.toNat_lt
    simp [le]
  | x :: l, k + 1, h => by
    have ih := le_at l k (by simpa using h)
    have hx : x.toNat < 256 := x.toNat_lt
    rw [le, Nat.pow_succ, Nat.mul_comm (256 ^ k), ← Nat.div_div_eq_div_mul, show (x.toNat + 256 * le l) / 256 = le l by omega, ih]
    simp
/-- a bit of a list of bytes -/
theorem le_bit (l : List UInt8) (i : Nat) (h : i / 8 < l.length) : le l / 2 ^ i % 2 = (l.getD (i / 8) 0).toNat / 2 ^ (i % 8) % 2 := by
  have h1 := le_at l (i / 8) h
  rw [← h1, pow256]
  have e : 2 ^ i = 2 ^ (8 * (i / 8)) * 2 ^ (i % 8) := by rw [← Nat.pow_add, Nat.div_add_mod]
  rw [e, ← Nat.div_div_eq_div_mul]
  generalize le l / 2 ^ (8 * (i / 8)) = u
  have hr : i % 8 < 8 := Nat.mod_lt _ (by decide)
  generalize i % 8 = r at hr
  have h3 : (256 : Nat) = 2 ^ r * (2 * 2 ^ (7 - r)) := by
    rw [← Nat.mul_assoc, ← Nat.pow_succ, ← Nat.pow_add, show r + 1 + (7 - r) = 8 by omega]
  rw [h3, Nat.mod_mul_right_div_self, Nat.mod_mul_right_mod]
theorem toLe_le : ∀ (k V : Nat), V < 256 ^ k → le (toLe k V) = V
  | 0, V, h => by simp at h; simp [toLe, le, h]
  | k + 1, V, h => by
    have ih := toLe_le k (V / 256) (by rw [Nat.pow_succ] at h; exact Nat.div_lt_of_lt_mul (by rw [Nat.mul_comm]; exact h))
    have e : toLe (k + 1) V = UInt8.ofNat V :: toLe k (V / 256) := by
      unfold toLe
      rw [List.range_succ_eq_map, List.map_cons, List.map_map]
      congr 1
      · simp [byteAt]
      · apply List.map_congr_left
        intro j _
        simp only [Function.comp, byteAt]
        rw [Nat.pow_succ, Nat.mul_comm, Nat.div_div_eq_div_mul]
    rw [e, le, ih]
    have : (UInt8.ofNat V).toNat = V % 256 := by simp
    rw [this]
    omega
end Go.Proofs.Ytgpjidlomhkpeaa
