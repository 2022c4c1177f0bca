/-
  Contracts of codec.Get, shallotref01.Get and their helpers: both give the number that stands in the bytes, or the same error's number.
-/
import Derived.Test.YtkmcjjoicpgjfaaDoorCopy
namespace Go.Proofs.YtkmcjjoicpgjfaaDoor
open Go Go.RowKit Go.Sh

/-- order and width are such as a number may have -/
def okW (o d : Int) : Bool := decide ((o = 1 ∨ o = 2) ∧ 1 ≤ d ∧ d ≤ 8)
set_option maxRecDepth 100000 in
theorem okW_yes {o d : Int} (h : okW o d = true) : (o = 1 ∨ o = 2) ∧ 1 ≤ d ∧ d ≤ 8 := by simpa [okW] using h

set_option maxRecDepth 100000 in
theorem valid_any (o d : Int) (w : World) : Calls Tryd.prog 87 #[.int .i64 o, .int .i64 d] w fun e w' => e = .returned (.bool (okW o d)) ∧ w = w' := by
  have key : (o = 1 ∧ 1 ≤ d) ∨ (o = 2 ∧ 1 ≤ d) ∨ (o = 1 ∧ d < 1) ∨ (o = 2 ∧ d < 1) ∨ (o ≠ 1 ∧ o ≠ 2) := by omega
  rcases key with ⟨rfl, h⟩ | ⟨rfl, h⟩ | ⟨rfl, h⟩ | ⟨rfl, h⟩ | ⟨h, h'⟩
  · have H := Lib.hid (show okW 1 d = decide (d ≤ 8) by simp [okW, h])
    go_enter Tryd.func87, Tryd.ntmps87
    go_wp2
    go_ret
    exact ⟨by simp [H.out], rfl⟩
  · have H := Lib.hid (show okW 2 d = decide (d ≤ 8) by simp [okW, h])
    go_enter Tryd.func87, Tryd.ntmps87
    go_wp2
    go_ret
    exact ⟨by simp [H.out], rfl⟩
  · have H := Lib.hid (show okW 1 d = false by simp [okW]; omega)
    go_enter Tryd.func87, Tryd.ntmps87
    go_wp2
    go_ret
    exact ⟨by simp [H.out], rfl⟩
  · have H := Lib.hid (show okW 2 d = false by simp [okW]; omega)
    go_enter Tryd.func87, Tryd.ntmps87
    go_wp2
    go_ret
    exact ⟨by simp [H.out], rfl⟩
  · have H := Lib.hid (show okW o d = false by simp [okW]; omega)
    have e1 : (o == 1) = false := by simp [h]
    have e2 : (o == 2) = false := by simp [h']
    go_enter Tryd.func87, Tryd.ntmps87
    go_wp2
    go_ret
    exact ⟨by simp [H.out], rfl⟩

set_option maxRecDepth 100000 in
theorem shape_any (o d : Int) (w : World) : Calls Tryd.prog 82 #[.int .i64 o, .int .i64 d] w fun e w' => e = .returned (.bool (okW o d)) ∧ w = w' := by
  have key : (o = 1 ∧ 1 ≤ d) ∨ (o = 2 ∧ 1 ≤ d) ∨ (o = 1 ∧ d < 1) ∨ (o = 2 ∧ d < 1) ∨ (o ≠ 1 ∧ o ≠ 2) := by omega
  rcases key with ⟨rfl, h⟩ | ⟨rfl, h⟩ | ⟨rfl, h⟩ | ⟨rfl, h⟩ | ⟨h, h'⟩
  · have H := Lib.hid (show okW 1 d = decide (d ≤ 8) by simp [okW, h])
    go_enter Tryd.func82, Tryd.ntmps82
    go_wp2
    go_ret
    exact ⟨by simp [H.out], rfl⟩
  · have H := Lib.hid (show okW 2 d = decide (d ≤ 8) by simp [okW, h])
    go_enter Tryd.func82, Tryd.ntmps82
    go_wp2
    go_ret
    exact ⟨by simp [H.out], rfl⟩
  · have H := Lib.hid (show okW 1 d = false by simp [okW]; omega)
    go_enter Tryd.func82, Tryd.ntmps82
    go_wp2
    go_ret
    exact ⟨by simp [H.out], rfl⟩
  · have H := Lib.hid (show okW 2 d = false by simp [okW]; omega)
    go_enter Tryd.func82, Tryd.ntmps82
    go_wp2
    go_ret
    exact ⟨by simp [H.out], rfl⟩
  · have H := Lib.hid (show okW o d = false by simp [okW]; omega)
    have e1 : (o == 1) = false := by simp [h]
    have e2 : (o == 2) = false := by simp [h']
    go_enter Tryd.func82, Tryd.ntmps82
    go_wp2
    go_ret
    exact ⟨by simp [H.out], rfl⟩

/-- the number whose digit j, of weight 256^j, is f j -/
def val (f : Nat → Nat) : Nat → Nat
  | 0 => 0
  | m + 1 => val f m + f m * 256 ^ m
theorem val_congr {f g : Nat → Nat} : ∀ m, (∀ j, j < m → f j = g j) → val f m = val g m
  | 0, _ => rfl
  | m + 1, h => by rw [val, val, val_congr m (fun j hj => h j (by omega)), h m (by omega)]
theorem val_shift (f : Nat → Nat) : ∀ m, val f (m + 1) = f 0 + 256 * val (fun j => f (j + 1)) m
  | 0 => by simp [val]
  | m + 1 => by
    rw [val, val_shift f m, val, Nat.pow_succ, Nat.mul_add]
    have : f (m + 1) * (256 ^ m * 256) = 256 * (f (m + 1) * 256 ^ m) := by rw [← Nat.mul_assoc, Nat.mul_comm]
    omega
theorem val_lt {f : Nat → Nat} (h : ∀ j, f j < 256) : ∀ m, val f m < 256 ^ m
  | 0 => by simp [val]
  | m + 1 => by
    rw [val, Nat.pow_succ]
    have h1 := val_lt h m
    have h2 : (f m + 1) * 256 ^ m ≤ 256 * 256 ^ m := Nat.mul_le_mul_right _ (h m)
    rw [Nat.add_mul] at h2
    omega

/-- byte k of l -/
def by8 (l : List UInt8) (k : Nat) : Nat := (l.getD k 0).toNat
theorem by8_lt (l : List UInt8) (k : Nat) : by8 l k < 256 := (l.getD k 0).toNat_lt
theorem bt_by8 (l : List UInt8) (k : Nat) : bt l k = (by8 l k : Int) := rfl

theorem or_add_u64 (x y i : Nat) (hi : i ≤ 64) (hx : x % 2 ^ i = 0) (hx1 : x < 18446744073709551616) (hy : y < 2 ^ i) : bits .or .u64 (x : Int) (y : Int) = ((x + y : Nat) : Int) := by
  have hy1 : y < 2 ^ 64 := Nat.lt_of_lt_of_le hy (Nat.pow_le_pow_right (by decide) hi)
  have := bits_join .u64 64 (by decide) (fun n h0 h1 => by rw [IntKind.wrap_u64]; have : n < 18446744073709551616 := h1; omega) i (x : Int) (y : Int) (by omega) (by exact_mod_cast hx) (by exact_mod_cast hx1) (by omega) (by exact_mod_cast hy) (by exact_mod_cast hy1)
  rw [this]
  omega
theorem wrap_nat_u64 (x : Nat) (h : x < 18446744073709551616) : IntKind.u64.wrap (x : Int) = (x : Int) := by rw [IntKind.wrap_u64]; omega
theorem pow_le8 {k : Nat} (h : k ≤ 8) : 256 ^ k ≤ 18446744073709551616 := Nat.le_trans (Nat.pow_le_pow_right (by decide) h) (by decide)
theorem big_step (l : List UInt8) (a k V : Nat) (hk : k < 8) (hV : val (fun j => by8 l (a + k - 1 - j)) k = V) :
    bits .or .u64 (IntKind.u64.wrap ((V : Int) * 256)) (by8 l (a + k) : Int) = (val (fun j => by8 l (a + (k + 1) - 1 - j)) (k + 1) : Nat) := by
  have h1 := val_lt (fun j => by8_lt l (a + k - 1 - j)) k
  have h2 : 256 ^ k * 256 ≤ 18446744073709551616 := by rw [← Nat.pow_succ]; exact pow_le8 (by omega)
  rw [hV] at h1
  have h3 : V * 256 < 18446744073709551616 := Nat.lt_of_lt_of_le (Nat.mul_lt_mul_of_pos_right h1 (by decide)) h2
  have e1 : ((V : Int) * 256) = ((V * 256 : Nat) : Int) := by omega
  rw [e1, wrap_nat_u64 _ h3, or_add_u64 _ _ 8 (by decide) (by omega) h3 (by8_lt _ _), val_shift]
  have e2 : val (fun j => by8 l (a + (k + 1) - 1 - (j + 1))) k = V := by
    rw [← hV]
    exact val_congr _ (fun j hj => by congr 1; omega)
  rw [e2]
  have e3 : a + (k + 1) - 1 - 0 = a + k := by omega
  rw [e3]
  omega

theorem or_add_u64' (x y i : Nat) (hi : i ≤ 64) (hx : x % 2 ^ i = 0) (hx1 : x < 18446744073709551616) (hy : y < 2 ^ i) : bits .or .u64 (y : Int) (x : Int) = ((y + x : Nat) : Int) := by
  have hy1 : y < 2 ^ 64 := Nat.lt_of_lt_of_le hy (Nat.pow_le_pow_right (by decide) hi)
  have hw : ∀ n : Int, 0 ≤ n → n < 2 ^ 64 → IntKind.u64.wrap n = n := fun n h0 h1 => by rw [IntKind.wrap_u64]; have : n < 18446744073709551616 := h1; omega
  have h1 := or_add_u64 x y i hi hx hx1 hy
  rw [(bits_nat .u64 64 (by decide) hw x y hx1 hy1).2] at h1
  rw [(bits_nat .u64 64 (by decide) hw y x hy1 hx1).2, Nat.or_comm, h1, Nat.add_comm]
theorem small_step (l : List UInt8) (a k V : Nat) (hk : k < 8) (hV : val (fun j => by8 l (a + j)) k = V) :
    bits .or .u64 (V : Int) (IntKind.u64.wrap ((by8 l (a + k) : Int) * 2 ^ (8 * k))) = (val (fun j => by8 l (a + j)) (k + 1) : Nat) := by
  have h1 := val_lt (fun j => by8_lt l (a + j)) k
  rw [hV] at h1
  have hp : (2 : Nat) ^ (8 * k) = 256 ^ k := by rw [Nat.pow_mul]
  have h2 : 256 * 256 ^ k ≤ 18446744073709551616 := by rw [Nat.mul_comm, ← Nat.pow_succ]; exact pow_le8 (by omega)
  have h3 : by8 l (a + k) * 256 ^ k < 18446744073709551616 := Nat.lt_of_lt_of_le (Nat.mul_lt_mul_of_pos_right (by8_lt l (a + k)) (Nat.pow_pos (by decide))) h2
  have e1 : ((by8 l (a + k) : Int) * 2 ^ (8 * k)) = ((by8 l (a + k) * 256 ^ k : Nat) : Int) := by
    rw [← hp]
    simp
  rw [e1, wrap_nat_u64 _ h3, or_add_u64' _ _ (8 * k) (by omega) (by rw [hp]; exact Nat.mul_mod_left _ _) h3 (by rw [hp]; exact h1), val, hV]

/-- the digits of the number at place at, width d, in order o -/
def dig (o : Int) (l : List UInt8) (a d : Nat) (j : Nat) : Nat := if o = 2 then by8 l (a + d - 1 - j) else by8 l (a + j)
theorem dig_one (l : List UInt8) (a d : Nat) : dig 1 l a d = fun j => by8 l (a + j) := by funext j; simp [dig]
theorem dig_two (l : List UInt8) (a d : Nat) : dig 2 l a d = fun j => by8 l (a + d - 1 - j) := by funext j; simp [dig]
def getE (o : Int) (n : Nat) (a d : Int) : Int := if okW o d = false ∨ a < 0 then 1 else if (n : Int) < a + d then 2 else 0
def getV (o : Int) (l : List UInt8) (n : Nat) (a d : Int) : Nat := if getE o n a d = 0 then val (dig o l a.toNat d.toNat) d.toNat else 0

def GetPost (w : World) (v : Nat) (er : Int) (e : Ending) (w' : World) : Prop := e = .returned (.tuple #[.int .u64 (v : Int), .int .i64 er]) ∧ w = w'

set_option maxRecDepth 100000 in
theorem Get_any (o : Int) (A : Option Addr) (n c : Nat) (l : List UInt8) (a d : Int) (w : World) (B : Nat) (hl : RB w B A n l) (hn : n ≤ 140737488355328) (ha : -9223372036854775808 ≤ a ∧ a ≤ 9223372036854775807) :
    Calls Tryd.prog 76 #[.int .i64 o, .slice A n c, .int .i64 a, .int .i64 d] w (GetPost w (getV o l n a d) (getE o n a d)) := by
  obtain ⟨a1, a2⟩ := ha
  have HL := Lib.hid hl
  clear hl
  rcases Bool.eq_false_or_eq_true (okW o d) with hok | hok
  · obtain ⟨ho, d1, d2⟩ := okW_yes hok
    by_cases h0 : a < 0
    · have e1 : getE o n a d = 1 := by simp [getE, h0]
      have e2 : getV o l n a d = 0 := by simp [getV, e1]
      rw [e1, e2]
      clear e1 e2
      go_enter Tryd.func76, Tryd.ntmps76
      go_wp2_with fail
      refine (valid_any _ _ _).mono ?_
      rintro e w' ⟨rfl, rfl⟩
      rw [hok]
      clear hok ho
      go_wp2
      go_ret2
      exact ⟨by simp, rfl⟩
    · by_cases h1 : (n : Int) < a + d
      · have e1 : getE o n a d = 2 := by simp [getE, h0, hok, h1]
        have e2 : getV o l n a d = 0 := by simp [getV, e1]
        rw [e1, e2]
        clear e1 e2
        by_cases h2 : (n : Int) < a
        · go_enter Tryd.func76, Tryd.ntmps76
          go_wp2_with fail
          refine (valid_any _ _ _).mono ?_
          rintro e w' ⟨rfl, rfl⟩
          rw [hok]
          clear hok ho
          go_wp2
          go_ret2
          exact ⟨by simp, rfl⟩
        · go_enter Tryd.func76, Tryd.ntmps76
          go_wp2_with fail
          refine (valid_any _ _ _).mono ?_
          rintro e w' ⟨rfl, rfl⟩
          rw [hok]
          clear hok ho
          go_wp2
          go_ret2
          exact ⟨by simp, rfl⟩
      · have e1 : getE o n a d = 0 := by simp [getE, h0, hok, h1]
        have e2 : getV o l n a d = val (dig o l a.toNat d.toNat) d.toNat := by simp [getV, e1]
        rw [e1, e2]
        clear e1 e2
        obtain ⟨an, rfl⟩ := Int.eq_ofNat_of_zero_le (show 0 ≤ a by omega)
        obtain ⟨dn, rfl⟩ := Int.eq_ofNat_of_zero_le (show 0 ≤ d by omega)
        simp only [Int.toNat_natCast]
        rcases ho with rfl | rfl
        · go_enter Tryd.func76, Tryd.ntmps76
          go_wp2_with fail
          refine (valid_any _ _ _).mono ?_
          rintro e w' ⟨rfl, rfl⟩
          rw [hok]
          clear hok
          go_wp2
          go_loop [10, 11] (fun v i => ∃ k : Nat, k ≤ dn ∧ i = .int .i64 k ∧ v = .int .u64 (val (fun j => by8 l (an + j)) k : Nat)) (fun _ i => dn - (intOf i).toNat)
          case atStart => exact ⟨0, by omega, rfl, rfl⟩
          case round =>
            obtain ⟨k, hk, rfl, rfl⟩ := hrel
            by_cases hlt : k < dn
            · obtain ⟨ad, rfl, _, hc⟩ := HL.out.at_ (show an + k < n by omega)
              rw [bt_by8] at hc
              have b1 := by8_lt l (an + k)
              generalize hV : val (fun j => by8 l (an + j)) k = V
              have HV := Lib.hid hV
              clear hV
              go_wp2
              exact ⟨⟨k + 1, by omega, by go_num, by rw [small_step l an k V (by omega) HV.out]⟩, by simp [intOf]; omega⟩
            · obtain rfl : k = dn := by omega
              go_wp2
              go_ret2
              refine ⟨?_, rfl⟩
              rw [dig_one]
              simp
        · go_enter Tryd.func76, Tryd.ntmps76
          go_wp2_with fail
          refine (valid_any _ _ _).mono ?_
          rintro e w' ⟨rfl, rfl⟩
          rw [hok]
          clear hok
          go_wp2
          go_loop [10, 11] (fun v i => ∃ k : Nat, k ≤ dn ∧ i = .int .i64 k ∧ v = .int .u64 (val (fun j => by8 l (an + k - 1 - j)) k : Nat)) (fun _ i => dn - (intOf i).toNat)
          case atStart => exact ⟨0, by omega, rfl, rfl⟩
          case round =>
            obtain ⟨k, hk, rfl, rfl⟩ := hrel
            by_cases hlt : k < dn
            · obtain ⟨ad, rfl, _, hc⟩ := HL.out.at_ (show an + k < n by omega)
              rw [bt_by8] at hc
              have b1 := by8_lt l (an + k)
              generalize hV : val (fun j => by8 l (an + k - 1 - j)) k = V
              have HV := Lib.hid hV
              clear hV
              go_wp2
              exact ⟨⟨k + 1, by omega, by go_num, by rw [big_step l an k V (by omega) HV.out]⟩, by simp [intOf]; omega⟩
            · obtain rfl : k = dn := by omega
              go_wp2
              go_ret2
              refine ⟨?_, rfl⟩
              rw [dig_two]
              simp
  · have e1 : getE o n a d = 1 := by simp [getE, hok]
    have e2 : getV o l n a d = 0 := by simp [getV, e1]
    rw [e1, e2]
    clear e1 e2
    go_enter Tryd.func76, Tryd.ntmps76
    go_wp2_with fail
    refine (valid_any _ _ _).mono ?_
    rintro e w' ⟨rfl, rfl⟩
    rw [hok]
    clear hok
    go_wp2
    go_ret2
    exact ⟨by simp, rfl⟩

/-- the weight of digit k, as 64 bits have it -/
def wt (k : Nat) : Nat := 256 ^ k % 18446744073709551616
theorem wt_small {k : Nat} (h : k < 8) : wt k = 256 ^ k := Nat.mod_eq_of_lt (Nat.lt_of_lt_of_le (Nat.pow_lt_pow_right (by decide) h) (by decide))
theorem wt_step {k : Nat} (h : k < 8) : IntKind.u64.wrap ((wt k : Int) * 256) = (wt (k + 1) : Nat) := by
  rw [wt_small h, IntKind.wrap_u64]
  unfold wt
  rw [Nat.pow_succ]
  omega
theorem ref_step (f : Nat → Nat) (k V b : Nat) (hk : k < 8) (hf : ∀ j, f j < 256) (hV : val f k = V) (hb : f k = b) : IntKind.u64.wrap ((V : Int) + IntKind.u64.wrap ((wt k : Int) * (b : Int))) = (val f (k + 1) : Nat) := by
  have h1 := val_lt hf (k + 1)
  have h2 : 256 ^ (k + 1) ≤ 18446744073709551616 := pow_le8 (by omega)
  rw [val, hV, hb, Nat.mul_comm] at h1
  rw [wt_small hk, val, hV, hb]
  have e1 : ((256 ^ k : Nat) : Int) * (b : Int) = ((256 ^ k * b : Nat) : Int) := by simp
  rw [e1, wrap_nat_u64 _ (by omega), Nat.mul_comm b]
  have e2 : (V : Int) + ((256 ^ k * b : Nat) : Int) = ((V + 256 ^ k * b : Nat) : Int) := by omega
  rw [e2, wrap_nat_u64 _ (by omega)]

set_option maxRecDepth 100000 in
theorem RefGet_any (o : Int) (A : Option Addr) (n c : Nat) (l : List UInt8) (a d : Int) (w : World) (B : Nat) (hl : RB w B A n l) (hn : n ≤ 140737488355328) (ha : -9223372036854775808 ≤ a ∧ a ≤ 9223372036854775807) :
    Calls Tryd.prog 70 #[.int .i64 o, .slice A n c, .int .i64 a, .int .i64 d] w (GetPost w (getV o l n a d) (getE o n a d)) := by
  obtain ⟨a1, a2⟩ := ha
  have HL := Lib.hid hl
  clear hl
  rcases Bool.eq_false_or_eq_true (okW o d) with hok | hok
  · obtain ⟨ho, d1, d2⟩ := okW_yes hok
    by_cases h0 : a < 0
    · have e1 : getE o n a d = 1 := by simp [getE, h0]
      have e2 : getV o l n a d = 0 := by simp [getV, e1]
      rw [e1, e2]
      clear e1 e2
      go_enter Tryd.func70, Tryd.ntmps70
      go_wp2_with fail
      refine (shape_any _ _ _).mono ?_
      rintro e w' ⟨rfl, rfl⟩
      rw [hok]
      clear hok ho
      go_wp2
      go_ret2
      exact ⟨by simp, rfl⟩
    · by_cases h1 : (n : Int) < a + d
      · have e1 : getE o n a d = 2 := by simp [getE, h0, hok, h1]
        have e2 : getV o l n a d = 0 := by simp [getV, e1]
        rw [e1, e2]
        clear e1 e2
        by_cases h2 : (n : Int) < d
        · go_enter Tryd.func70, Tryd.ntmps70
          go_wp2_with fail
          refine (shape_any _ _ _).mono ?_
          rintro e w' ⟨rfl, rfl⟩
          rw [hok]
          clear hok ho
          go_wp2
          go_ret2
          exact ⟨by simp, rfl⟩
        · go_enter Tryd.func70, Tryd.ntmps70
          go_wp2_with fail
          refine (shape_any _ _ _).mono ?_
          rintro e w' ⟨rfl, rfl⟩
          rw [hok]
          clear hok ho
          go_wp2
          go_ret2
          exact ⟨by simp, rfl⟩
      · have e1 : getE o n a d = 0 := by simp [getE, h0, hok, h1]
        have e2 : getV o l n a d = val (dig o l a.toNat d.toNat) d.toNat := by simp [getV, e1]
        rw [e1, e2]
        clear e1 e2
        obtain ⟨an, rfl⟩ := Int.eq_ofNat_of_zero_le (show 0 ≤ a by omega)
        obtain ⟨dn, rfl⟩ := Int.eq_ofNat_of_zero_le (show 0 ≤ d by omega)
        simp only [Int.toNat_natCast]
        rcases ho with rfl | rfl
        · rw [dig_one]
          go_enter Tryd.func70, Tryd.ntmps70
          go_wp2_with fail
          refine (shape_any _ _ _).mono ?_
          rintro e w' ⟨rfl, rfl⟩
          rw [hok]
          clear hok
          go_wp2
          go_loop [10, 11, 12, 13] (fun v q i _ => ∃ k : Nat, k ≤ dn ∧ i = .int .i64 k ∧ v = .int .u64 (val (fun j => by8 l (an + j)) k : Nat) ∧ q = .int .u64 (wt k : Nat)) (fun _ _ i _ => dn - (intOf i).toNat)
          case atStart => exact ⟨0, by omega, rfl, rfl, rfl⟩
          case round =>
            obtain ⟨k, hk, rfl, rfl, rfl⟩ := hrel
            by_cases hlt : k < dn
            · obtain ⟨ad, rfl, _, hc⟩ := HL.out.at_ (show an + k < n by omega)
              rw [bt_by8] at hc
              have b1 := by8_lt l (an + k)
              generalize hV : val (fun j => by8 l (an + j)) k = V
              have HV := Lib.hid hV
              clear hV
              go_wp2
              exact ⟨⟨k + 1, by omega, by go_num, by rw [ref_step _ k V _ (by omega) (fun j => by8_lt _ _) HV.out rfl], by rw [wt_step (by omega)]⟩, by simp [intOf]; omega⟩
            · obtain rfl : k = dn := by omega
              go_wp2
              go_ret2
              exact ⟨by simp, rfl⟩
        · rw [dig_two]
          go_enter Tryd.func70, Tryd.ntmps70
          go_wp2_with fail
          refine (shape_any _ _ _).mono ?_
          rintro e w' ⟨rfl, rfl⟩
          rw [hok]
          clear hok
          go_wp2
          go_loop [10, 11, 12, 13] (fun v q i _ => ∃ k : Nat, k ≤ dn ∧ i = .int .i64 k ∧ v = .int .u64 (val (fun j => by8 l (an + dn - 1 - j)) k : Nat) ∧ q = .int .u64 (wt k : Nat)) (fun _ _ i _ => dn - (intOf i).toNat)
          case atStart => exact ⟨0, by omega, rfl, rfl, rfl⟩
          case round =>
            obtain ⟨k, hk, rfl, rfl, rfl⟩ := hrel
            by_cases hlt : k < dn
            · obtain ⟨ad, rfl, _, hc⟩ := HL.out.at_ (show an + dn - 1 - k < n by omega)
              rw [bt_by8] at hc
              have b1 := by8_lt l (an + dn - 1 - k)
              generalize hV : val (fun j => by8 l (an + dn - 1 - j)) k = V
              have HV := Lib.hid hV
              clear hV
              go_wp2
              exact ⟨⟨k + 1, by omega, by go_num, by rw [ref_step _ k V _ (by omega) (fun j => by8_lt _ _) HV.out rfl], by rw [wt_step (by omega)]⟩, by simp [intOf]; omega⟩
            · obtain rfl : k = dn := by omega
              go_wp2
              go_ret2
              exact ⟨by simp, rfl⟩
  · have e1 : getE o n a d = 1 := by simp [getE, hok]
    have e2 : getV o l n a d = 0 := by simp [getV, e1]
    rw [e1, e2]
    clear e1 e2
    go_enter Tryd.func70, Tryd.ntmps70
    go_wp2_with fail
    refine (shape_any _ _ _).mono ?_
    rintro e w' ⟨rfl, rfl⟩
    rw [hok]
    clear hok
    go_wp2
    go_ret2
    exact ⟨by simp, rfl⟩

end Go.Proofs.YtkmcjjoicpgjfaaDoor
