/-
  Contracts of chacha.word, chacha.initial and chacha.round. Conditions: the places lie within the lists.
-/
import Derived.Test.YtkaakgabhhkggaaCha
import Derived.Test.YtkaakgabhhkggaaMid
namespace Go.Proofs.Ytkaakgabhhkggaa
open Go Go.RowKit Go.Sh

theorem or_add_u32 (x y i : Nat) (hi : i ≤ 32) (hx : x % 2 ^ i = 0) (hx1 : x < 4294967296) (hy : y < 2 ^ i) : bits .or .u32 (y : Int) (x : Int) = ((y + x : Nat) : Int) := by
  have hy1 : y < 2 ^ 32 := Nat.lt_of_lt_of_le hy (Nat.pow_le_pow_right (by decide) hi)
  have hw : ∀ n : Int, 0 ≤ n → n < 2 ^ 32 → IntKind.u32.wrap n = n := fun n h0 h1 => by rw [IntKind.wrap_u32]; have : n < 4294967296 := h1; omega
  have h1 := bits_join .u32 32 (by decide) hw i (x : Int) (y : Int) (by omega) (by exact_mod_cast hx) (by exact_mod_cast hx1) (by omega) (by exact_mod_cast hy) (by exact_mod_cast hy1)
  rw [(bits_nat .u32 32 (by decide) hw x y hx1 hy1).2] at h1
  rw [(bits_nat .u32 32 (by decide) hw y x hy1 hx1).2, Nat.or_comm, h1]
  omega
theorem word_num (l : List UInt8) (a : Nat) : bits .or .u32 (bits .or .u32 (bits .or .u32 (bt l a) (bt l (a + 1) * 256)) (bt l (a + 2) * 65536)) (bt l (a + 3) * 16777216) = wd l a := by
  have h0 := by8_lt l a
  have h1 := by8_lt l (a + 1)
  have h2 := by8_lt l (a + 2)
  have h3 := by8_lt l (a + 3)
  rw [wd_eq]
  simp only [bt_by8]
  have e1 : (by8 l (a + 1) : Int) * 256 = ((by8 l (a + 1) * 256 : Nat) : Int) := by omega
  have e2 : (by8 l (a + 2) : Int) * 65536 = ((by8 l (a + 2) * 65536 : Nat) : Int) := by omega
  have e3 : (by8 l (a + 3) : Int) * 16777216 = ((by8 l (a + 3) * 16777216 : Nat) : Int) := by omega
  rw [e1, e2, e3]
  rw [or_add_u32 _ _ 8 (by decide) (by omega) (by omega) (by omega), or_add_u32 _ _ 16 (by decide) (by omega) (by omega) (by omega), or_add_u32 _ _ 24 (by decide) (by omega) (by omega) (by omega)]
  omega

set_option maxRecDepth 100000 in
set_option maxHeartbeats 1000000 in
theorem word_any (A : Option Addr) (n c : Nat) (l : List UInt8) (a : Nat) (w : World) (B : Nat) (hr : RB w B A n l) (ha : a + 3 < n) (hn : n ≤ 140737488355328) :
    Calls Try.prog 72 #[.slice A n c, .int .i64 (a : Int)] w (fun e w' => e = .returned (.int .u32 (wd l a)) ∧ ∃ m, w' = w.drewN m) := by
  obtain ⟨ad, rfl, _, c0⟩ := hr.at_ (k := a) (by omega)
  obtain ⟨ad1, h1, _, c1⟩ := hr.at_ (k := a + 1) (by omega)
  obtain ⟨ad2, h2, _, c2⟩ := hr.at_ (k := a + 2) (by omega)
  obtain ⟨ad3, h3, _, c3⟩ := hr.at_ (k := a + 3) (by omega)
  obtain rfl := Option.some.inj h1
  obtain rfl := Option.some.inj h2
  obtain rfl := Option.some.inj h3
  rw [show ad.add (a + 1) = ⟨ad.block, ad.off + (a + 1), none⟩ by rw [Addr.add, if_neg (by omega)]] at c1
  rw [show ad.add (a + 2) = ⟨ad.block, ad.off + (a + 2), none⟩ by rw [Addr.add, if_neg (by omega)]] at c2
  rw [show ad.add (a + 3) = ⟨ad.block, ad.off + (a + 3), none⟩ by rw [Addr.add, if_neg (by omega)]] at c3
  have HW := Lib.hid (word_num l a)
  have b0 := bt_lo l a
  have b1 := bt_lo l (a + 1)
  have b2 := bt_lo l (a + 2)
  have b3 := bt_lo l (a + 3)
  have d0 := bt_hi l a
  have d1 := bt_hi l (a + 1)
  have d2 := bt_hi l (a + 2)
  have d3 := bt_hi l (a + 3)
  clear hr h1 h2 h3
  have g0 : a < n := by omega
  have g1 : (a : Int) + 1 < (n : Int) := by omega
  have p1 : 0 ≤ (a : Int) + 1 := by omega
  have t1 : ((a : Int) + 1).toNat = a + 1 := by omega
  have u1 : IntKind.i64.wrap ((a : Int) + 1) = (a : Int) + 1 := by rw [IntKind.wrap_i64]; omega
  have g2 : (a : Int) + 2 < (n : Int) := by omega
  have p2 : 0 ≤ (a : Int) + 2 := by omega
  have t2 : ((a : Int) + 2).toNat = a + 2 := by omega
  have u2 : IntKind.i64.wrap ((a : Int) + 2) = (a : Int) + 2 := by rw [IntKind.wrap_i64]; omega
  have g3 : (a : Int) + 3 < (n : Int) := by omega
  have p3 : 0 ≤ (a : Int) + 3 := by omega
  have t3 : ((a : Int) + 3).toNat = a + 3 := by omega
  have u3 : IntKind.i64.wrap ((a : Int) + 3) = (a : Int) + 3 := by rw [IntKind.wrap_i64]; omega
  generalize bt l a = x0 at *
  generalize bt l (a + 1) = x1 at *
  generalize bt l (a + 2) = x2 at *
  generalize bt l (a + 3) = x3 at *
  go_enter Try.func72, Try.ntmps72
  go_wp2
  go_quiet (fail)
  go_wp2
  go_ret
  exact ⟨by rw [← HW.out]; rfl, nq, rfl⟩
end Go.Proofs.Ytkaakgabhhkggaa
