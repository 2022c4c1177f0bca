/-
  The ladder in numbers below 2^255 - 19 is the ladder over the residues; so chains of scalars in whatever order come to the same number. Conditions: the scalars have 32 bytes.
-/
import Derived.Test.YtgpjidlomhkpeaaCvMul
import Derived.Test.YtgpjidlomhkpeaaEdw
namespace Go.Proofs.Ytgpjidlomhkpeaa
open Go Go.RowKit Go.Sh

/-- a number's residue -/
def rs (n : Nat) : Fin Edw.P := ⟨n % Edw.P, Nat.mod_lt _ (by decide)⟩
theorem pF_P : pF = Edw.P := rfl
theorem rs_add (u v : Nat) : rs (u + v) = rs u + rs v := Fin.ext (by show (u + v) % Edw.P = (u % Edw.P + v % Edw.P) % Edw.P; rw [← Nat.add_mod])
theorem rs_mul (u v : Nat) : rs (u * v) = rs u * rs v := Fin.ext (by show (u * v) % Edw.P = (u % Edw.P * (v % Edw.P)) % Edw.P; rw [← Nat.mul_mod])
theorem rs_mod (u : Nat) : rs (u % pF) = rs u := Fin.ext (Nat.mod_mod u Edw.P)
theorem rs_A (u v : Nat) : rs (fA u v) = rs u + rs v := by rw [fA, rs_mod, rs_add]
theorem rs_Q (u : Nat) : rs (fQ u) = rs u * rs u := by rw [fQ, rs_mod, rs_mul]
theorem rs_M (u v : Nat) : rs (fM u v) = rs u * rs v := by rw [fM, rs_mod, rs_mul, rs_mod]
theorem rs_S (u v : Nat) : rs (fS u v) = rs u - rs v := by
  rw [fS, rs_mod]
  have h : rs (u + (pF - v % pF)) + rs v = rs u := by
    rw [← rs_add]
    apply Fin.ext
    show (u + (pF - v % pF) + v) % pF = u % pF
    have hlt : v % pF < pF := Nat.mod_lt _ (by decide)
    have e : u + (pF - v % pF) + v = u + pF * (1 + v / pF) := by
      have := Nat.mod_add_div v pF
      rw [Nat.mul_add, Nat.mul_one]
      omega
    rw [e, Nat.add_mul_mod_self_left]
  generalize rs (u + (pF - v % pF)) = x at *
  generalize rs u = y at *
  generalize rs v = z at *
  grobner
/-- a ladder's numbers as residues -/
def rs4 (s : S4) : Edw.St4 Edw.P := ⟨rs s.x2, rs s.z2, rs s.x3, rs s.z3⟩
theorem rs_one : rs 1 = 1 := rfl
theorem rs_zero : rs 0 = 0 := rfl
theorem rs_k : rs 121665 = 121665 := rfl
theorem rs_stp (x1 : Nat) (s : S4) : rs4 (stpN x1 s) = Edw.stp 121665 (rs x1) (rs4 s) := by
  simp only [rs4, stpN, Edw.stp, nX2, nZ2, nX3, nZ3, nE, rs_A, rs_Q, rs_M, rs_S, rs_k, Edw.dblX, Edw.dblZ, Edw.addX, Edw.addZ]
theorem rs_bstp (x1 : Nat) (b : Bool) (s : S4) : rs4 (bstpN x1 b s) = Edw.bstp 121665 (rs x1) b (rs4 s) := by
  cases b
  · exact rs_stp x1 s
  · show (rs4 (stpN x1 s.sw)).swap = (Edw.stp 121665 (rs x1) (rs4 s).swap).swap
    rw [rs_stp]
    rfl
theorem rs_run (x1 n : Nat) : ∀ j, rs4 (runN x1 n j) = Edw.run 121665 (rs x1) n j
  | 0 => rfl
  | j + 1 => by rw [runN, Edw.run, rs_bstp, rs_run x1 n j]
theorem rs_pow (b : Nat) : ∀ n, rs (b ^ n) = Edw.pwF (rs b) n
  | 0 => rfl
  | n + 1 => by rw [Nat.pow_succ, rs_mul, rs_pow b n, Edw.pwF]
theorem rs_LN (n x : Nat) : rs (LN n x) = Edw.L Edw.K 121665 n (rs x) := by
  have h := rs_run x n 255
  rw [LN, rs_mod, rs_mul, rs_mod, rs_pow, Edw.L, ← h]
  rfl
theorem LN_lt (n x : Nat) : LN n x < pF := Nat.mod_lt _ (by decide)
theorem rs_inj {a b : Nat} (ha : a < pF) (hb : b < pF) (h : rs a = rs b) : a = b := by
  have := congrArg Fin.val h
  rw [show (rs a).val = a % pF from rfl, show (rs b).val = b % pF from rfl, Nat.mod_eq_of_lt ha, Nat.mod_eq_of_lt hb] at this
  exact this
theorem LN_comm {m n : Nat} (hm : m < 2 ^ 255) (hn : n < 2 ^ 255) (x : Nat) : LN m (LN n x) = LN n (LN m x) := by
  refine rs_inj (LN_lt _ _) (LN_lt _ _) ?_
  rw [rs_LN, rs_LN, rs_LN, rs_LN, Edw.L_comm Edw.T hm hn]
theorem LN_zero (n : Nat) : LN n 0 = 0 := by
  refine rs_inj (LN_lt _ _) (by decide) ?_
  rw [rs_LN, rs_zero, Edw.L_zero]
theorem LN_low {n x : Nat} (hn : n < 2 ^ 255) (h8 : n % 8 = 0) (h : LN (2 ^ 254) x = 0) : LN n x = 0 := by
  refine rs_inj (LN_lt _ _) (by decide) ?_
  rw [rs_LN, rs_zero]
  refine Edw.L_low Edw.T hn h8 ?_
  rw [← rs_LN, h, rs_zero]
/-- a scalar's number -/
def scN (k : List UInt8) : Nat := le (clampB k)
theorem clamp_len {k : List UInt8} (h : k.length = 32) : (clampB k).length = 32 := by simp [clampB, h]
theorem le_snoc' (l : List UInt8) (h : l.length = 32) : le l = le (l.take 31) + (l.getD 31 0).toNat * 256 ^ 31 := by
  have e : l = l.take 31 ++ [l.getD 31 0] := by
    rw [List.getD_eq_getElem?_getD, List.getElem?_eq_getElem (by omega)]
    have := List.take_append_drop 31 l
    rw [List.drop_eq_getElem_cons (by omega), List.drop_eq_nil_of_le (by omega)] at this
    exact this.symm
  conv => lhs; rw [e]
  rw [le_snoc, List.length_take, h, show min 31 32 = 31 from rfl]
theorem scN_lt {k : List UInt8} (h : k.length = 32) : scN k < 2 ^ 255 := by
  have hl := le_snoc' (clampB k) (clamp_len h)
  have ht := le_lt ((clampB k).take 31)
  rw [List.length_take, clamp_len h, show min 31 32 = 31 from rfl] at ht
  have hb : ((clampB k).getD 31 0).toNat < 128 := by
    have e : (clampB k).getD 31 0 = (k.getD 31 0 &&& 127) ||| 64 := by
      rw [clampB, List.getD_eq_getElem?_getD, List.getElem?_set_self (by simp [h])]
      rfl
    rw [e, UInt8.toNat_or, UInt8.toNat_and]
    exact Nat.or_lt_two_pow (n := 7) (Nat.lt_of_le_of_lt Nat.and_le_right (by decide)) (by decide)
  have h2 : (2 : Nat) ^ 255 = 128 * 256 ^ 31 := by decide
  unfold scN
  rw [hl, h2]
  have h3 : (((clampB k).getD 31 0).toNat + 1) * 256 ^ 31 ≤ 128 * 256 ^ 31 := Nat.mul_le_mul_right _ hb
  rw [Nat.add_mul, Nat.one_mul] at h3
  omega
theorem scN_8 {k : List UInt8} (h : k.length = 32) : scN k % 8 = 0 := by
  have h1 := le_at (clampB k) 0 (by rw [clamp_len h]; decide)
  have e : (clampB k).getD 0 0 = k.getD 0 0 &&& 248 := by
    rw [clampB, List.getD_eq_getElem?_getD, List.getElem?_set_ne (by decide), List.getElem?_set_ne (by decide), List.getElem?_set_self (by omega)]
    rfl
  rw [e, UInt8.toNat_and, Nat.pow_zero, Nat.div_one] at h1
  have h2 : (k.getD 0 0).toNat &&& (248 : UInt8).toNat = ((k.getD 0 0).toNat / 8 &&& 31) * 8 := by
    apply Nat.eq_of_testBit_eq
    intro i
    rw [Nat.testBit_and, show (248 : UInt8).toNat = 31 * 2 ^ 3 from rfl, show ((k.getD 0 0).toNat / 8 &&& 31) * 8 = ((k.getD 0 0).toNat / 8 &&& 31) * 2 ^ 3 from rfl, Nat.testBit_mul_two_pow, Nat.testBit_mul_two_pow, Nat.testBit_and, show (k.getD 0 0).toNat / 8 = (k.getD 0 0).toNat / 2 ^ 3 from rfl, Nat.testBit_div_two_pow]
    by_cases hi : 3 ≤ i
    · simp only [hi, decide_true, Bool.true_and]
      rw [show i - 3 + 3 = i by omega]
    · simp only [hi, decide_false, Bool.false_and, Bool.and_false]
  rw [h2] at h1
  unfold scN
  omega
theorem scN_zero : scN z32 = 2 ^ 254 := by decide +kernel
section
variable (f : List UInt8 → Nat → Nat)
/-- steps one behind the other: none where nought comes out -/
def chG : Nat → List (List UInt8) → Option Nat
  | x, [] => some x
  | x, k :: ks => if f k x = 0 then none else chG (f k x) ks
theorem chG_nil (x : Nat) : chG f x [] = some x := rfl
theorem chG_none {x : Nat} {k : List UInt8} {ks : List (List UInt8)} (h : f k x = 0) : chG f x (k :: ks) = none := if_pos h
theorem chG_some {x : Nat} {k : List UInt8} {ks : List (List UInt8)} (h : f k x ≠ 0) : chG f x (k :: ks) = chG f (f k x) ks := if_neg h
theorem chG_perm (h0 : ∀ k, f k 0 = 0) (hc : ∀ a b, a.length = 32 → b.length = 32 → ∀ x, f a (f b x) = f b (f a x)) {a b : List (List UInt8)} (h : a.Perm b) : (∀ k ∈ a, k.length = 32) → ∀ x, chG f x a = chG f x b := by
  induction h with
  | nil => intro _ _; rfl
  | cons k _ ih =>
    intro hl x
    by_cases h1 : f k x = 0
    · rw [chG_none f h1, chG_none f h1]
    · rw [chG_some f h1, chG_some f h1, ih fun k hk => hl k (List.mem_cons_of_mem _ hk)]
  | swap a b l =>
    intro hl x
    have hc := hc a b (hl a (by simp)) (hl b (by simp)) x
    by_cases h1 : f a x = 0
    · rw [h1, h0] at hc
      rw [chG_none f h1]
      by_cases h2 : f b x = 0
      · rw [chG_none f h2]
      · rw [chG_some f h2, chG_none f hc]
    · by_cases h2 : f b x = 0
      · rw [h2, h0] at hc
        rw [chG_none f h2, chG_some f h1, chG_none f hc.symm]
      · rw [chG_some f h1, chG_some f h2]
        by_cases h3 : f a (f b x) = 0
        · rw [chG_none f h3, chG_none f (hc ▸ h3)]
        · rw [chG_some f h3, chG_some f (hc ▸ h3), hc]
  | trans h1 _ ih1 ih2 =>
    intro hl x
    rw [ih1 hl x, ih2 (fun k hk => hl k (h1.mem_iff.2 hk)) x]
theorem chG_lt {p : Nat} (hf : ∀ k x, f k x < p) : ∀ {ks : List (List UInt8)} {x y : Nat}, x < p → chG f x ks = some y → y < p
  | [], x, y, hx, h => by obtain rfl := Option.some.inj h; exact hx
  | k :: ks, x, y, hx, h => by
    by_cases h1 : f k x = 0
    · rw [chG_none f h1] at h; cases h
    · rw [chG_some f h1] at h; exact chG_lt hf (hf _ _) h
theorem chG_low {x y : Nat} {ks : List (List UInt8)} (hk : ∀ k ∈ ks, f k x = 0) (hn : ks ≠ []) (h : chG f x ks = some y) : False := by
  cases ks with
  | nil => exact hn rfl
  | cons k ks =>
    rw [chG_none f (hk k (List.mem_cons_self ..))] at h
    cases h
end
/-- a scalar's step -/
def sc (k : List UInt8) (x : Nat) : Nat := LN (scN k) x
theorem sc_lt (k : List UInt8) (x : Nat) : sc k x < pF := LN_lt _ _
/-- scalars one behind the other: none where nought comes out -/
def chN : Nat → List (List UInt8) → Option Nat := chG sc
theorem chN_nil (x : Nat) : chN x [] = some x := rfl
theorem chN_none {x : Nat} {k : List UInt8} {ks : List (List UInt8)} (h : sc k x = 0) : chN x (k :: ks) = none := chG_none sc h
theorem chN_some {x : Nat} {k : List UInt8} {ks : List (List UInt8)} (h : sc k x ≠ 0) : chN x (k :: ks) = chN (sc k x) ks := chG_some sc h
theorem chN_perm {a b : List (List UInt8)} (h : a.Perm b) (hl : ∀ k ∈ a, k.length = 32) (x : Nat) : chN x a = chN x b :=
  chG_perm sc (fun _ => LN_zero _) (fun _ _ ha hb x => LN_comm (scN_lt ha) (scN_lt hb) x) h hl x
theorem chN_lt {ks : List (List UInt8)} {x y : Nat} (hx : x < pF) (h : chN x ks = some y) : y < pF := chG_lt sc sc_lt hx h
/-- a point that 2^254 sends to nought is no chain's beginning -/
theorem chN_low {ks : List (List UInt8)} (hk : ∀ k ∈ ks, k.length = 32) (hn : ks ≠ []) {x y : Nat} (h : chN x ks = some y) : sc z32 x ≠ 0 := fun h0 =>
  chG_low sc (fun k hm => LN_low (scN_lt (hk k hm)) (scN_8 (hk k hm)) (by rw [← scN_zero]; exact h0)) hn h
theorem toLe_z32 {y : Nat} (h : y < pF) : toLe 32 y = z32 ↔ y = 0 := by
  have hy : y < 256 ^ 32 := Nat.lt_trans h (by decide)
  refine ⟨fun e => ?_, fun e => by subst e; decide⟩
  rw [← toLe_le 32 y hy, e]
  decide
theorem le_back {x : Nat} (h : x < pF) : le (toLe 32 x) % 57896044618658097711785492504343953926634992332820282019728792003956564819968 % pF = x := by
  rw [toLe_le 32 x (Nat.lt_trans h (by decide)), Nat.mod_eq_of_lt (Nat.lt_trans h (by decide)), Nat.mod_eq_of_lt h]
end Go.Proofs.Ytgpjidlomhkpeaa
