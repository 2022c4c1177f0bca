/-
  Words for the reference's hash in plain Lean: the words of the schedule one by one, a word out of its bytes step by step, the memory of a round. No statement of the seat is proved here.
-/
import Derived.Test.YtkaakgabhhkggaaRefSha1
import Derived.Test.YtkaakgabhhkggaaShaComp
namespace Go.Proofs.Ytkaakgabhhkggaa
open Go Go.RowKit Go.Sh

theorem it_app_lo (s r : List Int) {j : Nat} (h : j < s.length) : it (s ++ r) j = it s j := by
  unfold it
  rw [List.getD_eq_getElem?_getD, List.getD_eq_getElem?_getD, List.getElem?_append_left h]
theorem it_app_at (s : List Int) (x : Int) (r : List Int) : it (s ++ x :: r) s.length = x := by
  unfold it
  rw [List.getD_eq_getElem?_getD, List.getElem?_append_right (Nat.le_refl _), Nat.sub_self]
  rfl
theorem shExt_more (s : List Int) (n : Nat) : ∀ d j, j < s.length + n → it (shExt s (n + d)) j = it (shExt s n) j
  | 0, _, _ => rfl
  | d + 1, j, h => by
    rw [show n + (d + 1) = n + d + 1 by omega, shExt, it_app_lo _ _ (by rw [length_shExt]; omega), shExt_more s n d j h]
/-- word j of the schedule -/
def swd (l : List UInt8) (j : Nat) : Int := it (shSched l) j
theorem swd_w (l : List UInt8) (j : Nat) : W32 (swd l j) := (AW.shSched l).at_ j
theorem swd_lo (l : List UInt8) {j : Nat} (h : j < 16) : swd l j = beW l (4 * j) := by
  unfold swd shSched
  rw [show (48 : Nat) = 0 + 48 from rfl, shExt_more _ 0 48 j (by rw [length_beWs]; omega), shExt]
  unfold beWs it
  simp [h]
theorem swd_ext (l : List UInt8) {j n : Nat} (h : j < 16 + n) (h2 : n ≤ 48) : it (shExt (beWs l 16) n) j = swd l j := by
  unfold swd shSched
  obtain ⟨d, hd⟩ : ∃ d, 48 = n + d := ⟨48 - n, by omega⟩
  rw [hd, shExt_more _ n d j (by rw [length_beWs]; omega)]
theorem swd_hi (l : List UInt8) {j : Nat} (h : 16 ≤ j) (h2 : j < 64) : swd l j = ad (ad (ad (sg1 (swd l (j - 2))) (swd l (j - 7))) (sg0 (swd l (j - 15)))) (swd l (j - 16)) := by
  obtain ⟨n, rfl⟩ : ∃ n, j = 16 + n := ⟨j - 16, by omega⟩
  have hl : (shExt (beWs l 16) n).length = 16 + n := by rw [length_shExt, length_beWs]
  rw [← swd_ext l (n := n + 1) (by omega) (by omega), shExt]
  have e := it_app_at (shExt (beWs l 16) n) (shNew (shExt (beWs l 16) n)) []
  rw [hl] at e
  rw [e]
  unfold shNew
  rw [hl, swd_ext l (by omega) (by omega), swd_ext l (by omega) (by omega), swd_ext l (by omega) (by omega), swd_ext l (by omega) (by omega)]
/-- the row of the words when k of them are there -/
def wrow (l : List UInt8) (k : Nat) : List Int := (List.range k).map (swd l) ++ zw (64 - k)
theorem length_wrow (l : List UInt8) {k : Nat} (h : k ≤ 64) : (wrow l k).length = 64 := by
  unfold wrow
  rw [List.length_append, List.length_map, List.length_range, length_zw]
  omega
set_option maxRecDepth 100000 in
theorem it_wrow (l : List UInt8) {j k : Nat} (h : j < k) : it (wrow l k) j = swd l j := by
  unfold wrow
  rw [it_app_lo _ _ (by simpa using h)]
  unfold it
  simp [h]
theorem wrow_zero (l : List UInt8) : wrow l 0 = zw 64 := rfl
theorem wrow_set (l : List UInt8) {k : Nat} (h : k < 64) : (wrow l k).set k (swd l k) = wrow l (k + 1) := by
  unfold wrow
  obtain ⟨m, hm⟩ : ∃ m, 64 - k = m + 1 := ⟨63 - k, by omega⟩
  rw [List.set_append_right _ _ (by simp), show 64 - (k + 1) = m by omega, hm]
  simp [zw, List.replicate_succ, List.range_succ]
theorem it_wrow_at (l : List UInt8) {k : Nat} (h : k < 64) : it (wrow l k) k = 0 := by
  unfold wrow
  obtain ⟨m, hm⟩ : ∃ m, 64 - k = m + 1 := ⟨63 - k, by omega⟩
  have e := it_app_at ((List.range k).map (swd l)) 0 (zw m)
  rw [List.length_map, List.length_range] at e
  rw [hm]
  exact e
/-- the first i of four bytes as a number -/
def hb (l : List UInt8) (a : Nat) : Nat → Int
  | 0 => 0
  | i + 1 => hb l a i * 256 + bt l (a + i)
theorem hb_b (l : List UInt8) (a : Nat) : 0 ≤ hb l a 0 ∧ hb l a 0 < 1 ∧ 0 ≤ hb l a 1 ∧ hb l a 1 < 256 ∧ 0 ≤ hb l a 2 ∧ hb l a 2 < 65536 ∧ 0 ≤ hb l a 3 ∧ hb l a 3 < 16777216 ∧ 0 ≤ hb l a 4 ∧ hb l a 4 < 4294967296 := by
  have b0 := bt_lo l (a + 0)
  have b1 := bt_lo l (a + 1)
  have b2 := bt_lo l (a + 2)
  have b3 := bt_lo l (a + 3)
  have d0 := bt_hi l (a + 0)
  have d1 := bt_hi l (a + 1)
  have d2 := bt_hi l (a + 2)
  have d3 := bt_hi l (a + 3)
  simp only [hb]
  omega
theorem hb_lt (l : List UInt8) (a : Nat) {i : Nat} (h : i < 4) : 0 ≤ hb l a i ∧ hb l a i < 16777216 := by
  have := hb_b l a
  have : i = 0 ∨ i = 1 ∨ i = 2 ∨ i = 3 := by omega
  rcases this with rfl | rfl | rfl | rfl <;> omega
theorem bits_or_nat (a b : Nat) (ha : a < 4294967296) (hb : b < 4294967296) : bits .or .u32 (a : Int) (b : Int) = ((a ||| b : Nat) : Int) := by
  have e := bits_u32_or (UInt32.ofNat a) (UInt32.ofNat b)
  rw [UInt32.toNat_or] at e
  simp only [UInt32.toNat_ofNat', Nat.mod_eq_of_lt ha, Nat.mod_eq_of_lt hb] at e
  exact e
theorem or_sum (x y i : Nat) (h : y < 2 ^ i) : (2 ^ i * x ||| y) = 2 ^ i * x + y := (Nat.two_pow_add_eq_or_of_lt h x).symm
theorem hb_beW (l : List UInt8) (a : Nat) : hb l a 4 = beW l a := by
  have b0 := bt_lo l a
  have b1 := bt_lo l (a + 1)
  have b2 := bt_lo l (a + 2)
  have b3 := bt_lo l (a + 3)
  have d0 := bt_hi l a
  have d1 := bt_hi l (a + 1)
  have d2 := bt_hi l (a + 2)
  have d3 := bt_hi l (a + 3)
  show (((0 * 256 + bt l a) * 256 + bt l (a + 1)) * 256 + bt l (a + 2)) * 256 + bt l (a + 3) = _
  unfold beW
  obtain ⟨x0, e0⟩ := Int.eq_ofNat_of_zero_le b0
  obtain ⟨x1, e1⟩ := Int.eq_ofNat_of_zero_le b1
  obtain ⟨x2, e2⟩ := Int.eq_ofNat_of_zero_le b2
  obtain ⟨x3, e3⟩ := Int.eq_ofNat_of_zero_le b3
  rw [e0] at d0 ⊢
  rw [e1] at d1 ⊢
  rw [e2] at d2 ⊢
  rw [e3] at d3 ⊢
  clear e0 e1 e2 e3 b0 b1 b2 b3
  rw [show (x0 : Int) * 16777216 = ((2 ^ 24 * x0 : Nat) : Int) by omega, show (x1 : Int) * 65536 = ((2 ^ 16 * x1 : Nat) : Int) by omega, show (x2 : Int) * 256 = ((2 ^ 8 * x2 : Nat) : Int) by omega]
  rw [bits_or_nat _ _ (by omega) (by omega), or_sum _ _ _ (by omega), show 2 ^ 24 * x0 + 2 ^ 16 * x1 = 2 ^ 16 * (2 ^ 8 * x0 + x1) by omega]
  rw [bits_or_nat _ _ (by omega) (by omega), or_sum _ _ _ (by omega), show 2 ^ 16 * (2 ^ 8 * x0 + x1) + 2 ^ 8 * x2 = 2 ^ 8 * (2 ^ 16 * x0 + 2 ^ 8 * x1 + x2) by omega]
  rw [bits_or_nat _ _ (by omega) (by omega), or_sum _ _ _ (by omega)]
  omega

/-- the memory of Compress of the reference: the state, the result, the words, the constants, the working words -/
def CSt (w wr : World) (g h : Nat) (s ws v : List Int) : Prop :=
  RowW wr 36 g s ∧ RowW wr 36 (g + 1) (zw 8) ∧ RowW wr 90 (g + 2) ws ∧ RowW wr 90 h shK ∧ RowW wr 36 (h + 1) v ∧ Below g w wr
theorem RowW.apart {w : World} {ty : TypeId} {p q : Nat} {s : List Int} (h : RowW w ty p s) (hpq : p ≠ q) (i : Nat) (v : Value) : RowW (w.setCell ⟨q, i, none⟩ v) ty p s :=
  h.keep ((grown_setCell w q i v).block p h.lt (by intro e; injection e with e; exact hpq e))
section
variable {w wr : World} {g h : Nat} {s ws v : List Int}
theorem CSt.drewN (H : CSt w wr g h s ws v) (n : Nat) : CSt w (wr.drewN n) g h s ws v :=
  ⟨H.1.drewN n, H.2.1.drewN n, H.2.2.1.drewN n, H.2.2.2.1.drewN n, H.2.2.2.2.1.drewN n, below_drewN H.2.2.2.2.2 n⟩
theorem CSt.setS (H : CSt w wr g h s ws v) (hg : g + 2 < h) (i : Nat) (x : Int) : CSt w (wr.setCell ⟨g, i, none⟩ (.int .u32 x)) g h (s.set i x) ws v :=
  ⟨H.1.set i x, H.2.1.apart (by omega) _ _, H.2.2.1.apart (by omega) _ _, H.2.2.2.1.apart (by omega) _ _, H.2.2.2.2.1.apart (by omega) _ _, H.2.2.2.2.2.setCell (Nat.le_refl _) _⟩
theorem CSt.setW (H : CSt w wr g h s ws v) (hg : g + 2 < h) (i : Nat) (x : Int) : CSt w (wr.setCell ⟨g + 2, i, none⟩ (.int .u32 x)) g h s (ws.set i x) v :=
  ⟨H.1.apart (by omega) _ _, H.2.1.apart (by omega) _ _, H.2.2.1.set i x, H.2.2.2.1.apart (by omega) _ _, H.2.2.2.2.1.apart (by omega) _ _, H.2.2.2.2.2.setCell (by show g ≤ g + 2; omega) _⟩
theorem CSt.setV (H : CSt w wr g h s ws v) (hg : g + 2 < h) (i : Nat) (x : Int) : CSt w (wr.setCell ⟨h + 1, i, none⟩ (.int .u32 x)) g h s ws (v.set i x) :=
  ⟨H.1.apart (by omega) _ _, H.2.1.apart (by omega) _ _, H.2.2.1.apart (by omega) _ _, H.2.2.2.1.apart (by omega) _ _, H.2.2.2.2.1.set i x, H.2.2.2.2.2.setCell (by show g ≤ h + 1; omega) _⟩
end
/-- the working words moved on by the places above i -/
def shv (v : List Int) (i : Nat) : List Int := (List.range 8).map fun j => if i < j then it v (j - 1) else it v j
theorem length_shv (v : List Int) (i : Nat) : (shv v i).length = 8 := by simp [shv]
theorem it_shv (v : List Int) (i : Nat) {j : Nat} (h : j < 8) : it (shv v i) j = if i < j then it v (j - 1) else it v j := by
  unfold shv it
  rw [List.getD_eq_getElem?_getD, List.getElem?_map, List.getElem?_range h]
  rfl
set_option maxRecDepth 100000 in
theorem list8 {v : List Int} (h : v.length = 8) : v = [it v 0, it v 1, it v 2, it v 3, it v 4, it v 5, it v 6, it v 7] := by
  obtain ⟨a, v, rfl⟩ := List.exists_cons_of_length_eq_add_one h
  obtain ⟨b, v, rfl⟩ := List.exists_cons_of_length_eq_add_one (n := 6) (by simpa using h)
  obtain ⟨c, v, rfl⟩ := List.exists_cons_of_length_eq_add_one (n := 5) (by simpa using h)
  obtain ⟨d, v, rfl⟩ := List.exists_cons_of_length_eq_add_one (n := 4) (by simpa using h)
  obtain ⟨e, v, rfl⟩ := List.exists_cons_of_length_eq_add_one (n := 3) (by simpa using h)
  obtain ⟨f, v, rfl⟩ := List.exists_cons_of_length_eq_add_one (n := 2) (by simpa using h)
  obtain ⟨g, v, rfl⟩ := List.exists_cons_of_length_eq_add_one (n := 1) (by simpa using h)
  obtain ⟨k, v, rfl⟩ := List.exists_cons_of_length_eq_add_one (n := 0) (by simpa using h)
  have : v = [] := List.eq_nil_of_length_eq_zero (by simpa using h)
  rw [this]
  rfl
theorem shv_seven {v : List Int} (h : v.length = 8) : shv v 7 = v := by
  rw [list8 h]
  rfl
theorem shv_step {v : List Int} (h : v.length = 8) {i : Nat} (h1 : 1 ≤ i) (h7 : i < 8) : (shv v i).set i (it v (i - 1)) = shv v (i - 1) := by
  rw [list8 h]
  have : i = 1 ∨ i = 2 ∨ i = 3 ∨ i = 4 ∨ i = 5 ∨ i = 6 ∨ i = 7 := by omega
  rcases this with rfl | rfl | rfl | rfl | rfl | rfl | rfl <;> rfl
theorem shv_round (v : List Int) (kt wt : Int) : ((shv v 0).set 4 (ad (it v 3) (shT1 kt wt v))).set 0 (ad (shT1 kt wt v) (shT2 v)) = shRound kt wt v := rfl
/-- the state when i of its words were added to -/
def adv (s r : List Int) (i : Nat) : List Int := (List.range 8).map fun j => if j < i then ad (it s j) (it r j) else it s j
theorem length_adv (s r : List Int) (i : Nat) : (adv s r i).length = 8 := by simp [adv]
theorem adv_zero {s : List Int} (h : s.length = 8) (r : List Int) : adv s r 0 = s := by
  rw [list8 h]
  rfl
theorem it_adv (s r : List Int) {i : Nat} (h : i < 8) : it (adv s r i) i = it s i := by
  unfold adv it
  rw [List.getD_eq_getElem?_getD, List.getElem?_map, List.getElem?_range h]
  simp
theorem adv_step (s r : List Int) {i : Nat} (h : i < 8) : (adv s r i).set i (ad (it s i) (it r i)) = adv s r (i + 1) := by
  have : i = 0 ∨ i = 1 ∨ i = 2 ∨ i = 3 ∨ i = 4 ∨ i = 5 ∨ i = 6 ∨ i = 7 := by omega
  rcases this with rfl | rfl | rfl | rfl | rfl | rfl | rfl | rfl <;> rfl
theorem adv_eight (s r : List Int) : adv s r 8 = add8 s r := rfl
end Go.Proofs.Ytkaakgabhhkggaa
