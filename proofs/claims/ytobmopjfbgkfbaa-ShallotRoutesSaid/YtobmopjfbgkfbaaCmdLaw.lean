/-
  The plain law of commands: what is encoded is decoded as the same command, and what is decoded is encoded as the same bytes. No program in sight but the words.
-/
import Derived.Test.YtobmopjfbgkfbaaCmdDec
namespace Go.Proofs.Ytobmopjfbgkfbaa
open Go Go.RowKit Go.Sh

theorem byI_nat {x : Int} (h : 0 ≤ x ∧ x < 256) : ((byI x).toNat : Int) = x := by
  unfold byI
  simp
  omega
theorem length_encL {c : Cmd} (h : c.OK) : (encL c).length = 32 := by simp [encL, length_putB, h.l]
/-- a number's big-endian bytes, read again -/
theorem val_put (d v : Nat) (h : v < 256 ^ d) (L R : List UInt8) (a : Nat) (ha : L.length = a) : val (fun j => by8 (L ++ (putB 2 d v ++ R)) (a + d - 1 - j)) d = v := by
  have key : ∀ m, m ≤ d → val (fun j => by8 (L ++ (putB 2 d v ++ R)) (a + d - 1 - j)) m = v % 256 ^ m := by
    intro m
    induction m with
    | zero => intro _; simp [val, Nat.mod_one]
    | succ m ih =>
      intro hm
      have hb : by8 (L ++ (putB 2 d v ++ R)) (a + d - 1 - m) = v / 256 ^ m % 256 := by
        have e : by8 (L ++ (putB 2 d v ++ R)) (a + d - 1 - m) = by8 (putB 2 d v) (d - 1 - m) := by
          unfold by8
          rw [List.getD_eq_getElem?_getD, List.getD_eq_getElem?_getD, List.getElem?_append_right (by omega), List.getElem?_append_left (by rw [length_putB]; omega), show a + d - 1 - m - L.length = d - 1 - m by omega]
        rw [e, show putB 2 d v = rowf d (fun i => pc v (d - 1 - i)) by simp [putB], by8_rowf _ (by omega), pc_nat, show d - 1 - (d - 1 - m) = m by omega]
      simp only [val]
      rw [ih (by omega), hb]
      rw [Nat.pow_succ, Nat.mod_mul]
      rw [Nat.mul_comm (v / 256 ^ m % 256)]
  rw [key d (Nat.le_refl _), Nat.mod_eq_of_lt h]
theorem val_digit {f : Nat → Nat} (h : ∀ j, f j < 256) : ∀ m j, j < m → val f m / 256 ^ j % 256 = f j := by
  intro m
  induction m with
  | zero => intro j hj; omega
  | succ m ih =>
    intro j hj
    rw [val]
    have hpos : 0 < 256 ^ j := Nat.pow_pos (by decide)
    by_cases hjm : j = m
    · subst hjm
      rw [Nat.add_mul_div_right _ _ hpos, Nat.div_eq_of_lt (val_lt h j), Nat.zero_add, Nat.mod_eq_of_lt (h j)]
    · have e : (256 : Nat) ^ m = 256 ^ (m - j - 1) * 256 * 256 ^ j := by
        rw [← Nat.pow_succ, ← Nat.pow_add]
        congr 1
        omega
      rw [e, ← Nat.mul_assoc, Nat.add_mul_div_right _ _ hpos, ← Nat.mul_assoc, Nat.add_mul_mod_self_right]
      exact ih j (by omega)
/-- bytes that are read as a number and written again -/
theorem put_val (l : List UInt8) (a d : Nat) (h : a + d ≤ l.length) : putB 2 d (val (fun j => by8 l (a + d - 1 - j)) d) = (l.drop a).take d := by
  rw [show putB 2 d (val (fun j => by8 l (a + d - 1 - j)) d) = rowf d (fun i => pc (val (fun j => by8 l (a + d - 1 - j)) d) (d - 1 - i)) by simp [putB]]
  apply List.ext_getElem
  · rw [length_rowf, List.length_take, List.length_drop]; omega
  · intro i h1 h2
    rw [length_rowf] at h1
    have hp := pc_nat (val (fun j => by8 l (a + d - 1 - j)) d) (d - 1 - i)
    rw [val_digit (fun j => by8_lt _ _) d (d - 1 - i) (by omega), show a + d - 1 - (d - 1 - i) = a + i by omega] at hp
    have e : (rowf d (fun i => pc (val (fun j => by8 l (a + d - 1 - j)) d) (d - 1 - i)))[i] = pc (val (fun j => by8 l (a + d - 1 - j)) d) (d - 1 - i) := by simp [rowf]
    rw [e]
    apply UInt8.toNat_inj.1
    rw [hp]
    unfold by8
    rw [List.getD_eq_getElem?_getD, List.getElem?_eq_getElem (by omega)]
    simp
theorem byI_of (x : UInt8) : byI (x.toNat : Int) = x := by simp [byI]
theorem byI_map {l : List Int} (h : ∀ y ∈ l, 0 ≤ y ∧ y < 256) : (l.map byI).map (fun x => (x.toNat : Int)) = l := by
  rw [List.map_map]
  conv => rhs; rw [← List.map_id l]
  exact List.map_congr_left fun y hy => byI_nat (h y hy)
theorem enc_bt0 (c : Cmd) (h : c.OK) : bt (encL c) 0 = c.k := by
  show ((byI c.k).toNat : Int) = c.k
  exact byI_nat h.k
theorem enc_bt1 (c : Cmd) (h : c.OK) : bt (encL c) 1 = c.f := by
  show ((byI c.f).toNat : Int) = c.f
  exact byI_nat h.f
theorem enc_d (c : Cmd) (h : c.OK) : ((getV 2 (encL c) 32 2 4 : Nat) : Int) = c.d := by
  have e : getE 2 32 2 4 = 0 := by decide
  unfold getV
  rw [if_pos e, show ((2 : Int).toNat) = 2 from rfl, show ((4 : Int).toNat) = 4 from rfl, dig_two]
  have hd := h.d
  have hv := val_put 4 c.d.toNat (by have : (256 : Nat) ^ 4 = 4294967296 := rfl; omega) [byI c.k, byI c.f] (putB 2 8 c.x.toNat ++ (c.m.map byI ++ [0, 0])) 2 rfl
  have e2 : (val (fun j => by8 (encL c) (2 + 4 - 1 - j)) 4 : Nat) = c.d.toNat := hv
  rw [e2]
  omega
theorem enc_x (c : Cmd) (h : c.OK) : ((getV 2 (encL c) 32 6 8 : Nat) : Int) = c.x := by
  have e : getE 2 32 6 8 = 0 := by decide
  unfold getV
  rw [if_pos e, show ((6 : Int).toNat) = 6 from rfl, show ((8 : Int).toNat) = 8 from rfl, dig_two]
  have hd := h.x
  have hv := val_put 8 c.x.toNat (by have : (256 : Nat) ^ 8 = 18446744073709551616 := rfl; omega) ([byI c.k, byI c.f] ++ putB 2 4 c.d.toNat) (c.m.map byI ++ [0, 0]) 6 (by simp [length_putB])
  rw [List.append_assoc] at hv
  have e2 : (val (fun j => by8 (encL c) (6 + 8 - 1 - j)) 8 : Nat) = c.x.toNat := hv
  rw [e2]
  omega
theorem enc_split (c : Cmd) : encL c = ([byI c.k, byI c.f] ++ (putB 2 4 c.d.toNat ++ putB 2 8 c.x.toNat)) ++ (c.m.map byI ++ [0, 0]) := by simp [encL]
theorem enc_m (c : Cmd) (h : c.OK) : (((encL c).drop 14).take 16).map (fun x => (x.toNat : Int)) = c.m := by
  rw [enc_split, List.drop_left' (by simp [length_putB]), List.take_left' (by simp [h.l]), byI_map h.m]
theorem enc_tail (c : Cmd) (h : c.OK) : tailB (encL c) = false := by
  have hl : ((([byI c.k, byI c.f] ++ (putB 2 4 c.d.toNat ++ putB 2 8 c.x.toNat)) ++ c.m.map byI) : List UInt8).length = 30 := by simp [length_putB, h.l]
  have e : encL c = (([byI c.k, byI c.f] ++ (putB 2 4 c.d.toNat ++ putB 2 8 c.x.toNat)) ++ c.m.map byI) ++ [0, 0] := by simp [encL]
  have h0 : bt (encL c) 30 = 0 := by
    unfold bt
    rw [e, List.getD_eq_getElem?_getD, List.getElem?_append_right (by omega), hl]
    rfl
  have h1 : bt (encL c) 31 = 0 := by
    unfold bt
    rw [e, List.getD_eq_getElem?_getD, List.getElem?_append_right (by omega), hl]
    rfl
  simp [tailB, h0, h1]
theorem dec_enc (c : Cmd) (h : c.OK) : decC (encL c) = c := by
  unfold decC
  rw [enc_bt0 c h, enc_bt1 c h, enc_d c h, enc_x c h, enc_m c h]
/-- what is encoded is decoded as it was -/
theorem decode_encode (c : Cmd) (h : c.OK) (h0 : checkN c = 0) : decE (encE c) = 0 ∧ decR (encE c) = c := by
  have e : encE c = encL c := by unfold encE; rw [if_pos h0]
  have e0 : decE (encL c) = 0 := by
    unfold decE
    rw [if_pos (length_encL h), dec_enc c h, enc_tail c h, h0]
    simp
  rw [e]
  refine ⟨e0, ?_⟩
  unfold decR
  rw [if_pos e0, dec_enc c h]
theorem split32 (l : List UInt8) (h : l.length = 32) : l = [l.getD 0 0, l.getD 1 0] ++ ((l.drop 2).take 4 ++ ((l.drop 6).take 8 ++ ((l.drop 14).take 16 ++ [l.getD 30 0, l.getD 31 0]))) := by
  match l, h with
  | [a0, a1, a2, a3, a4, a5, a6, a7, a8, a9, a10, a11, a12, a13, a14, a15, a16, a17, a18, a19, a20, a21, a22, a23, a24, a25, a26, a27, a28, a29, a30, a31], _ => rfl
theorem map_byI (l : List UInt8) : (l.map fun x => (x.toNat : Int)).map byI = l := by
  rw [List.map_map]
  conv => rhs; rw [← List.map_id l]
  exact List.map_congr_left fun y _ => byI_of y
set_option maxRecDepth 100000 in
/-- what is decoded is encoded as the same bytes -/
theorem encode_decode (l : List UInt8) (h0 : decE l = 0) : checkN (decR l) = 0 ∧ encE (decR l) = l ∧ decR l = decC l := by
  have hl : l.length = 32 := by
    unfold decE at h0
    split at h0
    · assumption
    · omega
  have er : decR l = decC l := by unfold decR; rw [if_pos h0]
  unfold decE at h0
  rw [if_pos hl] at h0
  have hc : checkN (decC l) = 0 ∧ tailB l = false := by
    by_cases ht : tailB l = true ∧ checkN (decC l) ≠ 1
    · rw [if_pos ht] at h0; omega
    · rw [if_neg ht] at h0
      refine ⟨h0, ?_⟩
      cases hb : tailB l with
      | false => rfl
      | true => exact absurd ⟨hb, by omega⟩ ht
  have he : encL (decC l) = l := by
    have e4 : getE 2 32 2 4 = 0 := by decide
    have e8 : getE 2 32 6 8 = 0 := by decide
    have k2 := put_val l 2 4 (by omega)
    have k6 := put_val l 6 8 (by omega)
    have t : l.getD 30 0 = 0 ∧ l.getD 31 0 = 0 := by
      have h := hc.2
      unfold tailB at h
      rw [Bool.or_eq_false_iff] at h
      obtain ⟨h1, h2⟩ := h
      have h1' : bt l 30 = 0 := by simpa using h1
      have h2' : bt l 31 = 0 := by simpa using h2
      unfold bt at h1' h2'
      exact ⟨UInt8.toNat_inj.1 (by simpa using h1'), UInt8.toNat_inj.1 (by simpa using h2')⟩
    have b0 : byI (bt l 0) = l.getD 0 0 := byI_of _
    have b1 : byI (bt l 1) = l.getD 1 0 := byI_of _
    have s := split32 l hl
    unfold encL decC getV
    simp only [e4, e8, if_pos, Int.toNat_natCast]
    rw [show ((2 : Int).toNat) = 2 from rfl, show ((4 : Int).toNat) = 4 from rfl, show ((6 : Int).toNat) = 6 from rfl, show ((8 : Int).toNat) = 8 from rfl, dig_two, dig_two, k2, k6, map_byI, b0, b1]
    rw [t.1, t.2] at s
    exact s.symm
  rw [er]
  refine ⟨hc.1, ?_, rfl⟩
  unfold encE
  rw [if_pos hc.1, he]
end Go.Proofs.Ytobmopjfbgkfbaa
