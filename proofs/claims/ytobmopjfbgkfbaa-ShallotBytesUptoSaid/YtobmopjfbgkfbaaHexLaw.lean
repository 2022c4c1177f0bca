/-
  The walk of shallotlaw01.CodecHexes: for every list of bytes and every string the law returns true and writes nothing that was there. Condition: at most 1048576 bytes each.
-/
import Derived.Test.YtobmopjfbgkfbaaUnhex
import Derived.Test.YtobmopjfbgkfbaaPad
namespace Go.Proofs.Ytobmopjfbgkfbaa
open Go Go.RowKit Go.Sh

theorem hexL_cons (x : UInt8) (l : List UInt8) : hexL (x :: l) = hxd (x.toNat / 16) :: hxd (x.toNat % 16) :: hexL l := by simp [hexL]
theorem hexL_append (a b : List UInt8) : hexL (a ++ b) = hexL a ++ hexL b := by simp [hexL]
set_option maxRecDepth 100000 in
theorem b8_hexL (l : List UInt8) : ∀ i, i < l.length → b8 (hexL l) (2 * i) = (hxd (b8 l i / 16)).toNat ∧ b8 (hexL l) (2 * i + 1) = (hxd (b8 l i % 16)).toNat := by
  induction l with
  | nil => intro i hi; cases hi
  | cons x l ih =>
    intro i hi
    rw [hexL_cons]
    cases i with
    | zero => exact ⟨rfl, rfl⟩
    | succ i =>
      have := ih i (by simpa using hi)
      exact this
theorem dgAll_hexL (l : List UInt8) : dgAll (hexL l) = true := by
  rw [dgAll, List.all_eq_true]
  intro x hx
  rw [hexL, List.mem_flatMap] at hx
  obtain ⟨b, _, hb⟩ := hx
  have hlt := b.toNat_lt
  simp only [List.mem_cons, List.not_mem_nil, or_false] at hb
  rcases hb with rfl | rfl
  · exact (hxd_dg (by omega)).1
  · exact (hxd_dg (by omega)).1
theorem unh_hexL (l : List UInt8) : unh (hexL l) l.length = l := by
  apply List.ext_getElem
  · rw [length_unh]
  · intro i h1 h2
    have hb := b8_hexL l i h2
    have hlt := b8_lt l i
    simp only [unh, List.getElem_map, List.getElem_range]
    rw [hb.1, hb.2, (hxd_dg (show b8 l i / 16 < 16 by omega)).2, (hxd_dg (show b8 l i % 16 < 16 by omega)).2, Nat.div_add_mod]
    have : b8 l i = l[i].toNat := by simp [b8, h2]
    rw [this]
    simp
theorem unhex_hex (l : List UInt8) : unhE (hexL l) = 0 ∧ unhL (hexL l) = l := by
  have e : unhE (hexL l) = 0 := by
    unfold unhE
    rw [length_hexL, if_neg (by omega), if_pos (dgAll_hexL l)]
  refine ⟨e, ?_⟩
  unfold unhL
  rw [if_pos e, length_hexL, Nat.mul_div_cancel_left _ (by decide), unh_hexL]
set_option maxRecDepth 100000 in
theorem dg_of_all {l : List UInt8} (h : dgAll l = true) {i : Nat} (hi : i < l.length) : dgB (b8 l i) = true := by
  rw [dgAll, List.all_eq_true] at h
  have := h _ (List.getElem_mem hi)
  simpa [b8, hi] using this
theorem hexL_unh {l : List UInt8} (h : dgAll l = true) : ∀ k, 2 * k ≤ l.length → hexL (unh l k) = l.take (2 * k)
  | 0, _ => by simp [unh, hexL]
  | k + 1, hk => by
    have d1 := dgN_lt (b8 l (2 * k))
    have d2 := dgN_lt (b8 l (2 * k + 1))
    have e1 : hxd (dgN (b8 l (2 * k))) = l[2 * k] := by
      have := dg_hxd (dg_of_all h (i := 2 * k) (by omega))
      apply UInt8.toNat_inj.1
      rw [this]
      simp [b8, show 2 * k < l.length by omega]
    have e2 : hxd (dgN (b8 l (2 * k + 1))) = l[2 * k + 1] := by
      have := dg_hxd (dg_of_all h (i := 2 * k + 1) (by omega))
      apply UInt8.toNat_inj.1
      rw [this]
      simp [b8, show 2 * k + 1 < l.length by omega]
    rw [unh_succ, hexL_append, hexL_unh h k (by omega), hexL_cons]
    have e3 : (UInt8.ofNat (16 * dgN (b8 l (2 * k)) + dgN (b8 l (2 * k + 1)))).toNat = 16 * dgN (b8 l (2 * k)) + dgN (b8 l (2 * k + 1)) := by simp; omega
    rw [e3, show (16 * dgN (b8 l (2 * k)) + dgN (b8 l (2 * k + 1))) / 16 = dgN (b8 l (2 * k)) by omega, show (16 * dgN (b8 l (2 * k)) + dgN (b8 l (2 * k + 1))) % 16 = dgN (b8 l (2 * k + 1)) by omega, e1, e2]
    rw [show 2 * (k + 1) = 2 * k + 1 + 1 by omega, List.take_succ_eq_append_getElem (by omega), List.take_succ_eq_append_getElem (by omega), List.append_assoc]
    rfl
theorem hex_unhex {l : List UInt8} (h : unhE l = 0) : hexL (unhL l) = l := by
  have h1 : ¬ (l.length % 2 = 1) := by
    intro h1
    simp [unhE, h1] at h
  have h2 : dgAll l = true := by
    rcases Bool.eq_false_or_eq_true (dgAll l) with h2 | h2
    · exact h2
    · simp [unhE, h1, h2] at h
  unfold unhL
  rw [if_pos h, hexL_unh h2 _ (by omega), List.take_of_length_le (by omega)]
theorem unhL_len (l : List UInt8) : (unhL l).length ≤ l.length := by
  unfold unhL
  split
  · rw [length_unh]; omega
  · simp

end Go.Proofs.Ytobmopjfbgkfbaa
