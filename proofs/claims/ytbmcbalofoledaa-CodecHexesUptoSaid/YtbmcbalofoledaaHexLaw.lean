/-
  The walk of shallotlaw01.CodecHexes: for every list of bytes and every string the law returns true and writes nothing that was there. Condition: at most 1048576 bytes each.
-/
import Derived.Test.YtbmcbalofoledaaUnhex
import Derived.Test.YtbmcbalofoledaaPad
namespace Go.Proofs.Ytbmcbalofoledaa
open Go Go.RowKit Go.Sh

theorem hexL_cons (x : UInt8) (l : List UInt8) : hexL (x :: l) = hxd (x.toNat / 16) :: hxd (x.toNat % 16) :: hexL l := by simp [hexL]
theorem hexL_append (a b : List UInt8) : hexL (a ++ b) = hexL a ++ hexL b := by simp [hexL]
theorem b8_hexL (l : List UInt8) : ∀ i, i < l.length → b8 (hexL l) (2 * i) = (hxd (b8 l i / 16)).toNat ∧ b8 (hexL l) (2 * i + 1) = (hxd (b8 l i % 16)).toNat := by
  induction l with
  | nil => intro i hi; cases hi
  | cons x l ih =>
    intro i hi
    rw [hexL_cons]
    cases i with
    | zero => exact ⟨rfl, rfl⟩
    | succ i =>
      have := ih i (by simpa using hi)
      exact this
theorem dgAll_hexL (l : List UInt8) : dgAll (hexL l) = true := by
  rw [dgAll, List.all_eq_true]
  intro x hx
  rw [hexL, List.mem_flatMap] at hx
  obtain ⟨b, _, hb⟩ := hx
  have hlt := b.toNat_lt
  simp only [List.mem_cons, List.not_mem_nil, or_false] at hb
  rcases hb with rfl | rfl
  · exact (hxd_dg (by omega)).1
  · exact (hxd_dg (by omega)).1
theorem unh_hexL (l : List UInt8) : unh (hexL l) l.length = l := by
  apply List.ext_getElem
  · rw [length_unh]
  · intro i h1 h2
    have hb := b8_hexL l i h2
    have hlt := b8_lt l i
    simp only [unh, List.getElem_map, List.getElem_range]
    rw [hb.1, hb.2, (hxd_dg (show b8 l i / 16 < 16 by omega)).2, (hxd_dg (show b8 l i % 16 < 16 by omega)).2, Nat.div_add_mod]
    have : b8 l i = l[i].toNat := by simp [b8, h2]
    rw [this]
    simp
theorem unhex_hex (l : List UInt8) : unhE (hexL l) = 0 ∧ unhL (hexL l) = l := by
  have e : unhE (hexL l) = 0 := by
    unfold unhE
    rw [length_hexL, if_neg (by omega), if_pos (dgAll_hexL l)]
  refine ⟨e, ?_⟩
  unfold unhL
  rw [if_pos e, length_hexL, Nat.mul_div_cancel_left _ (by decide), unh_hexL]
theorem dg_of_all {l : List UInt8} (h : dgAll l = true) {i : Nat} (hi : i < l.length) : dgB (b8 l i) = true := by
  rw [dgAll, List.all_eq_true] at h
  have := h _ (List.getElem_mem hi)
  simpa [b8, hi] using this
theorem hexL_unh {l : List UInt8} (h : dgAll l = true) : ∀ k, 2 * k ≤ l.length → hexL (unh l k) = l.take (2 * k)
  | 0, _ => by simp [unh, hexL]
  | k + 1, hk => by
    have d1 := dgN_lt (b8 l (2 * k))
    have d2 := dgN_lt (b8 l (2 * k + 1))
    have e1 : hxd (dgN (b8 l (2 * k))) = l[2 * k] := by
      have := dg_hxd (dg_of_all h (i := 2 * k) (by omega))
      apply UInt8.toNat_inj.1
      rw [this]
      simp [b8, show 2 * k < l.length by omega]
    have e2 : hxd (dgN (b8 l (2 * k + 1))) = l[2 * k + 1] := by
      have := dg_hxd (dg_of_all h (i := 2 * k + 1) (by omega))
      apply UInt8.toNat_inj.1
      rw [this]
      simp [b8, show 2 * k + 1 < l.length by omega]
    rw [unh_succ, hexL_append, hexL_unh h k (by omega), hexL_cons]
    have e3 : (UInt8.ofNat (16 * dgN (b8 l (2 * k)) + dgN (b8 l (2 * k + 1)))).toNat = 16 * dgN (b8 l (2 * k)) + dgN (b8 l (2 * k + 1)) := by simp; omega
    rw [e3, show (16 * dgN (b8 l (2 * k)) + dgN (b8 l (2 * k + 1))) / 16 = dgN (b8 l (2 * k)) by omega, show (16 * dgN (b8 l (2 * k)) + dgN (b8 l (2 * k + 1))) % 16 = dgN (b8 l (2 * k + 1)) by omega, e1, e2]
    rw [show 2 * (k + 1) = 2 * k + 1 + 1 by omega, List.take_succ_eq_append_getElem (by omega), List.take_succ_eq_append_getElem (by omega), List.append_assoc]
    rfl
theorem hex_unhex {l : List UInt8} (h : unhE l = 0) : hexL (unhL l) = l := by
  have h1 : ¬ (l.length % 2 = 1) := by
    intro h1
    simp [unhE, h1] at h
  have h2 : dgAll l = true := by
    rcases Bool.eq_false_or_eq_true (dgAll l) with h2 | h2
    · exact h2
    · simp [unhE, h1, h2] at h
  unfold unhL
  rw [if_pos h, hexL_unh h2 _ (by omega), List.take_of_length_le (by omega)]
theorem unhL_len (l : List UInt8) : (unhL l).length ≤ l.length := by
  unfold unhL
  split
  · rw [length_unh]; omega
  · simp

theorem CodecHexes_walk (A : Option Addr) (n c : Nat) (l : List UInt8) (s : ByteArray) (w : World) (hr : RB w w.heap.size A n l) (hn : n ≤ 1048576) (hs : s.size ≤ 1048576) :
    Calls Try.prog 7 #[.slice A n c, .string s] w (LawPost w) := by
  obtain ⟨r, rfl⟩ : ∃ r : List UInt8, s = ⟨r.toArray⟩ := ⟨s.data.toList, by simp⟩
  obtain ⟨m, hm⟩ : ∃ m, r.length = m := ⟨_, rfl⟩
  have hms : m ≤ 1048576 := by
    have : (⟨r.toArray⟩ : ByteArray).size = r.length := by
      show r.toArray.size = _
      simp
    omega
  have HR := Lib.hid hr
  have HL := Lib.hid hr.len
  have HM := Lib.hid hm
  clear hr hs hm
  go_enter Try.func7, Try.ntmps7
  go_wp2_with fail
  refine (Hex_any _ _ _ [0, 171] _ (w.heap.size + 1) (RB.lit w _ [0, 171] _ rfl _ rfl) (by simp) (by decide)).mono ?_
  rintro e w1 ⟨rfl, hb1⟩
  rw [show hexL [0, 171] = [48, 48, 97, 98] by decide]
  have HB1 := Lib.hid (show Below w.heap.size w w1 from ((Below.refl _ _).alloc (Nat.le_refl _) _).trans (hb1.mono (by simp)))
  clear hb1
  go_wp2_with fail
  refine (Copy_any _ _ _ l _ w.heap.size (HR.out.below HB1.out) HB1.out.size (by omega)).mono ?_
  rintro e w2 ⟨g2, c2, rfl, hown2, hb2⟩
  have HO2 := Lib.hid hown2
  have HB2 := Lib.hid (below_up HB1.out hb2 (Nat.le_refl _))
  clear hown2 hb2 HB1
  go_wp2_with fail
  refine (Hex_any _ _ _ l _ _ (RB.of_own HO2.out) (Nat.le_refl _) hn).mono ?_
  rintro e w3 ⟨rfl, hb3⟩
  have HB3 := Lib.hid (below_up HB2.out hb3 (Nat.le_refl _))
  clear hb3 HB2 HO2
  have HXL := Lib.hid (length_hexL l)
  have HUH := Lib.hid (unhex_hex l)
  generalize hh : hexL l = h at *
  have HH := Lib.hid hh
  clear hh
  go_wp2_with fail
  refine (Unhex_any h (2 * n) _ (by rw [HXL.out, HL.out]) (by omega)).mono ?_
  rintro e w4 ⟨A4, n4, c4, rfl, hl4, hown4, hb4⟩
  rw [HUH.out.2] at hl4 hown4
  rw [HUH.out.1]
  obtain rfl : n = n4 := by rw [← hl4, HL.out]
  have HO4 := Lib.hid hown4
  have HB4 := Lib.hid (below_up HB3.out hb4 (Nat.le_refl _))
  clear hl4 hown4 hb4 HB3
  go_wp2_with fail
  refine (RefHex_any _ _ _ l _ w.heap.size (HR.out.below HB4.out) HB4.out.size hn).mono ?_
  rintro e w5 ⟨rfl, hb5⟩
  rw [HH.out]
  have HO5 := Lib.hid (own_later HO4.out hb5)
  have HB5 := Lib.hid (below_up HB4.out hb5 (Nat.le_refl _))
  clear hb5 HB4 HO4
  go_wp2_with fail
  refine (Equal_any _ _ _ _ _ _ l l _ _ _ (RB.of_own HO5.out) (HR.out.below HB5.out) (by omega)).mono fun e w6 hq => ?_
  obtain ⟨rfl, hb6⟩ := hq.below
  rw [show decide (l = l) = true by simp]
  have HB6 := Lib.hid (below_up HB5.out hb6 (Nat.le_refl _))
  clear hq hb6 HB5 HO5
  go_wp2_with fail
  refine (Unhex_any r m _ HM.out (by omega)).mono ?_
  rintro e w7 ⟨A7, n7, c7, rfl, hl7, hown7, hb7⟩
  have HO7 := Lib.hid hown7
  have HL7 := Lib.hid hl7
  have HB7 := Lib.hid (below_up HB6.out hb7 (Nat.le_refl _))
  have hn7 : n7 ≤ 1048576 := by rw [← HL7.out]; exact Nat.le_trans (unhL_len r) (by rw [HM.out]; exact hms)
  clear hl7 hown7 hb7 HB6
  go_wp2_with fail
  refine (RefUnhex_any r m _ HM.out (by omega)).mono ?_
  rintro e w8 ⟨A8, n8, c8, rfl, hl8, hown8, hb8⟩
  have HO8 := Lib.hid hown8
  have HO7' := Lib.hid (own_later HO7.out hb8)
  have HB8 := Lib.hid (below_up HB7.out hb8 (Nat.le_refl _))
  clear hl8 hown8 hb8 HB7 HO7
  go_wp2_with fail
  refine (told_any _ _ _ _ _ _ (unhL r) (unhL r) _ _ _ _ _ (RB.of_own HO7'.out) (RB.of_own HO8.out) (by omega)).mono fun e w9 hq => ?_
  obtain ⟨rfl, hb9⟩ := hq.below
  rw [show decide (unhL r = unhL r ∧ unhE r = unhE r) = true by simp]
  have HO9 := Lib.hid (own_later HO7'.out hb9)
  have HB9 := Lib.hid (below_up HB8.out hb9 (Nat.le_refl _))
  clear hq hb9 HB8 HO8 HO7'
  by_cases h0 : unhE r = 0
  · have HBK := Lib.hid (hex_unhex h0)
    have t0 : (unhE r != 0) = false := by rw [h0]; rfl
    clear h0
    generalize unhE r = ue at *
    go_wp2_with fail
    refine (Hex_any _ _ _ (unhL r) _ _ (RB.of_own HO9.out) (Nat.le_refl _) hn7).mono ?_
    rintro e w10 ⟨rfl, hb10⟩
    rw [HBK.out]
    have HB10 := Lib.hid (below_up HB9.out hb10 (Nat.le_refl _))
    clear hb10 HB9
    go_wp2
    go_ret
    exact ⟨by simp, HB10.out⟩
  · have t0 : (unhE r != 0) = true := by rw [bne_iff_ne]; exact h0
    clear h0
    generalize unhE r = ue at *
    go_wp2
    go_ret
    exact ⟨rfl, HB9.out⟩
end Go.Proofs.Ytbmcbalofoledaa
