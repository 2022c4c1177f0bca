/-
  The walk of shallotlaw01.CodecXors: for every list of lists of bytes the law returns true and writes nothing that was there. Conditions: the sizes that slices can have.
-/
import Derived.Test.YtbmcbalofoledaaXor
import Derived.Test.YtbmcbalofoledaaPad
namespace Go.Proofs.Ytbmcbalofoledaa
open Go Go.RowKit Go.Sh

theorem xz_self (a : List UInt8) : xz a a = zs a.length := by
  apply List.ext_getElem
  · rw [length_xz rfl rfl, length_zs]
  · intro i h1 h2
    simp [xz, zs]
theorem even_len {ls : List (List UInt8)} (h : evenB ls = true) : ∀ l ∈ ls, l.length = (lat ls 0).length := by
  intro l hl
  rw [evenB, List.all_eq_true] at h
  simpa using h l hl
theorem lat_zero_snoc {ls : List (List UInt8)} (x : List UInt8) (h : ls ≠ []) : lat (ls ++ [x]) 0 = lat ls 0 := by
  cases ls with
  | nil => exact absurd rfl h
  | cons a l => rfl
/-- with the answer among them all of them come to noughts -/
theorem xor_back {ls : List (List UInt8)} (h : evenB ls = true) : evenB (ls ++ [xorL ls]) = true ∧ xorL (ls ++ [xorL ls]) = zs (xorL ls).length := by
  have e1 : xorL ls = xorAll (lat ls 0).length ls := by simp [xorL, h]
  have hl : (xorL ls).length = (lat ls 0).length := by rw [e1]; exact length_xorAll (even_len h)
  by_cases h0 : ls = []
  · subst h0
    exact ⟨rfl, rfl⟩
  · have hz : lat (ls ++ [xorL ls]) 0 = lat ls 0 := lat_zero_snoc _ h0
    have hev : evenB (ls ++ [xorL ls]) = true := by
      rw [evenB, List.all_eq_true, hz]
      intro l hm
      rw [List.mem_append] at hm
      rcases hm with hm | hm
      · simp [even_len h l hm]
      · rw [List.mem_singleton] at hm
        simp [hm, hl]
    refine ⟨hev, ?_⟩
    have e2 : xorL (ls ++ [xorL ls]) = xorAll (lat ls 0).length (ls ++ [xorL ls]) := by
      have : xorL (ls ++ [xorL ls]) = if evenB (ls ++ [xorL ls]) = true then xorAll (lat (ls ++ [xorL ls]) 0).length (ls ++ [xorL ls]) else [] := rfl
      rw [this, if_pos hev, hz]
    rw [e2, xorAll_snoc, ← e1, xz_self]

theorem xorL_small {ls : List (List UInt8)} {b : Nat} (h : ∀ l ∈ ls, l.length ≤ b) : (xorL ls).length ≤ b := by
  unfold xorL
  split
  · rename_i hev
    rw [length_xorAll (even_len hev)]
    cases ls with
    | nil => simp [lat]
    | cons a l => exact h a (by simp)
  · simp

/-- two lists of bytes, laid as literals, and the row of the two -/
theorem lit_two (w : World) (t : TypeId) (a b : List UInt8) (ca cb : List Value) (ha : ca = bv a) (hb : cb = bv b) (n m : Nat) (hn : a.length = n) (hm : b.length = m) :
    RBB (((w.alloc (.cells ca.toArray 5)).alloc (.cells cb.toArray 5)).alloc (.cells #[.slice (some ⟨w.heap.size, 0, none⟩) n n, .slice (some ⟨w.heap.size + 1, 0, none⟩) m m] t)) (w.heap.size + 1 + 1 + 1) (some ⟨w.heap.size + 1 + 1, 0, none⟩) 2 [a, b] := by
  refine RBB.of_list (Reads.lit _ _ [.slice (some ⟨w.heap.size, 0, none⟩) n n, .slice (some ⟨w.heap.size + 1, 0, none⟩) m m] 2 1 rfl _ (by simp)) rfl (fun i hi => ?_)
  rcases (by omega : i = 0 ∨ i = 1) with rfl | rfl
  · exact ⟨_, n, n, rfl, Nat.le_refl _, (((RB.lit w _ a _ ha n hn).alloc (by simp) _).alloc (by simp) _).more (by omega)⟩
  · exact ⟨_, m, m, rfl, Nat.le_refl _, ((RB.litAt _ _ b _ hb m hm _ (by simp)).alloc (by simp) _).more (by omega)⟩

theorem CodecXors_walk (A : Option Addr) (m c : Nat) (ls : List (List UInt8)) (w : World) (hr : RBB w w.heap.size A m ls) (hm : m * 24 ≤ 140737488351232) (hs : ∀ l ∈ ls, l.length ≤ 140737488351232) :
    Calls Try.prog 5 #[.slice A m c] w (LawPost w) := by
  have HR := Lib.hid hr
  have HS := Lib.hid (show ∀ l ∈ ls, l.length ≤ 140737488355328 from fun l hl => Nat.le_trans (hs l hl) (by decide))
  have HS' := Lib.hid hs
  clear hr hs
  go_enter Try.func5, Try.ntmps5
  go_wp2_with fail
  refine (Xor_any _ _ _ [[1, 2], [3, 2]] _ (w.heap.size + 1 + 1 + 1) (lit_two w _ [1, 2] [3, 2] _ _ rfl rfl 2 2 rfl rfl) (by simp) (by omega) (by decide)).mono ?_
  rintro e w1 ⟨A1, n1, c1, rfl, hl1, hown1, hb1⟩
  rw [show xorL [[1, 2], [3, 2]] = [2, 0] by decide] at hl1 hown1
  rw [show xorE [[1, 2], [3, 2]] = 0 by decide]
  subst hl1
  have HO1 := Lib.hid hown1
  have HB1 := Lib.hid (show Below w.heap.size w w1 from ((((Below.refl _ _).alloc (Nat.le_refl _) _).alloc (by simp) _).alloc (by simp; omega) _).trans (hb1.mono (by simp; omega)))
  clear hown1 hb1
  go_wp2_with fail
  refine (Equal_any _ _ _ _ _ _ [2, 0] [2, 0] _ w1.heap.size (w1.heap.size + 1) ((RB.of_own HO1.out).alloc (Nat.le_refl _) _) (RB.lit w1 _ [2, 0] _ rfl _ rfl) (by simp)).mono fun e w2 h => ?_
  obtain ⟨rfl, hb2⟩ := h.below
  rw [show decide (([2, 0] : List UInt8) = [2, 0]) = true by decide]
  have HB2 := Lib.hid (show Below w.heap.size w w2 from (HB1.out.alloc HB1.out.size _).trans (hb2.mono (by have := HB1.out.size; simp; omega)))
  clear h hb2 HB1 HO1
  go_wp2_with fail
  refine (Copies_any _ _ _ ls _ w.heap.size (HR.out.below HB2.out) HB2.out.size (by omega) HS.out).mono ?_
  rintro e w3 ⟨g3, c3, rfl, ho3, hb3⟩
  have HO3 := Lib.hid ho3
  have HB3 := Lib.hid (below_up HB2.out hb3 (Nat.le_refl _))
  have hz3 : w.heap.size ≤ w3.heap.size := HB3.out.size
  clear ho3 hb3 HB2
  go_wp2_with fail
  refine (Xor_any _ _ _ ls _ w3.heap.size (RBB.of_own HO3.out) (Nat.le_refl _) (by omega) HS.out).mono ?_
  rintro e w4 ⟨A4, n4, c4, rfl, hl4, hown4, hb4⟩
  have HO4 := Lib.hid hown4
  have HL4 := Lib.hid hl4
  have HB4 := Lib.hid (below_up HB3.out hb4 (Nat.le_refl _))
  clear hown4 hl4 hb4 HB3 HO3
  go_wp2_with fail
  refine (RefXor_any _ _ _ ls _ w.heap.size (HR.out.below HB4.out) HB4.out.size (by omega) HS.out).mono ?_
  rintro e w5 ⟨A5, n5, c5, rfl, hl5, hown5, hb5⟩
  have HO5 := Lib.hid hown5
  have HO4' := Lib.hid (own_later HO4.out hb5)
  have HB5 := Lib.hid (below_up HB4.out hb5 (Nat.le_refl _))
  have hn4 : n4 ≤ 140737488351232 := by rw [← HL4.out]; exact xorL_small HS'.out
  clear hown5 hl5 hb5 HB4 HO4
  go_wp2_with fail
  refine (told_any _ _ _ _ _ _ (xorL ls) (xorL ls) _ _ _ w5.heap.size w5.heap.size (RB.of_own HO4'.out) (RB.of_own HO5.out) (by omega)).mono fun e w6 h => ?_
  obtain ⟨rfl, hb6⟩ := h.below
  rw [show decide (xorL ls = xorL ls ∧ xorE ls = xorE ls) = true by simp]
  have HO6 := Lib.hid (own_later HO4'.out hb6)
  have HB6 := Lib.hid (below_up HB5.out hb6 (Nat.le_refl _))
  clear h hb6 HB5 HO5 HO4'
  rcases Bool.eq_false_or_eq_true (evenB ls) with hev | hev
  · have he : xorE ls = 0 := by simp [xorE, hev]
    rw [he]
    obtain ⟨hev2, hx2⟩ := xor_back hev
    have HE2 := Lib.hid (show xorE (ls ++ [xorL ls]) = 0 by simp only [xorE]; rw [if_pos hev2])
    have HX2 := Lib.hid hx2
    clear he hev hev2 hx2
    go_wp2_with fail
    refine (Copies_any _ _ _ ls _ w.heap.size (HR.out.below HB6.out) HB6.out.size (by omega) HS.out).mono ?_
    rintro e w7 ⟨g7, c7, rfl, ho7, hb7⟩
    have hB7 : Below w.heap.size w w7 := below_up HB6.out hb7 (Nat.le_refl _)
    have hown7 := own_later (own_base HO6.out hz3) hb7
    have HX := Lib.hid (hown7.alloc (.cells #[.slice A4 n4 c4] 22))
    have hz6 : w.heap.size ≤ w6.heap.size := HB6.out.size
    have HO7 := Lib.hid ((ho7.base_le hz6).later (OBB_alloc_help (.cells #[.slice A4 n4 c4] 22) (Nat.le_refl _)))
    have HB7 := Lib.hid (show Below w.heap.size w (w7.alloc (.cells #[.slice A4 n4 c4] 22)) from hB7.alloc hB7.size _)
    obtain ⟨vs, hvs⟩ := HO7.out.outer
    have HV := Lib.hid hvs
    clear ho7 hb7 hB7 hown7 hvs HB6 HO6
    go_wp2_with (at_builtin; refine wl_app TBB rfl (.tmp 44) (.tmp 46) rfl (.slice (some ⟨g7, 0, none⟩) m c7) rfl (some ⟨w7.heap.size, 0, none⟩) 1 1 rfl w.heap.size m vs HV.out (w7.heap.size + 1) [.slice A4 n4 c4] ?c1 ?c2 ?c3 ?c4 HB7.out.size ?c5)
    case c1 => exact Reads.lit w7 _ [.slice A4 n4 c4] 1 1 rfl _ rfl
    case c2 => simp [Value.oneCell']
    case c3 => omega
    case c4 => omega
    case c5 =>
      intro A8 c8 w8 hown8 hg8 hat
      have hA : ∃ g, A8 = some ⟨g, 0, none⟩ := by
        rcases hat with h | h <;> exact ⟨_, own_some hown8 (h.trans rfl)⟩
      obtain ⟨g8, rfl⟩ := hA
      have HO8 := Lib.hid (HO7.out.snoc HV.out HX.out (by decide) hg8 hown8)
      have HB8 := Lib.hid (HB7.out.grown hg8 HB7.out.size (own_drop HV.out))
      have HS8 := Lib.hid (show ∀ l ∈ ls ++ [xorL ls], l.length ≤ 140737488355328 from fun l hl => by
        rw [List.mem_append, List.mem_singleton] at hl
        rcases hl with hl | hl
        · exact HS.out l hl
        · rw [hl, HL4.out]; omega)
      clear hown8 hg8 hat
      go_wp2_with fail
      refine (Xor_any _ _ _ (ls ++ [xorL ls]) _ w8.heap.size (RBB.of_own HO8.out) (Nat.le_refl _) (by omega) HS8.out).mono ?_
      rintro e w9 ⟨A9, n9, c9, rfl, hl9, hown9, hb9⟩
      rw [HX2.out] at hl9 hown9
      rw [HE2.out]
      rw [length_zs, HL4.out] at hl9
      subst hl9
      rw [HL4.out] at hown9
      have HO9 := Lib.hid hown9
      have HB9 := Lib.hid (below_up HB8.out hb9 (Nat.le_refl _))
      have hz9 : w.heap.size ≤ w9.heap.size := HB9.out.size
      clear hown9 hb9 HB8 HO8 HX HO7 HV
      go_wp2_with (at_make; refine wl_makeB TB rfl (.tmp 56) (.tmp 56) rfl .i64 .i64 _ _ rfl rfl n4 ?m1 ?m2 ?m3 w9.heap.size (Nat.le_refl _) ?m4)
      case m1 => rfl
      case m2 => rfl
      case m3 => omega
      case m4 =>
        intro w10 hown10 hg10 hlt10
        have hb10 : Below w9.heap.size w9 w10 := (Below.refl _ _).grown hg10 (Nat.le_refl _) (by simp)
        have HO10 := Lib.hid hown10
        have HO9' := Lib.hid (own_later HO9.out hb10)
        have HB10 := Lib.hid (below_up HB9.out hb10 (Nat.le_refl _))
        clear hown10 hg10 hlt10 hb10 HB9 HO9
        go_wp2_with fail
        refine (Equal_any _ _ _ _ _ _ (zs n4) (zs n4) _ _ _ (RB.of_own HO9'.out) (RB.of_own HO10.out) (by omega)).mono fun e w11 h => ?_
        obtain ⟨rfl, hb11⟩ := h.below
        rw [show decide (zs n4 = zs n4) = true by simp]
        have HB11 := Lib.hid (below_up HB10.out hb11 (Nat.le_refl _))
        clear h hb11 HB10
        go_wp2
        go_ret
        exact ⟨rfl, HB11.out⟩
  · have he : xorE ls = 2 := by simp [xorE, hev]
    rw [he]
    clear he hev
    go_wp2
    go_ret
    exact ⟨rfl, HB6.out⟩
end Go.Proofs.Ytbmcbalofoledaa
