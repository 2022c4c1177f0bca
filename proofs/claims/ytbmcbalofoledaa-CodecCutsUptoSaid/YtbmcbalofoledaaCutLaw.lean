/-
  The walk of shallotlaw01.CodecCuts: for every list of bytes and every list of sizes the law returns true and writes nothing that was there. Condition: at most 1048576 bytes and as many sizes.
-/
import Derived.Test.YtbmcbalofoledaaJoinLaw
namespace Go.Proofs.Ytbmcbalofoledaa
open Go Go.RowKit Go.Sh

theorem cutP_flatten (l : List UInt8) (zs : List Int) : ∀ m, m ≤ zs.length → (∀ k, k < zs.length → 0 ≤ it zs k) → (cutP l zs m).flatten = l.take (pre zs m)
  | 0, _, _ => by simp [cutP, pre]
  | m + 1, h, hp => by
    rw [cutP_succ, List.flatten_append, cutP_flatten l zs m (by omega) hp, pre_succ (by omega)]
    simp only [List.flatten_cons, List.flatten_nil, List.append_nil]
    unfold pce
    rw [List.take_add]
theorem neg_all {zs : List Int} (h : negB zs = false) : ∀ k, k < zs.length → 0 ≤ it zs k := by
  intro k hk
  rw [negB, List.any_eq_false] at h
  have := h _ (it_mem hk)
  simpa using this
/-- the pieces joined are the bytes again -/
theorem cut_back {l : List UInt8} {n : Nat} {zs : List Int} (hl : l.length = n) (h : cutE n zs = 0) : (cutL l n zs).flatten = l := by
  have h1 : negB zs = false := by
    rcases Bool.eq_false_or_eq_true (negB zs) with h1 | h1
    · simp [cutE, h1] at h
    · exact h1
  have h2 : pre zs zs.length = n := by
    by_cases h2 : pre zs zs.length = n
    · exact h2
    · simp [cutE, h1, h2] at h
  rw [cutL, if_pos h, cutP_flatten l zs _ (Nat.le_refl _) (neg_all h1), h2, List.take_of_length_le (by omega)]
theorem cutL_len (l : List UInt8) (n : Nat) (zs : List Int) : (cutL l n zs).length ≤ zs.length := by
  unfold cutL
  split
  · simp [cutP]
  · simp
theorem cutL_small {l : List UInt8} {n : Nat} {zs : List Int} (hl : l.length ≤ n) : ∀ x ∈ cutL l n zs, x.length ≤ n := by
  intro x hx
  unfold cutL at hx
  split at hx
  · obtain ⟨i, _, rfl⟩ := List.mem_map.1 hx
    unfold pce
    rw [List.length_take, List.length_drop]
    omega
  · cases hx

theorem CodecCuts_walk (A : Option Addr) (n c : Nat) (l : List UInt8) (A' : Option Addr) (m c' : Nat) (zs : List Int) (w : World) (hr : RB w w.heap.size A n l) (hn : n ≤ 1048576) (hz : RI w w.heap.size A' m zs) (hm : m ≤ 1048576) (hc : n ≤ c) :
    Calls Try.prog 11 #[.slice A n c, .slice A' m c'] w (LawPost w) := by
  have HR := Lib.hid hr
  have HL := Lib.hid hr.len
  have HZ := Lib.hid hz
  have HZL := Lib.hid hz.len
  clear hr hz
  go_enter Try.func11, Try.ntmps11
  go_wp2_with fail
  refine (Cut_any _ _ _ _ _ _ [1, 2, 3] [1, 0, 2] _ (w.heap.size + 1) (w.heap.size + 1 + 1) ((RB.lit w _ [1, 2, 3] _ rfl _ rfl).alloc (by simp) _) ⟨Reads.lit _ _ _ 3 1 rfl _ (by simp), by decide⟩ (by simp) (by simp) (by decide) (by decide) (by decide)).mono ?_
  rintro e w1 ⟨A1, m1, c1, rfl, ho1, hb1⟩
  rw [show cutL [1, 2, 3] ([1, 2, 3] : List UInt8).length [1, 0, 2] = [[1], [], [2, 3]] by decide] at ho1
  rw [show cutE ([1, 2, 3] : List UInt8).length [1, 0, 2] = 0 by decide]
  obtain rfl : 3 = m1 := ho1.1
  have HO1 := Lib.hid ho1
  have HB1 := Lib.hid (show Below w.heap.size w w1 from (((Below.refl _ _).alloc (Nat.le_refl _) _).alloc (by simp) _).trans (hb1.mono (by simp; omega)))
  clear ho1 hb1
  go_wp2_with fail
  refine (Equals_any _ _ _ _ _ _ [[1], [], [2, 3]] [[1], [], [2, 3]] _ w1.heap.size (w1.heap.size + 1 + 1 + 1 + 1) ((RBB.of_own HO1.out).below (((((Below.refl _ _).alloc (Nat.le_refl _) _).alloc (by simp) _).alloc (by simp; omega) _).alloc (by simp; omega) _)) ?_ (by decide) (by decide)).mono fun e w2 h => ?_
  · refine RBB.of_list (Reads.lit _ _ [.slice (some ⟨w1.heap.size, 0, none⟩) 1 1, .slice (some ⟨w1.heap.size + 1, 0, none⟩) 0 0, .slice (some ⟨w1.heap.size + 1 + 1, 0, none⟩) 2 2] 3 1 rfl _ (by simp)) rfl (fun i hi => ?_)
    rcases (by omega : i = 0 ∨ i = 1 ∨ i = 2) with rfl | rfl | rfl
    · exact ⟨_, 1, 1, rfl, Nat.le_refl _, ((((RB.lit w1 _ [1] _ rfl 1 rfl).alloc (by simp) _).alloc (by simp) _).alloc (by simp) _).more (by omega)⟩
    · exact ⟨_, 0, 0, rfl, Nat.le_refl _, RB.none_⟩
    · exact ⟨_, 2, 2, rfl, Nat.le_refl _, ((RB.litAt _ _ [2, 3] _ rfl 2 rfl _ (by simp)).alloc (by simp) _).more (by omega)⟩
  obtain ⟨rfl, hb2⟩ := h.below
  rw [show decide (([[1], [], [2, 3]] : List (List UInt8)) = [[1], [], [2, 3]]) = true by decide]
  have hz1 := HB1.out.size
  have HB2 := Lib.hid (show Below w.heap.size w w2 from ((((HB1.out.alloc hz1 _).alloc (by simp; omega) _).alloc (by simp; omega) _).alloc (by simp; omega) _).trans (hb2.mono (by simp; omega)))
  clear h hb2 HB1 HO1 hz1
  go_wp2_with fail
  refine (awake_any _).mono ?_
  rintro e w3 ⟨rfl, hb3⟩
  have HB3 := Lib.hid (below_up HB2.out hb3 (Nat.le_refl _))
  clear hb3 HB2
  go_wp2_with fail
  refine (Copy_any _ _ _ l _ w.heap.size (HR.out.below HB3.out) HB3.out.size (by omega)).mono ?_
  rintro e w4 ⟨g4, c4, rfl, hown4, hb4⟩
  have HO4 := Lib.hid (hown4.alloc (.cells #[] 3))
  have hlt4 : g4 < w4.heap.size := (hown4.lt g4 rfl).2
  have hB4 : Below w.heap.size w w4 := below_up HB3.out hb4 (Nat.le_refl _)
  have HB4 := Lib.hid (show Below w.heap.size w (w4.alloc (.cells #[] 3)) from hB4.alloc hB4.size _)
  have hz4 := hB4.size
  clear hown4 hb4 HB3 hB4
  go_wp2_with (at_builtin; refine wl_app TI rfl (.tmp 33) (.tmp 34) rfl (.slice (some ⟨w4.heap.size, 0, none⟩) 0 0) rfl A' m c' rfl w4.heap.size 0 [] ?c1 w.heap.size (iv zs) ?c2 (iv_one zs) ?c3 ?c4 ?c5 ?c6)
  case c1 => exact World.ownsRow_lit w4 #[] 0 (Nat.le_refl _) (by simp) rfl
  case c2 => exact (HZ.out.below HB4.out).1
  case c3 => omega
  case c4 => omega
  case c5 => simp
  case c6 =>
    intro A5 c5 w5 hown5 hg5 _
    have hb5 : Below w4.heap.size (w4.alloc (.cells #[] 3)) w5 := (Below.refl _ _).grown hg5 (by simp) (by simp [Value.ownBlock])
    have HO5 := Lib.hid (show w5.ownsRow w4.heap.size 3 1 (.slice A5 m c5) m (iv zs) by simpa using hown5)
    have HO4' := Lib.hid (own_below HO4.out hb5 (fun k hk => by
      obtain rfl : g4 = k := by simpa [Value.ownBlock] using hk
      exact hlt4))
    have HB5 := Lib.hid (HB4.out.trans (hb5.mono hz4))
    clear hown5 hg5 hb5 HB4 HO4
    go_wp2_with fail
    refine (Cut_any _ _ _ _ _ _ l zs _ _ _ (RB.of_own HO4'.out) (RI.of_own HO5.out HZ.out.2) (Nat.le_refl _) (Nat.le_refl _) (own_cap HO4'.out) (by omega) (by omega)).mono ?_
    rintro e w6 ⟨A6, m6, c6, rfl, ho6, hb6⟩
    have HO6 := Lib.hid ho6
    have HB6 := Lib.hid (below_up HB5.out hb6 (Nat.le_refl _))
    have hm6 : m6 ≤ 1048576 := by rw [← ho6.1]; exact Nat.le_trans (cutL_len l n zs) (by rw [HZL.out]; exact hm)
    clear ho6 hb6 HB5 HO5 HO4'
    go_wp2_with fail
    refine (RefCut_any _ _ _ _ _ _ l zs _ _ _ (HR.out.below HB6.out) (HZ.out.below HB6.out) HB6.out.size HB6.out.size hc (by omega) (by omega)).mono ?_
    rintro e w7 ⟨A7, m7, c7, rfl, ho7, hb7⟩
    have HO7 := Lib.hid ho7
    have HO6' := Lib.hid (HO6.out.later hb7)
    have HB7 := Lib.hid (below_up HB6.out hb7 (Nat.le_refl _))
    clear ho7 hb7 HB6 HO6
    have tE : (cutE n zs != cutE n zs) = false := by simp
    have HSM := Lib.hid (show ∀ x ∈ cutL l n zs, x.length ≤ 140737488355328 from fun x hx => Nat.le_trans (cutL_small (Nat.le_of_eq HL.out) x hx) (by omega))
    go_wp2_with fail
    refine (Equals_any _ _ _ _ _ _ (cutL l n zs) (cutL l n zs) _ _ _ (RBB.of_own HO6'.out) (RBB.of_own HO7.out) (by omega) HSM.out).mono fun e w8 h => ?_
    obtain ⟨rfl, hb8⟩ := h.below
    rw [show decide (cutL l n zs = cutL l n zs) = true by simp]
    have HO8 := Lib.hid (HO6'.out.later hb8)
    have HB8 := Lib.hid (below_up HB7.out hb8 (Nat.le_refl _))
    clear h hb8 HB7 HO7 HO6' tE
    by_cases h0 : cutE n zs = 0
    · have HBK := Lib.hid (cut_back HL.out h0)
      have t0 : (cutE n zs != 0) = false := by rw [h0]; rfl
      clear h0
      generalize cutE n zs = ce at *
      go_wp2_with fail
      refine (Join_any _ _ _ (cutL l n zs) _ _ (RBB.of_own HO8.out) (Nat.le_refl _) (by omega) (by rw [HBK.out, HL.out]; omega)).mono ?_
      rintro e w9 ⟨g9, n9, c9, rfl, hl9, hown9, hb9⟩
      rw [HBK.out] at hl9 hown9
      rw [HL.out] at hl9
      obtain rfl : n = n9 := hl9
      have HO9 := Lib.hid hown9
      have HB9 := Lib.hid (below_up HB8.out hb9 (Nat.le_refl _))
      clear hown9 hb9 HB8 HO8
      go_wp2_with fail
      refine (Equal_any _ _ _ _ _ _ l l _ _ _ (RB.of_own HO9.out) (HR.out.below HB9.out) (by omega)).mono fun e w10 h => ?_
      obtain ⟨rfl, hb10⟩ := h.below
      rw [show decide (l = l) = true by simp]
      have HB10 := Lib.hid (below_up HB9.out hb10 (Nat.le_refl _))
      clear h hb10 HB9
      go_wp2
      go_ret
      exact ⟨rfl, HB10.out⟩
    · have t0 : (cutE n zs != 0) = true := by rw [bne_iff_ne]; exact h0
      clear h0
      generalize cutE n zs = ce at *
      go_wp2
      go_ret
      exact ⟨rfl, HB8.out⟩
end Go.Proofs.Ytbmcbalofoledaa
