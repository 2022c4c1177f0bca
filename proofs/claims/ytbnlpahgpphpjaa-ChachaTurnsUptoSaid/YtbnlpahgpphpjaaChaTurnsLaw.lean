/-
  The walk of shallotlaw04.ChachaTurns: it returns true; nothing that was there has turned. Conditions: the sizes of the key and of the parts.
-/
import Derived.Test.YtbnlpahgpphpjaaChaLaw
import Derived.Test.YtbnlpahgpphpjaaChaTurn
namespace Go.Proofs.Ytbnlpahgpphpjaa
open Go Go.RowKit Go.Sh

theorem xz_back {a b : List UInt8} (h : a.length = b.length) : xz (xz a b) b = a := by
  apply List.ext_getElem
  · rw [length_xz (length_xz h rfl) rfl, h]
  · intro i h1 h2
    simp [xz, UInt8.xor_assoc]
/-- turned twice -/
theorem turn_back {key : List UInt8} {kl : Nat} {l : List UInt8} (h : cturnE kl l.length = 0) : cturnE kl (cturnL key kl l).length = 0 ∧ cturnL key kl (cturnL key kl l) = l := by
  have hk : kl = 32 := by
    unfold cturnE at h
    split at h
    · assumption
    · omega
  subst hk
  have ht : l.length ≤ 65536 := by
    have h' : trnE 0 l.length = 0 := h
    unfold trnE at h'
    split at h'
    · omega
    · omega
  have e1 : cturnL key 32 l = xz l (sbytes key 0 l.length) := by
    rw [cturnL, if_pos rfl, trnL, if_pos (by omega)]
  have e2 : (xz l (sbytes key 0 l.length)).length = l.length := length_xz rfl (length_sbytes _ _ _)
  rw [e1]
  constructor
  · rw [e2]; exact h
  · rw [cturnL, if_pos rfl, trnL, e2, if_pos (by omega)]
    exact xz_back (length_sbytes _ _ _).symm
theorem cturnE_cases (kl t : Nat) : cturnE kl t = 0 ∨ cturnE kl t = 2 ∨ cturnE kl t = 11 := by
  unfold cturnE trnE
  split
  · split <;> simp
  · simp

set_option maxHeartbeats 1000000 in
theorem ChachaTurns_walk (A : Option Addr) (kl c : Nat) (key : List UInt8) (A' : Option Addr) (m c' : Nat) (ls : List (List UInt8)) (w : World) (hk : RB w w.heap.size A kl key) (hn : kl ≤ 1048576)
    (hl : RBB w w.heap.size A' m ls) (hs : ls.flatten.length + m ≤ 1048576) :
    Calls Try.prog 6 #[.slice A kl c, .slice A' m c'] w (LawPost w) := by
  have HK := Lib.hid hk
  have HL := Lib.hid hl
  have HS := Lib.hid (show ls.flatten.length ≤ 140737488355328 by omega)
  have HSL := Lib.hid (show ∀ l ∈ ls, l.length ≤ 140737488355328 from fun l h => by have := flat_mem h; omega)
  have hm : m ≤ 1048576 := by omega
  have HBK := Lib.hid (fun h => turn_back (key := key) (kl := kl) (l := ls.flatten) h)
  have HE := Lib.hid (cturnE_cases kl ls.flatten.length)
  have HL5 := Lib.hid (length_cturnL key kl ls.flatten)
  obtain ⟨er, her⟩ : ∃ er, cturnE kl ls.flatten.length = er := ⟨_, rfl⟩
  obtain ⟨l5, e5⟩ : ∃ l5, cturnL key kl ls.flatten = l5 := ⟨_, rfl⟩
  rw [her] at HE HBK
  rw [e5] at HBK HL5
  have HR := Lib.hid her
  have H5 := Lib.hid e5
  clear hk hl hs her e5
  go_enter Try.func6, Try.ntmps6
  go_wp2_with fail
  refine (awake_any w).mono ?_
  rintro e w1 ⟨rfl, hb1⟩
  have hz1 := hb1.size
  have HB1 := Lib.hid hb1
  clear hb1
  go_wp2_with fail
  refine (RefJoin_any A' m c' ls w1 w.heap.size (HL.out.below HB1.out) hz1 (by omega) HS.out).mono ?_
  rintro e w2 ⟨A2, n2, c2, rfl, hl2, ho2, hb2⟩
  have HL2 := Lib.hid hl2
  have HO2 := Lib.hid ho2
  have HB2 := Lib.hid (HB1.out.trans (hb2.mono hz1))
  have hz2 := HB2.out.size
  clear hl2 ho2 hb2 HB1
  go_wp2_with fail
  refine (Copy_any A kl c key w2 w.heap.size (HK.out.below HB2.out) hz2 (by omega)).mono ?_
  rintro e w3 ⟨g3, c3, rfl, ho3, hb3⟩
  have HO3 := Lib.hid ho3
  have HO23 := Lib.hid (own_later HO2.out hb3)
  have HB3 := Lib.hid (HB2.out.trans (hb3.mono hz2))
  have hz3 := HB3.out.size
  clear ho3 hb3 HO2 HB2
  go_wp2_with fail
  refine (Copies_any A' m c' ls w3 w.heap.size (HL.out.below HB3.out) hz3 (by omega) HSL.out).mono ?_
  rintro e w4 ⟨g4, c4, rfl, ho4, hb4⟩
  have HO4 := Lib.hid (RBB.of_own ho4)
  have HK4 := Lib.hid (RB.of_own (own_later HO3.out hb4))
  have HO24 := Lib.hid (own_later HO23.out hb4)
  have HB4 := Lib.hid (HB3.out.trans (hb4.mono hz3))
  have hz4 := HB4.out.size
  clear ho4 hb4 HO3 HO23 HB3
  go_wp2_with fail
  have hct := ChaTurn_any _ kl c3 key _ m c4 ls w4 _ _ HK4.out (Nat.le_refl _) HO4.out (Nat.le_refl _) (by omega) HS.out
  rw [HR.out, H5.out] at hct
  refine hct.mono ?_
  clear hct
  rintro e w5 ⟨A5, n5, c5, rfl, hl5, ho5, hb5⟩
  have hn5 : n5 ≤ 65536 := by rw [← hl5]; exact HL5.out
  have HN5 := Lib.hid hl5
  have HO5 := Lib.hid ho5
  have HO25 := Lib.hid (own_later HO24.out hb5)
  have HB5 := Lib.hid (HB4.out.trans (hb5.mono hz4))
  have hz5 := HB5.out.size
  clear hl5 ho5 hb5 HO24 HB4 HK4 HO4
  go_wp2_with fail
  have hct := RefTurn_any A kl c key A2 n2 c2 ls.flatten w5 w.heap.size _ (HK.out.below HB5.out) hz5 (RB.of_own HO25.out) (Nat.le_refl _)
  rw [HR.out, H5.out] at hct
  refine hct.mono ?_
  clear hct
  rintro e w6 ⟨A6, n6, c6, rfl, hl6, ho6, hb6⟩
  have HO6 := Lib.hid (RB.of_own ho6)
  have HO56 := Lib.hid (own_later HO5.out hb6)
  have HO26 := Lib.hid (own_later HO25.out hb6)
  have HB6 := Lib.hid (HB5.out.trans (hb6.mono hz5))
  have hz6 := HB6.out.size
  clear hl6 ho6 hb6 HO5 HO25 HB5
  go_wp2_with fail
  refine (Equal_any A5 A6 n5 n6 c5 c6 l5 l5 w6 _ _ (RB.of_own HO56.out) HO6.out (by omega)).mono ?_
  rintro e w7 h7
  obtain ⟨rfl, hb7⟩ := h7.below
  have HO57 := Lib.hid (own_later HO56.out hb7)
  have HO27 := Lib.hid (own_later HO26.out hb7)
  have HB7 := Lib.hid (HB6.out.trans (hb7.mono hz6))
  have hz7 := HB7.out.size
  clear h7 hb7 HO56 HO26 HB6 HO6
  rw [show decide (l5 = l5) = true by simp]
  rcases HE.out with rfl | rfl | rfl
  · obtain ⟨hb1, hb2⟩ := HBK.out rfl
    have H1 := Lib.hid hb1
    have H2 := Lib.hid hb2
    clear hb1 hb2 HBK HE
    go_wp2_with fail
    refine (Copy_any A kl c key w7 w.heap.size (HK.out.below HB7.out) hz7 (by omega)).mono ?_
    rintro e w8 ⟨g8, c8, rfl, ho8, hb8⟩
    have HO8 := Lib.hid (RB.of_own ho8)
    have HO58 := Lib.hid (own_later HO57.out hb8)
    have HO28 := Lib.hid (own_later HO27.out hb8)
    have HB8 := Lib.hid (HB7.out.trans (hb8.mono hz7))
    have hz8 := HB8.out.size
    clear ho8 hb8 HO57 HO27 HB7
    go_wp2_with fail
    refine (ChaTurn_any _ kl c8 key _ 1 1 [l5] _ w8.heap.size (w8.heap.size + 1) (HO8.out.alloc (Nat.le_refl _) _) (by simp) (RBB.of_list (Reads.lit w8 _ [.slice A5 n5 c5] 1 1 rfl _ rfl) rfl (fun i hi => ?l1)) (by simp) (by omega) ?l2).mono ?_
    case l1 =>
      obtain rfl : i = 0 := by omega
      exact ⟨_, n5, c5, rfl, own_cap HO58.out, ((RB.of_own HO58.out).alloc (Nat.le_refl _) _).more (by omega)⟩
    case l2 =>
      simp only [List.flatten_cons, List.flatten_nil, List.append_nil]
      have := HL5.out
      omega
    rw [show ([l5] : List (List UInt8)).flatten = l5 by simp, H1.out, H2.out]
    rintro e w9 ⟨A9, n9, c9, rfl, hl9, ho9, hb9⟩
    have HL9 := Lib.hid hl9
    have HO9 := Lib.hid (RB.of_own ho9)
    have hbb : Below w8.heap.size w8 w9 := ((Below.refl _ _).alloc (Nat.le_refl _) _).trans (hb9.mono (by simp))
    have HO29 := Lib.hid (RB.of_own (own_later HO28.out hbb))
    have HB9 := Lib.hid (HB8.out.trans (hbb.mono hz8))
    have hz9 := HB9.out.size
    have hn9 : n9 ≤ 140737488355328 := by rw [← HL9.out]; exact HS.out
    clear hl9 ho9 hb9 hbb
    go_wp2_with fail
    refine (Equal_any A9 A2 n9 n2 c9 c2 ls.flatten ls.flatten w9 _ _ HO9.out HO29.out hn9).mono ?_
    rintro e w10 h10
    obtain ⟨rfl, hb10⟩ := h10.below
    have HB10 := Lib.hid (HB9.out.trans (hb10.mono hz9))
    clear h10 hb10
    rw [show decide (ls.flatten = ls.flatten) = true by simp]
    go_wp2_with fail
    go_ret
    exact ⟨rfl, HB10.out⟩
  · clear HBK HE
    go_wp2_with fail
    go_ret
    exact ⟨rfl, HB7.out⟩
  · clear HBK HE
    go_wp2_with fail
    go_ret
    exact ⟨rfl, HB7.out⟩
end Go.Proofs.Ytbnlpahgpphpjaa
