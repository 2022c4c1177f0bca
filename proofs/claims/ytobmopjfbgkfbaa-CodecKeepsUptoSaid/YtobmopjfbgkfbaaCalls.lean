/-
  Contract of shallotlaw01.calls: every call's bytes, in rows of their own that are apart from one another.
-/
import Derived.Test.YtobmopjfbgkfbaaCutV
import Derived.Test.YtobmopjfbgkfbaaKeepRows
import Derived.Test.YtobmopjfbgkfbaaXor
import Derived.Test.YtobmopjfbgkfbaaHex
import Derived.Test.YtobmopjfbgkfbaaUnhex
import Derived.Test.YtobmopjfbgkfbaaPad
import Derived.Test.YtobmopjfbgkfbaaCursor
namespace Go.Proofs.Ytobmopjfbgkfbaa
open Go Go.RowKit Go.Sh

def kcalls (n m : Nat) (l r : List UInt8) : List (List UInt8) :=
  [l ++ r, l, xorL [l, r], unhL (hexL l), padL l ((n : Int) + 5), takL r 0 (m : Int)] ++ cutL l n [0, (n : Int)]
def KCallsPost (w : World) (ls : List (List UInt8)) (e : Ending) (w' : World) : Prop :=
  ∃ A m c vs, e = .returned (.slice A m c) ∧ OBV w' w.heap.size 5 26 (.slice A m c) m ls vs ∧ Below w.heap.size w w'

set_option maxRecDepth 100000 in
set_option maxHeartbeats 4000000 in
theorem Calls_any (A A' : Option Addr) (n c m c' : Nat) (l r : List UInt8) (w : World) (B : Nat) (hl : RB w B A n l) (hr : RB w B A' m r) (hB : B ≤ w.heap.size) (hc : n ≤ c) (hc' : m ≤ c') (hn : n ≤ 1048576) (hm : m ≤ 1048576) :
    Calls Try.prog 39 #[.slice A n c, .slice A' m c'] w (KCallsPost w (kcalls n m l r)) := by
  have HL := Lib.hid hl
  have HR := Lib.hid hr
  have HLN := Lib.hid hl.len
  have HRN := Lib.hid hr.len
  have HLS := Lib.hid (show ∀ x ∈ [l, r], x.length ≤ 140737488355328 from fun x hx => by
    simp only [List.mem_cons, List.not_mem_nil, or_false] at hx
    rcases hx with rfl | rfl
    · rw [HLN.out]; omega
    · rw [HRN.out]; omega)
  have HPAIR := Lib.hid (fun (W : World) (B' : Nat) (h1 : RB W B' A n l) (h2 : RB W B' A' m r) (hB' : B' ≤ W.heap.size) => show RBB (W.alloc (.cells #[.slice A n c, .slice A' m c'] 26)) (W.heap.size + 1) (some ⟨W.heap.size, 0, none⟩) 2 [l, r] from
    RBB.of_list (Reads.lit W _ [.slice A n c, .slice A' m c'] 2 1 rfl _ rfl) rfl (fun i hi => by
      rcases (by omega : i = 0 ∨ i = 1) with rfl | rfl
      · exact ⟨_, n, c, rfl, hc, (h1.alloc hB' _).more (by omega)⟩
      · exact ⟨_, m, c', rfl, hc', (h2.alloc hB' _).more (by omega)⟩))
  clear hl hr
  go_enter Try.func39, Try.ntmps39
  go_wp2_with fail
  refine (Xor_any (some ⟨w.heap.size, 0, none⟩) 2 2 [l, r] (w.alloc (.cells #[.slice A n c, .slice A' m c'] 26)) (w.heap.size + 1) (HPAIR.out w B HL.out HR.out hB) (by simp) (by omega) HLS.out).mono ?_
  rintro e w1 ⟨A1, n1, c1, rfl, hl1, ho1, hb1⟩
  have hbb : Below w.heap.size w w1 := ((Below.refl _ _).alloc (Nat.le_refl _) _).trans (hb1.mono (by simp))
  have hs1 : w.heap.size < w1.heap.size := by have := hb1.size; simp at this; omega
  have HO1 := Lib.hid (own_base ho1 (base' := w.heap.size) (by simp))
  have HK1 := Lib.hid (show Lain (.slice A1 n1 c1) w.heap.size w1.heap.size from fun k hk => HO1.out.lt k hk)
  have HB1 := Lib.hid hbb
  clear hl1 ho1 hb1 hbb
  go_wp2_with fail
  refine (CutV_any A (some ⟨w1.heap.size, 0, none⟩) n 2 c 2 l [0, (n : Int)] (w1.alloc (.cells #[.int .i64 0, .int .i64 n] 3)) B (w1.heap.size + 1) ((HL.out.below (HB1.out.mono hB)).alloc (by omega) _)
    ?z1 (by simp; omega) (by simp) hc (by omega) (by omega)).mono ?_
  case z1 => exact ⟨Reads.lit w1 _ [.int .i64 0, .int .i64 n] 2 1 rfl _ rfl, fun z hz => by
    simp only [List.mem_cons, List.not_mem_nil, or_false] at hz
    omega⟩
  rintro e w2 ⟨A2, m2, c2, vs, rfl, hv2, hb2⟩
  have hbb : Below w1.heap.size w1 w2 := ((Below.refl _ _).alloc (Nat.le_refl _) _).trans (hb2.mono (by simp))
  have hs2 : w1.heap.size < w2.heap.size := by have := hb2.size; simp at this; omega
  have HO12 := Lib.hid (own_later HO1.out hbb)
  have HV2 := Lib.hid (hv2.base_le (base' := w1.heap.size) (by simp))
  have HKV := Lib.hid (show Lain (.slice A2 m2 c2) w1.heap.size w2.heap.size from fun k hk => HV2.out.2.1.lt k hk)
  have HK2 := Lib.hid (show ∀ u ∈ vs, Lain u w1.heap.size w2.heap.size from fun u hu k hk => HV2.out.lt u hu k hk)
  have HB2 := Lib.hid (HB1.out.trans (hbb.mono (by omega)))
  obtain ⟨ce, hce⟩ : ∃ ce, cutE n [0, (n : Int)] = ce := ⟨_, rfl⟩
  rw [hce]
  clear hv2 hb2 hbb HO1 HB1 hce
  go_wp2_with fail
  refine (Hex_any A n c l w2 B (HL.out.below (HB2.out.mono hB)) (by omega) hn).mono ?_
  rintro e w3 ⟨rfl, hb3⟩
  have HO13 := Lib.hid (own_later HO12.out hb3)
  have HV3 := Lib.hid (HV2.out.later hb3)
  have HB3 := Lib.hid (HB2.out.trans (hb3.mono (by omega)))
  have hs3 := hb3.size
  clear hb3 HO12 HV2 HB2
  go_wp2_with fail
  refine (Unhex_any (hexL l) (2 * n) w3 (by rw [length_hexL, HLN.out]) (by omega)).mono ?_
  rintro e w4 ⟨A4, n4, c4, rfl, hl4, ho4, hb4⟩
  have HO14 := Lib.hid (own_later HO13.out hb4)
  have HV4 := Lib.hid (HV3.out.later hb4)
  have HO4 := Lib.hid ho4
  have HK4 := Lib.hid (show Lain (.slice A4 n4 c4) w3.heap.size w4.heap.size from fun k hk => HO4.out.lt k hk)
  have HB4 := Lib.hid (HB3.out.trans (hb4.mono (by omega)))
  have hs4 := hb4.size
  clear hl4 ho4 hb4 HO13 HV3 HB3
  obtain ⟨ue, hue⟩ : ∃ ue, unhE (hexL l) = ue := ⟨_, rfl⟩
  rw [hue]
  clear hue
  go_wp2_with fail
  refine (Pad_any A n c l ((n : Int) + 5) w4 B (HL.out.below (HB4.out.mono hB)) (by omega)).mono ?_
  rintro e w5 ⟨A5, n5, c5, rfl, hl5, ho5, hb5⟩
  have HO15 := Lib.hid (own_later HO14.out hb5)
  have HV5 := Lib.hid (HV4.out.later hb5)
  have HO45 := Lib.hid (own_later HO4.out hb5)
  have HO5 := Lib.hid ho5
  have HK5 := Lib.hid (show Lain (.slice A5 n5 c5) w4.heap.size w5.heap.size from fun k hk => HO5.out.lt k hk)
  have HB5 := Lib.hid (HB4.out.trans (hb5.mono (by omega)))
  have hs5 := hb5.size
  clear hl5 ho5 hb5 HO14 HV4 HO4 HB4
  obtain ⟨pe, hpe⟩ : ∃ pe, padE l ((n : Int) + 5) = pe := ⟨_, rfl⟩
  rw [hpe]
  clear hpe
  go_wp2_with fail
  refine (NewCursor_any A' m c' r w5 B (HR.out.below (HB5.out.mono hB)) (by omega) (by omega)).mono ?_
  rintro e w6 ⟨p, rfl, hcur, hb6⟩
  have HC6 := Lib.hid hcur
  have HO16 := Lib.hid (own_later HO15.out hb6)
  have HV6 := Lib.hid (HV5.out.later hb6)
  have HO46 := Lib.hid (own_later HO45.out hb6)
  have HO56 := Lib.hid (own_later HO5.out hb6)
  have HB6 := Lib.hid (HB5.out.trans (hb6.mono (by omega)))
  have hs6 := hb6.size
  have hp6 := hcur.lt
  clear hcur hb6 HO15 HV5 HO45 HO5 HB5
  go_wp2_with fail
  refine (Take_any p w5.heap.size r 0 (m : Int) w6 HC6.out (by rw [HRN.out]; omega)).mono ?_
  rintro e w7 ⟨A7, n7, c7, rfl, hl7, ho7, _, hct, hg7⟩
  have hp5 := HC6.out.1
  have HO17 := Lib.hid (own_at HO16.out HK1.out (by omega) hg7)
  have HV7 := Lib.hid (HV6.out.at_p HKV.out HK2.out (by omega) hg7)
  have HO47 := Lib.hid (own_at HO46.out HK4.out (by omega) hg7)
  have HO57 := Lib.hid (own_at HO56.out HK5.out (by omega) hg7)
  have HO7 := Lib.hid ho7
  have hs7 := hg7.size
  have HK7 := Lib.hid (show Lain (.slice A7 n7 c7) w6.heap.size w7.heap.size from fun k hk => HO7.out.lt k hk)
  have HB7 := Lib.hid (HB6.out.grown hg7 (by omega) (fun g hg => by injection hg with hg; omega))
  clear hl7 ho7 hct hg7 HO16 HV6 HO46 HO56 HB6 HC6
  obtain ⟨te, hte⟩ : ∃ te, takE r.length 0 (m : Int) = te := ⟨_, rfl⟩
  rw [hte]
  clear hte
  go_wp2_with fail
  have hb8 : Below w7.heap.size w7 (w7.alloc (.cells #[.slice A n c, .slice A' m c'] 26)) := (Below.refl _ _).alloc (Nat.le_refl _) _
  have hj := Join_any (some ⟨w7.heap.size, 0, none⟩) 2 2 [l, r] (w7.alloc (.cells #[.slice A n c, .slice A' m c'] 26)) (w7.heap.size + 1)
    (HPAIR.out w7 B (HL.out.below (HB7.out.mono hB)) (HR.out.below (HB7.out.mono hB)) (by omega)) (by simp) (by omega) (by simp [HLN.out, HRN.out]; omega)
  rw [show ([l, r] : List (List UInt8)).flatten = l ++ r by simp] at hj
  refine hj.mono ?_
  clear hj
  rintro e w8 ⟨g8, n8, c8, rfl, hl8, ho8, hb8'⟩
  have hbb := hb8.trans (hb8'.mono (by simp))
  have HO18 := Lib.hid (own_later HO17.out hbb)
  have HV8 := Lib.hid (HV7.out.later hbb)
  have HO48 := Lib.hid (own_later HO47.out hbb)
  have HO58 := Lib.hid (own_later HO57.out hbb)
  have HO78 := Lib.hid (own_later HO7.out hbb)
  have HO8 := Lib.hid (own_base ho8 (base' := w7.heap.size) (by simp))
  have HK8 := Lib.hid (show Lain (.slice (some ⟨g8, 0, none⟩) n8 c8) w7.heap.size w8.heap.size from fun k hk => HO8.out.lt k hk)
  have HB8 := Lib.hid (HB7.out.trans (hbb.mono (by omega)))
  have hs8 := hbb.size
  clear hl8 ho8 hb8 hb8' hbb HO17 HV7 HO47 HO57 HO7 HB7
  go_wp2_with fail
  have hb9 : Below w8.heap.size w8 (w8.alloc (.cells #[.slice A n c] 26)) := (Below.refl _ _).alloc (Nat.le_refl _) _
  have hj := Join_any (some ⟨w8.heap.size, 0, none⟩) 1 1 [l] (w8.alloc (.cells #[.slice A n c] 26)) (w8.heap.size + 1)
    (RBB.of_list (Reads.lit w8 _ [.slice A n c] 1 1 rfl _ rfl) rfl (fun i hi => by
      obtain rfl : i = 0 := by omega
      exact ⟨_, n, c, rfl, hc, ((HL.out.below (HB8.out.mono hB)).alloc (by omega) _).more (by omega)⟩)) (by simp) (by omega) (by simp [HLN.out]; omega)
  rw [show ([l] : List (List UInt8)).flatten = l by simp] at hj
  refine hj.mono ?_
  clear hj
  rintro e w9 ⟨g9, n9, c9, rfl, hl9, ho9, hb9'⟩
  have hbb := hb9.trans (hb9'.mono (by simp))
  have HO19 := Lib.hid (own_later HO18.out hbb)
  have HV9 := Lib.hid (HV8.out.later hbb)
  have HO49 := Lib.hid (own_later HO48.out hbb)
  have HO59 := Lib.hid (own_later HO58.out hbb)
  have HO79 := Lib.hid (own_later HO78.out hbb)
  have HO89 := Lib.hid (own_later HO8.out hbb)
  have HO9 := Lib.hid (own_base ho9 (base' := w8.heap.size) (by simp))
  have HK9 := Lib.hid (show Lain (.slice (some ⟨g9, 0, none⟩) n9 c9) w8.heap.size w9.heap.size from fun k hk => HO9.out.lt k hk)
  have HB9 := Lib.hid (HB8.out.trans (hbb.mono (by omega)))
  have hs9 := hbb.size
  clear hl9 ho9 hb9 hb9' hbb HO18 HV8 HO48 HO58 HO78 HO8 HB8
  obtain ⟨six, hsix⟩ : ∃ six, six = [Value.slice (some ⟨g8, 0, none⟩) n8 c8, .slice (some ⟨g9, 0, none⟩) n9 c9, .slice A1 n1 c1, .slice A4 n4 c4, .slice A5 n5 c5, .slice A7 n7 c7] := ⟨_, rfl⟩
  have hobv : OBV (w9.alloc (.cells #[.slice (some ⟨g8, 0, none⟩) n8 c8, .slice (some ⟨g9, 0, none⟩) n9 c9, .slice A1 n1 c1, .slice A4 n4 c4, .slice A5 n5 c5, .slice A7 n7 c7] 26)) w.heap.size 5 26 (.slice (some ⟨w9.heap.size, 0, none⟩) 6 6) 6 [l ++ r, l, xorL [l, r], unhL (hexL l), padL l ((n : Int) + 5), takL r 0 (m : Int)] six := by
    have hb := (Below.refl w9.heap.size w9).alloc (Nat.le_refl _) (.cells #[.slice (some ⟨g8, 0, none⟩) n8 c8, .slice (some ⟨g9, 0, none⟩) n9 c9, .slice A1 n1 c1, .slice A4 n4 c4, .slice A5 n5 c5, .slice A7 n7 c7] 26)
    refine OBV.of_sep rfl (by rw [hsix]; exact World.ownsRow_lit w9 #[.slice (some ⟨g8, 0, none⟩) n8 c8, .slice (some ⟨g9, 0, none⟩) n9 c9, .slice A1 n1 c1, .slice A4 n4 c4, .slice A5 n5 c5, .slice A7 n7 c7] 6 (by omega) (by decide) rfl) ?_ ?_
    · intro i u hu
      have hi := (List.getElem?_eq_some_iff.1 hu).1
      rw [hsix] at hu hi
      simp only [List.length_cons, List.length_nil] at hi
      rcases (by omega : i = 0 ∨ i = 1 ∨ i = 2 ∨ i = 3 ∨ i = 4 ∨ i = 5) with rfl | rfl | rfl | rfl | rfl | rfl <;> obtain rfl := Option.some.inj hu
      · exact ⟨_, _, _, rfl, own_later (own_base HO89.out (by omega)) hb⟩
      · exact ⟨_, _, _, rfl, own_later (own_base HO9.out (by omega)) hb⟩
      · exact ⟨_, _, _, rfl, own_later (own_base HO19.out (by omega)) hb⟩
      · exact ⟨_, _, _, rfl, own_later (own_base HO49.out (by omega)) hb⟩
      · exact ⟨_, _, _, rfl, own_later (own_base HO59.out (by omega)) hb⟩
      · exact ⟨_, _, _, rfl, own_later (own_base HO79.out (by omega)) hb⟩
    · rw [hsix]
      refine Sep.cons (Sep.cons (Sep.cons (Sep.cons (Sep.cons (Sep.cons Sep.nil ?_) ?_) ?_) ?_) ?_) ?_ <;> intro v hv <;> simp only [List.mem_cons, List.not_mem_nil, or_false] at hv
      · rcases hv with rfl
        exact HK5.out.dst HK7.out (by omega)
      · rcases hv with rfl | rfl
        · exact HK4.out.dst HK5.out (by omega)
        · exact HK4.out.dst HK7.out (by omega)
      · rcases hv with rfl | rfl | rfl
        · exact HK1.out.dst HK4.out (by omega)
        · exact HK1.out.dst HK5.out (by omega)
        · exact HK1.out.dst HK7.out (by omega)
      · rcases hv with rfl | rfl | rfl | rfl
        · exact HK9.out.dst HK1.out (by omega)
        · exact HK9.out.dst HK4.out (by omega)
        · exact HK9.out.dst HK5.out (by omega)
        · exact HK9.out.dst HK7.out (by omega)
      · rcases hv with rfl | rfl | rfl | rfl | rfl
        · exact HK8.out.dst HK9.out (by omega)
        · exact HK8.out.dst HK1.out (by omega)
        · exact HK8.out.dst HK4.out (by omega)
        · exact HK8.out.dst HK5.out (by omega)
        · exact HK8.out.dst HK7.out (by omega)
  have HN := Lib.hid hobv
  have hb := (Below.refl w9.heap.size w9).alloc (Nat.le_refl _) (.cells #[.slice (some ⟨g8, 0, none⟩) n8 c8, .slice (some ⟨g9, 0, none⟩) n9 c9, .slice A1 n1 c1, .slice A4 n4 c4, .slice A5 n5 c5, .slice A7 n7 c7] 26)
  have HV10 := Lib.hid ((HV9.out.later hb).base_le (base' := w.heap.size) (by omega))
  have HB10 := Lib.hid (HB9.out.trans (hb.mono (by omega)))
  have hs10 : (w9.alloc (.cells #[.slice (some ⟨g8, 0, none⟩) n8 c8, .slice (some ⟨g9, 0, none⟩) n9 c9, .slice A1 n1 c1, .slice A4 n4 c4, .slice A5 n5 c5, .slice A7 n7 c7] 26)).heap.size = w9.heap.size + 1 := by simp
  have hm2 : m2 ≤ 2 := by
    rw [← HV9.out.1]
    unfold cutL
    split
    · simp [cutP]
    · simp
  have HD := Lib.hid (show ∀ u ∈ six, ∀ v ∈ vs, Dst u v from fun u hu v hv => by
    rw [hsix] at hu
    simp only [List.mem_cons, List.not_mem_nil, or_false] at hu
    rcases hu with rfl | rfl | rfl | rfl | rfl | rfl
    · exact HK8.out.dst (HK2.out v hv) (by omega)
    · exact HK9.out.dst (HK2.out v hv) (by omega)
    · exact HK1.out.dst (HK2.out v hv) (by omega)
    · exact HK4.out.dst (HK2.out v hv) (by omega)
    · exact HK5.out.dst (HK2.out v hv) (by omega)
    · exact HK7.out.dst (HK2.out v hv) (by omega))
  clear hobv hb hsix HO19 HV9 HO49 HO59 HO79 HO89 HO9 HB9 HK1 HK2 HKV HK4 HK5 HK7 HK8 HK9
  go_wp2_with (at_builtin; refine wl_app TBB rfl (.tmp 65) (.tmp 66) rfl (.slice (some ⟨w9.heap.size, 0, none⟩) 6 6) rfl A2 m2 c2 rfl w.heap.size 6 six HN.out.2.1 (w9.alloc (.cells #[.slice (some ⟨g8, 0, none⟩) n8 c8, .slice (some ⟨g9, 0, none⟩) n9 c9, .slice A1 n1 c1, .slice A4 n4 c4, .slice A5 n5 c5, .slice A7 n7 c7] 26)).heap.size _ (Reads.of_own HV10.out.2.1) HV10.out.one (by omega) (by omega) (by omega) ?q6)
  case q6 =>
    intro A11 c11 w11 hown hgr hat
    have HV11 := Lib.hid (HN.out.joinD HV10.out HD.out (by decide) hgr hown)
    have HB11 := Lib.hid (HB10.out.grown hgr (by omega) (fun g hg => by
      have : w9.heap.size = g := by simpa [Value.ownBlock] using hg
      omega))
    clear hown hgr hat HN HV10 HB10
    go_wp2_with fail
    go_ret
    exact ⟨A11, 6 + m2, c11, six ++ vs, rfl, HV11.out, HB11.out⟩
end Go.Proofs.Ytobmopjfbgkfbaa
