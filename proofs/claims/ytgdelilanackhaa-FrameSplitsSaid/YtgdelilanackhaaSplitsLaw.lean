/-
  The walk of shallotlaw11.FrameSplits: it returns true; nothing that was there has turned. Conditions: the sizes that slices can have; the numbers fit their types.
-/
import Derived.Test.YtgdelilanackhaaFrmAwake
import Derived.Test.YtgdelilanackhaaSplit
import Derived.Test.YtgdelilanackhaaSame
namespace Go.Proofs.Ytgdelilanackhaa
open Go Go.RowKit Go.Sh

theorem splL_len (id : Int) (l : List UInt8) : (splL id l).length ≤ 16 := by
  unfold splL
  split
  · simp
  · have := (splN_facts (n := l.length) (by omega)).2.2.2.1
    simpa using this
theorem splL_small (id : Int) (l : List UInt8) : ∀ p ∈ splL id l, p.d.length ≤ 450 := by
  intro p hp
  unfold splL at hp
  split at hp
  · simp at hp
  · obtain ⟨i, _, rfl⟩ := List.mem_map.1 hp
    simp only [splP, List.length_take]
    omega

set_option maxHeartbeats 1000000 in
theorem FrameSplits_walk (id : Int) (A : Option Addr) (n c : Nat) (l : List UInt8) (k : Int) (w : World) (_hid : 0 ≤ id ∧ id ≤ 18446744073709551615) (hr : RB w w.heap.size A n l) (hn : n ≤ 140737488355328) (_hk : -9223372036854775808 ≤ k ∧ k ≤ 9223372036854775807) (hc : n ≤ c) :
    Calls Try.prog 3 #[.int .u64 id, .slice A n c, .int .i64 k] w (LawPost w) := by
  have HR := Lib.hid hr
  have HSL := Lib.hid (splL_len id l)
  have HSS := Lib.hid (splL_small id l)
  clear hr
  have HSP := Lib.hid (fun A c w B (hr : RB w B A n l) hB hc => Split_any id A n c l w B hr hB hc hn)
  have HSR := Lib.hid (fun A c w B (hr : RB w B A n l) hB hc => RefSplit_any id A n c l w B hr hB hc hn)
  generalize splL id l = sl at *
  generalize splE n = er at *
  go_enter Try.func3, Try.ntmps3
  go_wp2_with fail
  refine (awake_any w).mono ?_
  rintro e w1 ⟨rfl, hb⟩
  have HB1 := Lib.hid hb
  have hz1 := hb.size
  clear hb
  go_wp2_with fail
  refine (Copy_any A n c l w1 w.heap.size (HR.out.below HB1.out) hz1 hn).mono ?_
  rintro e w2 ⟨g2, c2, rfl, ho, hb⟩
  have HO2 := Lib.hid ho
  have HB2 := Lib.hid (HB1.out.trans (hb.mono hz1))
  have hz2 := HB2.out.size
  clear ho hb HB1
  go_wp2_with fail
  refine (HSP.out _ c2 w2 w2.heap.size (RB.of_own HO2.out) (Nat.le_refl _) (own_cap HO2.out)).mono ?_
  rintro e w3 ⟨A3, m3, c3, ss3, rfl, ho, hb⟩
  have HO3 := Lib.hid ho
  have HB3 := Lib.hid (HB2.out.trans (hb.mono hz2))
  have hz3 := HB3.out.size
  have hm3 : m3 ≤ 16 := by rw [← ho.1]; exact HSL.out
  have HM3 := Lib.hid ho.1
  clear ho hb HB2 HO2
  go_wp2_with fail
  refine (HSR.out A c w3 w.heap.size (HR.out.below HB3.out) hz3 hc).mono ?_
  rintro e w4 ⟨A4, m4, c4, ss4, rfl, ho, hb⟩
  obtain rfl : m3 = m4 := by rw [← HM3.out, ho.1]
  have HO4 := Lib.hid (RP.of_own ho)
  have HO34 := Lib.hid (RP.of_own (HO3.out.later hb))
  have HB4 := Lib.hid (HB3.out.trans (hb.mono hz3))
  have hz4 := HB4.out.size
  clear ho hb HB3 HO3
  have HC1 := Lib.hid (Count_any k w4)
  have HC2 := Lib.hid (RefCount_any k w4)
  generalize cntV k = cv at *
  generalize cntE k = ce at *
  go_wp2_with fail
  refine HC1.out.mono ?_
  rintro e w5 ⟨rfl, rfl⟩
  go_wp2_with fail
  refine HC2.out.mono ?_
  rintro e w5 ⟨rfl, rfl⟩
  go_wp2_with fail
  refine (SameParts_eq sl A3 A4 m3 c3 c4 w4 _ _ HO34.out HO4.out (Nat.le_refl _) (Nat.le_refl _) (by omega) (fun p hp => Nat.le_trans (HSS.out p hp) (by omega))).mono ?_
  rintro e w6 ⟨rfl, hb⟩
  have HB6 := Lib.hid (HB4.out.trans (hb.mono hz4))
  clear hb
  go_wp2_with fail
  go_ret
  exact ⟨rfl, HB6.out⟩
end Go.Proofs.Ytgdelilanackhaa
