/-
  The walk of shallotlaw11.FrameMerges: it returns true; nothing that was there has turned. Conditions: the sizes that slices can have; the fields fit their types.
-/
import Derived.Test.YtgdelilanackhaaFrmAwake
import Derived.Test.YtgdelilanackhaaTwins
import Derived.Test.YtgdelilanackhaaRefMerge
import Derived.Test.YtgdelilanackhaaPartsOpen
namespace Go.Proofs.Ytgdelilanackhaa
open Go Go.RowKit Go.Sh

theorem mrgL_len (ps : List Pt) : (mrgL ps).length ≤ 7200 := by
  unfold mrgL
  split
  · rename_i h
    obtain ⟨_, _, h3⟩ := mrgE_zero h
    have h := sum_le_len ((List.range 16).map fun (j : Nat) => grp ps (j : Int)) 450 (by
      intro x hx
      obtain ⟨j, _, rfl⟩ := List.mem_map.1 hx
      refine grp_le (fun p hp => ?_) (fun i hi => (goodAt_iff.1 (allGood_iff.1 h3 i hi)).2.2.2.2)
      obtain ⟨i, hi, rfl⟩ := List.getElem_of_mem hp
      have := (chk_ok' (goodAt_iff.1 (allGood_iff.1 h3 i hi)).1).2.1
      rw [← Option.some.inj ((List.getElem?_eq_getElem hi).symm.trans (pat_eq hi))] at this
      exact this)
    simpa [mrgW] using h
  · simp

set_option maxHeartbeats 1000000 in
theorem FrameMerges_walk (A : Option Addr) (m c : Nat) (ps : List Pt) (w : World) (hr : RP w w.heap.size A m ps) (hm : m * 56 ≤ 140737488351232) (hd : ∀ p ∈ ps, p.d.length ≤ 140737488351232) (hok : ∀ p ∈ ps, p.OK) :
    Calls Try.prog 4 #[.slice A m c] w (LawPost w) := by
  have HR := Lib.hid hr
  have HM1 := Lib.hid (fun A c w B (h : RP w B A m ps) hB => Merge_any A m c ps w B h hB (by omega) hok (fun p hp => Nat.le_trans (hd p hp) (by omega)))
  have HM2 := Lib.hid (fun A c w B (h : RP w B A m ps) hB => RefMerge_any A m c ps w B h hB (by omega) hok (fun p hp => Nat.le_trans (hd p hp) (by omega)))
  have HTW := Lib.hid (fun w (h : RP w w.heap.size A m ps) => Twins_any A m c ps w w.heap.size h (Nat.le_refl _) (by omega) (fun p hp => Nat.le_trans (hd p hp) (by omega)))
  have HLN := Lib.hid (mrgL_len ps)
  clear hr hd hok
  generalize mrgL ps = ml at *
  generalize mrgE ps = me at *
  go_enter Try.func4, Try.ntmps4
  go_wp2_with fail
  refine (awake_any w).mono ?_
  rintro e w1 ⟨rfl, hb⟩
  have HB1 := Lib.hid hb
  have hz1 := hb.size
  clear hb
  go_wp2_with fail
  refine (HTW.out w1 ((HR.out.below HB1.out).more hz1)).mono ?_
  rintro e w2 ⟨A2, c2, ss2, rfl, ho, hb⟩
  have HO2 := Lib.hid ho
  have HB2 := Lib.hid (HB1.out.trans (hb.mono hz1))
  have hz2 := HB2.out.size
  clear ho hb HB1
  go_wp2_with fail
  refine (HM1.out A2 c2 w2 w2.heap.size (RP.of_own HO2.out) (Nat.le_refl _)).mono ?_
  rintro e w3 ⟨A3, n3, c3, rfl, hl3, ho, hb⟩
  have HO3 := Lib.hid ho
  have HL3 := Lib.hid hl3
  have hn3 : n3 ≤ 7200 := by rw [← hl3]; exact HLN.out
  have HB3 := Lib.hid (HB2.out.trans (hb.mono hz2))
  have hz3 := HB3.out.size
  clear ho hb hl3 HB2 HO2
  go_wp2_with fail
  refine (HM2.out A c w3 w.heap.size (HR.out.below HB3.out) hz3).mono ?_
  rintro e w4 ⟨A4, n4, c4, rfl, hl4, ho, hb⟩
  obtain rfl : n3 = n4 := by rw [← HL3.out, hl4]
  have HO4 := Lib.hid (RB.of_own ho)
  have HO34 := Lib.hid (RB.of_own (own_later HO3.out hb))
  have HB4 := Lib.hid (HB3.out.trans (hb.mono hz3))
  have hz4 := HB4.out.size
  clear ho hb hl4 HB3 HO3
  go_wp2_with fail
  refine (Equal_any A3 A4 n3 n3 c3 c4 ml ml w4 _ _ HO34.out HO4.out (by omega)).mono ?_
  rintro e w5 h5
  obtain ⟨rfl, hb⟩ := h5.below
  have HB5 := Lib.hid (HB4.out.trans (hb.mono hz4))
  rw [show decide (ml = ml) = true by simp]
  clear h5 hb
  go_wp2_with fail
  go_ret
  exact ⟨rfl, HB5.out⟩
end Go.Proofs.Ytgdelilanackhaa
