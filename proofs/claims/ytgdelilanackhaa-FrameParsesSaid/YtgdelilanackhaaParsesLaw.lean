/-
  The walk of shallotlaw11.FrameParses: it returns true; nothing that was there has turned. Conditions: the sizes that slices can have.
-/
import Derived.Test.YtgdelilanackhaaFrmAwake
import Derived.Test.YtgdelilanackhaaRefParse
import Derived.Test.YtgdelilanackhaaSame
namespace Go.Proofs.Ytgdelilanackhaa
open Go Go.RowKit Go.Sh

theorem parP_small (l : List UInt8) : (parP l).d.length ≤ 450 := by
  unfold parP
  split
  · rename_i h
    unfold parE at h
    split at h
    · omega
    · split at h
      · omega
      · split at h
        · omega
        · split at h
          · omega
          · rename_i h4
            have : (parQ l).d.length ≤ parS l := by
              show ((l.drop 30).take (parS l)).length ≤ _
              rw [List.length_take]
              omega
            omega
  · exact Nat.zero_le _
theorem parP_ok (l : List UInt8) : (parP l).OK := by
  unfold parP
  split
  · have b16 := bt_lo l 16
    have b16' := bt_hi l 16
    have b17 := bt_lo l 17
    have b17' := bt_hi l 17
    have b18 := bt_lo l 18
    have b18' := bt_hi l 18
    exact ⟨⟨b16, by show bt l 16 < 256; omega⟩, ⟨by show (0 : Int) ≤ (parI l : Int); omega, by have := parI_lt l; show (parI l : Int) < 18446744073709551616; omega⟩, ⟨by show -9223372036854775808 ≤ bt l 17; omega, by show bt l 17 ≤ 9223372036854775807; omega⟩, ⟨by show -9223372036854775808 ≤ bt l 18; omega, by show bt l 18 ≤ 9223372036854775807; omega⟩⟩
  · exact ⟨by decide, by decide, by decide, by decide⟩
theorem parE_cases (l : List UInt8) : parE l = 0 ∨ parE l = 1 ∨ parE l = 2 ∨ parE l = 3 ∨ parE l = 7 := by
  unfold parE
  split
  · simp
  · split
    · simp
    · split
      · simp
      · split
        · simp
        · split <;> simp
theorem parse_back {l : List UInt8} (h : parE l = 0) : (parP l).chk = 0 ∧ frmE (parP l) = l := by
  have hp : parP l = parQ l := by rw [parP, if_pos h]
  rw [hp]
  unfold parE at h
  split at h
  · omega
  · rename_i h1
    split at h
    · omega
    · rename_i h2
      split at h
      · omega
      · split at h
        · omega
        · rename_i h4
          split at h
          · omega
          · rename_i h5
            have hc : (parQ l).chk = 0 := by omega
            have hz : allZ (l.take 16) = true := by simpa using h2
            have ht : allZ (l.drop (30 + parS l)) = true := by
              cases hq : allZ (l.drop (30 + parS l)) with
              | true => rfl
              | false => exact absurd (Or.inr hq) h5
            refine ⟨hc, ?_⟩
            rw [frmE, if_pos hc]
            exact (frm_back (by omega) hz (by omega)).2 ⟨by omega, ht⟩

set_option maxHeartbeats 2000000 in
set_option maxRecDepth 100000 in
theorem FrameParses_walk (A : Option Addr) (n c : Nat) (l : List UInt8) (w : World) (hr : RB w w.heap.size A n l) (hn : n ≤ 140737488355328) (hc : n ≤ c) :
    Calls Try.prog 7 #[.slice A n c] w (LawPost w) := by
  have HR := Lib.hid hr
  have HLN := Lib.hid hr.len
  have HS := Lib.hid (parP_small l)
  have HOK := Lib.hid (parP_ok l)
  have HCC := Lib.hid (parE_cases l)
  have HBK := Lib.hid (fun h => parse_back (l := l) h)
  have HP1 := Lib.hid (fun A c w B (h : RB w B A n l) hB hc => Parse_any A n c l w B h hB hn hc)
  have HP2 := Lib.hid (fun A c w B (h : RB w B A n l) hB hc => RefParse_any A n c l w B h hB hn hc)
  clear hr
  generalize parP l = p at *
  generalize parE l = er at *
  go_enter Try.func7, Try.ntmps7
  go_wp2_with fail
  refine (awake_any w).mono ?_
  rintro e w1 ⟨rfl, hb⟩
  have HB1 := Lib.hid hb
  have hz1 := hb.size
  clear hb
  go_wp2_with fail
  refine (Copy_any A n c l w1 w.heap.size (HR.out.below HB1.out) hz1 hn).mono ?_
  rintro e w2 ⟨g2, c2, rfl, ho, hb⟩
  have HO2 := Lib.hid ho
  have HB2 := Lib.hid (HB1.out.trans (hb.mono hz1))
  have hz2 := HB2.out.size
  clear ho hb HB1
  go_wp2_with fail
  refine (HP1.out _ c2 w2 w2.heap.size (RB.of_own HO2.out) (Nat.le_refl _) (own_cap HO2.out)).mono ?_
  rintro e w3 ⟨A3, n3, c3, he, ho, hb⟩
  have he' : e = .returned (.tuple #[.agg #[.int .u8 p.k, .int .u64 p.id, .int .i64 p.ix, .int .i64 p.ct, .slice A3 n3 c3], .int .i64 er]) := he
  subst he'
  have hn3 : n3 ≤ 450 := by have := ho.1; have h2 := HS.out; rw [length_bv] at this; omega
  have hba := (Below.refl w3.heap.size w3).alloc (Nat.le_refl _) (.cells (pcell p (.slice A3 n3 c3)).toArray 47)
  have HO4 := Lib.hid (own_later ho hba)
  have HP4 := Lib.hid (PBlk.new w3 p (.slice A3 n3 c3))
  have HB3 := HB2.out.trans (hb.mono hz2)
  have HB4 := Lib.hid (HB3.trans (hba.mono HB3.size))
  have hz4 := HB4.out.size
  have hs4 : w3.heap.size < (w3.alloc (.cells (pcell p (.slice A3 n3 c3)).toArray 47)).heap.size := by simp
  clear he ho hb hba HB3 HO2 HB2
  go_wp2_with fail
  obtain ⟨w4, hw4⟩ : ∃ w4, w3.alloc (.cells #[.int .u8 p.k, .int .u64 p.id, .int .i64 p.ix, .int .i64 p.ct, .slice A3 n3 c3] 47) = w4 := ⟨_, rfl⟩
  have HO4' := Lib.hid (show w4.ownsRow w2.heap.size 5 1 (.slice A3 n3 c3) n3 (bv p.d) from by rw [← hw4]; exact HO4.out)
  have HP4' := Lib.hid (show PBlk w4 w3.heap.size p (.slice A3 n3 c3) from by rw [← hw4]; exact HP4.out)
  have HB4' := Lib.hid (show Below w.heap.size w w4 from by rw [← hw4]; exact HB4.out)
  have hz4' : w.heap.size ≤ w4.heap.size := HB4'.out.size
  rw [hw4]
  generalize hgp : w3.heap.size = gp at *
  clear hw4 HO4 HP4 HB4 hz4 hs4 hgp
  refine (HP2.out A c w4 w.heap.size (HR.out.below HB4'.out) hz4' hc).mono ?_
  rintro e w5 ⟨A5, n5, c5, he, ho, hb⟩
  have he' : e = .returned (.tuple #[.agg #[.int .u8 p.k, .int .u64 p.id, .int .i64 p.ix, .int .i64 p.ct, .slice A5 n5 c5], .int .i64 er]) := he
  subst he'
  have hbb := (Below.refl w5.heap.size w5).alloc (Nat.le_refl _) (.cells #[.int .u8 p.k, .int .u64 p.id, .int .i64 p.ix, .int .i64 p.ct, .slice A5 n5 c5] 47)
  have hb6 := hb.trans (hbb.mono hb.size)
  have HO6 := Lib.hid (RB.of_own (own_later ho hbb))
  have HO36 := Lib.hid (own_later HO4'.out hb6)
  have HP6 := Lib.hid (HP4'.out.below hb6 HP4'.out.lt)
  have HB6 := Lib.hid (HB4'.out.trans (hb6.mono hz4'))
  have hz6 := HB6.out.size
  clear he ho hb hbb hb6 HO4' HP4' HB4'
  have e0 : (er != er) = false := by simp
  go_wp2_with (refine wl_load_mid rfl 47 (.tmp 3) rfl gp 0 rfl (pcell p (.slice A3 n3 c3)) _ (blk_range HP6.out) Try.underlying47 rfl infoP ?_)
  refine (SamePart_eq p A3 A5 n3 n5 c3 c5 _ _ _ (RB.of_own HO36.out) HO6.out (Nat.le_refl _) (Nat.le_refl _) (by omega)).mono ?_
  rintro e w7 ⟨rfl, hb7⟩
  have HO7 := Lib.hid (own_later HO36.out hb7)
  have HP7 := Lib.hid (HP6.out.below hb7 HP6.out.lt)
  have HB7 := Lib.hid (HB6.out.trans (hb7.mono hz6))
  have hz7 := HB7.out.size
  clear hb7 HO36 HP6 HB6 HO6 e0
  rcases HCC.out with rfl | rfl | rfl | rfl | rfl
  · obtain ⟨hck, hfe⟩ := HBK.out rfl
    have HF := Lib.hid (show Calls Try.prog 23 #[.agg #[.int .u8 p.k, .int .u64 p.id, .int .i64 p.ix, .int .i64 p.ct, .slice A3 n3 c3]] w7 (RetBE w7 l 0) from by
      have h := Frame_any p A3 n3 c3 w7 w7.heap.size HOK.out (RB.of_own HO7.out) (Nat.le_refl _) (by omega)
      rw [hck, hfe] at h
      exact h)
    clear hck hfe
    go_wp2_with (refine wl_load_mid rfl 47 (.tmp 3) rfl gp 0 rfl (pcell p (.slice A3 n3 c3)) _ (blk_range HP7.out) Try.underlying47 rfl infoP ?_)
    refine HF.out.mono ?_
    rintro e w8 ⟨A8, n8, c8, rfl, hl8, ho8, hb8⟩
    have HO8 := Lib.hid (RB.of_own ho8)
    have HB8 := Lib.hid (HB7.out.trans (hb8.mono hz7))
    have hn8 : n8 ≤ 140737488355328 := by rw [← hl8, HLN.out]; exact hn
    clear hl8 ho8 hb8
    go_wp2_with fail
    refine (Equal_any A8 A n8 n c8 c l l w8 _ _ HO8.out (HR.out.below HB8.out) hn8).mono ?_
    rintro e w9 h9
    obtain ⟨rfl, hb9⟩ := h9.below
    have HB9 := Lib.hid (HB8.out.trans (hb9.mono HB8.out.size))
    clear h9 hb9
    rw [show decide (l = l) = true by simp]
    go_wp2_with fail
    go_ret
    exact ⟨rfl, HB9.out⟩
  all_goals
    go_wp2_with fail
    go_ret
    exact ⟨rfl, HB7.out⟩
end Go.Proofs.Ytgdelilanackhaa
