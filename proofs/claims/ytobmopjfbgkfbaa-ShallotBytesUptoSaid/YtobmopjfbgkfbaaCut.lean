/-
  Contracts of codec.clone, codec.Cut and shallotref01.Cut: both cuts give the same pieces in new memory, or the same error's number.
-/
import Derived.Test.YtobmopjfbgkfbaaLists
namespace Go.Proofs.Ytobmopjfbgkfbaa
open Go Go.RowKit Go.Sh

set_option maxRecDepth 100000 in
theorem clone_any (A : Option Addr) (n c : Nat) (l : List UInt8) (w : World) (B : Nat) (hr : RB w B A n l) (hB : B ≤ w.heap.size) (hn : n ≤ 140737488355328) :
    Calls Try.prog 57 #[.slice A n c] w (RetB w n l) := by
  have HL := Lib.hid hr.len
  have HR := Lib.hid hr
  clear hr
  go_enter Try.func57, Try.ntmps57
  go_wp2_with (at_make; refine wl_makeB TB rfl (.tmp 5) (.tmp 5) rfl .i64 .i64 _ _ rfl rfl n ?m1 ?m2 ?m3 w.heap.size (Nat.le_refl _) ?m5)
  case m1 => rfl
  case m2 => rfl
  case m3 => omega
  case m5 =>
    intro w1 hown hg _
    have HO := Lib.hid hown
    have HB := Lib.hid (show Below w.heap.size w w1 from (Below.refl _ _).grown hg (Nat.le_refl _) (by simp))
    clear hown hg
    go_wp2_with (with_reducible refine wl_copy TB rfl (.tmp 7) (.tmp 8) rfl _ n n rfl A n c rfl w.heap.size _ HO.out B (bv l) ?c1 (bv_one l) ?c2)
    case c1 => exact HR.out.below (HB.out.mono hB)
    case c2 =>
      intro w2 hown2 hg2
      rw [List.take_of_length_le (by rw [length_bv, HL.out]; exact Nat.le_refl _), List.drop_eq_nil_of_le (by rw [length_bv, length_zs]; exact Nat.le_refl _), List.append_nil] at hown2
      have HO2 := Lib.hid hown2
      have HB2 := Lib.hid (HB.out.grown hg2 HB.out.size (by simp [Value.ownBlock]))
      clear hown2 hg2
      go_wp2
      go_ret
      exact ⟨_, n, rfl, HO2.out, HB2.out⟩

/-- the first k sizes together -/
def pre (zs : List Int) (k : Nat) : Nat := ((zs.take k).map Int.toNat).sum
theorem pre_succ {zs : List Int} {k : Nat} (h : k < zs.length) : pre zs (k + 1) = pre zs k + (it zs k).toNat := by
  unfold pre
  rw [List.take_succ_eq_append_getElem h, List.map_append, List.sum_append]
  simp [it, h]
theorem pre_le {zs : List Int} {k j : Nat} (h : k ≤ j) : pre zs k ≤ pre zs j := by
  unfold pre
  have e : zs.take j = zs.take k ++ (zs.take j).drop k := by
    have := List.take_append_drop k (zs.take j)
    rw [List.take_take, Nat.min_eq_left h] at this
    exact this.symm
  rw [e, List.map_append, List.sum_append]
  omega
/-- piece k -/
def pce (l : List UInt8) (zs : List Int) (k : Nat) : List UInt8 := (l.drop (pre zs k)).take (it zs k).toNat
def cutP (l : List UInt8) (zs : List Int) (m : Nat) : List (List UInt8) := (List.range m).map (pce l zs)
theorem cutP_succ (l : List UInt8) (zs : List Int) (m : Nat) : cutP l zs (m + 1) = cutP l zs m ++ [pce l zs m] := by simp [cutP, List.range_succ]
def negB (zs : List Int) : Bool := zs.any fun z => decide (z < 0)
def cutE (n : Nat) (zs : List Int) : Int := if negB zs = true then 1 else if pre zs zs.length = n then 0 else 2
def cutL (l : List UInt8) (n : Nat) (zs : List Int) : List (List UInt8) := if cutE n zs = 0 then cutP l zs zs.length else []
set_option maxRecDepth 100000 in
theorem neg_of {zs : List Int} {k : Nat} (hk : k < zs.length) (h : it zs k < 0) : negB zs = true := by
  rw [negB, List.any_eq_true]
  exact ⟨_, it_mem hk, by simpa using h⟩
set_option maxRecDepth 100000 in
theorem neg_none {zs : List Int} (h : ∀ k, k < zs.length → 0 ≤ it zs k) : negB zs = false := by
  rw [negB, List.any_eq_false]
  intro z hz
  obtain ⟨i, hi, rfl⟩ := List.getElem_of_mem hz
  have := h i hi
  simp [it, hi] at this
  simpa using this

/-- lists of bytes in new memory and an error's number are handed back; nothing that was there has turned -/
def RetBBE (w : World) (ls : List (List UInt8)) (er : Int) (e : Ending) (w' : World) : Prop :=
  ∃ A m c, e = .returned (.tuple #[.slice A m c, .int .i64 er]) ∧ OBB w' w.heap.size 5 26 (.slice A m c) m ls ∧ Below w.heap.size w w'

set_option maxRecDepth 100000 in
theorem Cut_any (A A' : Option Addr) (n m c c' : Nat) (l : List UInt8) (zs : List Int) (w : World) (B B' : Nat) (hr : RB w B A n l) (hz : RI w B' A' m zs) (hB : B ≤ w.heap.size) (hB' : B' ≤ w.heap.size) (hc : n ≤ c) (hn : n ≤ 140737488355328) (hm : m * 24 ≤ 140737488355328) :
    Calls Try.prog 71 #[.slice A n c, .slice A' m c'] w (RetBBE w (cutL l n zs) (cutE n zs)) := by
  have HL := Lib.hid hr.len
  have HR := Lib.hid hr
  have HZ := Lib.hid hz
  have HZL := Lib.hid hz.len
  clear hr hz
  go_enter Try.func71, Try.ntmps71
  go_wp2
  go_loop [7, 17] (fun _ i => ∃ k : Nat, k ≤ m ∧ i = .int .i64 k ∧ ∀ j, j < k → 0 ≤ it zs j) (fun _ i => m - (intOf i).toNat)
  case atStart => exact ⟨0, by omega, rfl, fun j hj => absurd hj (by omega)⟩
  case round =>
    obtain ⟨k, hk, rfl, hpos⟩ := hrel
    have HP := Lib.hid hpos
    clear hpos
    by_cases hlt : k < m
    · obtain ⟨ad, rfl, hab, hcell, b1, b2⟩ := HZ.out.at_ hlt
      by_cases hneg : it zs k < 0
      · have h1 := neg_of (by rw [HZL.out]; exact hlt) hneg
        have E2 := Lib.hid (show cutE n zs = 1 by simp [cutE, h1])
        have E1 := Lib.hid (show cutL l n zs = [] by simp [cutL, E2.out])
        clear h1
        go_wp2
        go_ret2
        rw [E1.out, E2.out]
        exact ⟨none, 0, 0, rfl, OBB.nil _ _ _ _, Below.refl _ _⟩
      · have hge : 0 ≤ it zs k := by omega
        clear hneg
        go_wp2
        refine ⟨⟨k + 1, by omega, by go_num, fun j hj => ?_⟩, by simp [intOf]; omega⟩
        by_cases hjk : j < k
        · exact HP.out j hjk
        · obtain rfl : j = k := by omega
          exact hge
    · obtain rfl : k = m := by omega
      have HNEG := Lib.hid (neg_none (zs := zs) (fun j hj => HP.out j (by rw [← HZL.out]; exact hj)))
      clear hlt
      go_wp2
      go_loop [8, 10, 28] (fun x _ i => ∃ q : Nat, q ≤ k ∧ i = .int .i64 q ∧ pre zs q ≤ n ∧ x = .int .i64 ((n - pre zs q : Nat) : Int)) (fun _ _ i => k - (intOf i).toNat)
      case atStart => exact ⟨0, by omega, rfl, by simp [pre], by simp [pre]⟩
      case round =>
        obtain ⟨q, hq, rfl, hpre, rfl⟩ := hrel
        by_cases hlt : q < k
        · obtain ⟨ad, rfl, hab, hcell, b1, b2⟩ := HZ.out.at_ hlt
          have hge := HP.out q hlt
          have HS := Lib.hid (pre_succ (zs := zs) (k := q) (by rw [HZL.out]; exact hlt))
          by_cases hbig : ((n - pre zs q : Nat) : Int) < it zs q
          · have hmono : pre zs (q + 1) ≤ pre zs zs.length := pre_le (by rw [HZL.out]; omega)
            have hsum := HS.out
            have E2 := Lib.hid (show cutE n zs = 2 by
              unfold cutE
              rw [if_neg (by rw [HNEG.out]; decide), if_neg (by omega)])
            have E1 := Lib.hid (show cutL l n zs = [] by simp [cutL, E2.out])
            clear hmono hsum
            generalize pre zs q = pq at *
            go_wp2
            go_ret2
            rw [E1.out, E2.out]
            exact ⟨none, 0, 0, rfl, OBB.nil _ _ _ _, Below.refl _ _⟩
          · have HS' : pre zs (q + 1) ≤ n := by rw [HS.out]; omega
            have HV := Lib.hid (show (((n - pre zs q : Nat) : Int) - it zs q) = ((n - pre zs (q + 1) : Nat) : Int) by rw [HS.out]; omega)
            clear HS
            generalize pre zs q = pq at *
            have HSn := Lib.hid HS'
            clear HS'
            go_wp2
            refine ⟨⟨q + 1, by omega, by go_num, HSn.out, ?_⟩, by simp [intOf]; omega⟩
            rw [← HV.out]
        · obtain rfl : q = k := by omega
          by_cases hleft : pre zs q = n
          · have hz0 : (((n - pre zs q : Nat) : Int) != 0) = false := by rw [hleft]; simp
            have E2 := Lib.hid (show cutE n zs = 0 by
              unfold cutE
              rw [if_neg (by rw [HNEG.out]; decide), HZL.out, if_pos hleft])
            have E1 := Lib.hid (show cutL l n zs = cutP l zs q by
              unfold cutL
              rw [if_pos E2.out, HZL.out])
            have HSUM := Lib.hid hleft
            clear hleft hpre
            generalize ((n - pre zs q : Nat) : Int) = z at *
            go_wp2_with (at_make; refine wl_make0 TBB rfl (.const (.int .i64 0)) (.tmp 42) rfl .i64 .i64 _ rfl rfl q ?m1 ?m2 ?m3 w.heap.size (Nat.le_refl _) ?m4)
            case m1 => rfl
            case m2 => omega
            case m3 => omega
            case m4 =>
              intro w1 hown hg _
              have HO1 := Lib.hid (OBB.made (e := 5) hown)
              have HB1 := Lib.hid (show Below w.heap.size w w1 from (Below.refl _ _).grown hg (Nat.le_refl _) (by simp))
              clear hown hg
              go_wp2
              go_loopw [11, 12, 14, 46] (fun v a _ i wr => ∃ (j g c2 : Nat), j ≤ q ∧ i = .int .i64 j ∧ a = .int .i64 (pre zs j : Nat) ∧ v = .slice (some ⟨g, 0, none⟩) j c2 ∧ OBB wr w.heap.size 5 26 (.slice (some ⟨g, 0, none⟩) j c2) j (cutP l zs j) ∧ Below w.heap.size w wr) (fun _ _ _ i _ => q - (intOf i).toNat)
              case atStart => exact ⟨0, _, _, by omega, rfl, rfl, rfl, HO1.out, HB1.out⟩
              case round =>
                obtain ⟨j, g, c2, hj, rfl, rfl, rfl, hown, hb⟩ := hrel
                have HO := Lib.hid hown
                have HB := Lib.hid hb
                clear hown hb
                by_cases hlt : j < q
                · obtain ⟨ad, rfl, hab, hcell, b1, b2⟩ := HZ.out.at_ hlt
                  have hge := HP.out j hlt
                  rw [← HB.out.cell (by rw [block_of_add]; omega)] at hcell
                  have hp1 : pre zs (j + 1) ≤ n := by rw [← HSUM.out]; exact pre_le (by omega)
                  have HS := Lib.hid (pre_succ (zs := zs) (k := j) (by rw [HZL.out]; exact hlt))
                  have hs1 := HS.out
                  obtain ⟨sz, hsz⟩ := Int.eq_ofNat_of_zero_le hge
                  have HSZ := Lib.hid hsz
                  rw [hsz] at hcell hs1
                  have hpn : pre zs j + sz ≤ n := by rw [Int.toNat_natCast] at hs1; omega
                  have HPC := Lib.hid (show pce l zs j = (l.drop (pre zs j)).take sz by unfold pce; rw [hsz]; rfl)
                  have HPS := Lib.hid (show pre zs (j + 1) = pre zs j + sz by rw [HS.out, hsz]; rfl)
                  clear hp1 hs1 hsz HS b1 b2 hge
                  generalize pre zs j = pj at *
                  go_wp2_with (with_reducible refine wl_sliceB TB rfl (.tmp 51) (.tmp 52) (.tmp 55) rfl A n c rfl .i64 .i64 _ _ rfl rfl pj sz ?s1 ?s2 B l ?s3 ?s4 hc ?s5)
                  case s1 => rfl
                  case s2 => omega
                  case s3 => exact HR.out.below (HB.out.mono hB)
                  case s4 => exact hpn
                  case s5 =>
                    intro A3 hrb3
                    have HRB3 := Lib.hid hrb3
                    clear hrb3
                    go_wp2_with fail
                    refine (clone_any _ _ _ _ _ B HRB3.out (Nat.le_trans hB HB.out.size) (by omega)).mono ?_
                    rintro e w2 ⟨g2, cc2, rfl, hown2, hb2⟩
                    have hB2 : Below w.heap.size w w2 := below_up HB.out hb2 (Nat.le_refl _)
                    have HX := Lib.hid (((own_base hown2 HB.out.size).alloc (.cells #[.slice (some ⟨g2, 0, none⟩) sz cc2] 26)))
                    have HO2 := Lib.hid ((HO.out.later hb2).later (OBB_alloc_help (.cells #[.slice (some ⟨g2, 0, none⟩) sz cc2] 26) (Nat.le_refl _)))
                    have HB3 := Lib.hid (show Below w.heap.size w (w2.alloc (.cells #[.slice (some ⟨g2, 0, none⟩) sz cc2] 26)) from hB2.alloc hB2.size _)
                    obtain ⟨vs, hvs⟩ := HO2.out.outer
                    have HV := Lib.hid hvs
                    clear hown2 hb2 hcell hB2 hvs
                    go_wp2_with (at_builtin; refine wl_app TBB rfl (.tmp 50) (.tmp 58) rfl (.slice (some ⟨g, 0, none⟩) j c2) rfl (some ⟨w2.heap.size, 0, none⟩) 1 1 rfl w.heap.size j vs HV.out (w2.heap.size + 1) [.slice (some ⟨g2, 0, none⟩) sz cc2] ?c1 ?c2 ?c3 ?c4 HB3.out.size ?c5)
                    case c1 => exact Reads.lit w2 _ [.slice (some ⟨g2, 0, none⟩) sz cc2] 1 1 rfl _ rfl
                    case c2 => simp [Value.oneCell']
                    case c3 => omega
                    case c4 => omega
                    case c5 =>
                      intro A4 c4 w4 hown4 hg4 hat
                      have hA : ∃ g, A4 = some ⟨g, 0, none⟩ := by
                        rcases hat with h | h <;> exact ⟨_, own_some hown4 (h.trans rfl)⟩
                      obtain ⟨g4, rfl⟩ := hA
                      have HO4 := Lib.hid (HO2.out.snoc HV.out HX.out (by decide) hg4 hown4)
                      have HB4 := Lib.hid (HB3.out.grown hg4 HB3.out.size (own_drop HV.out))
                      clear hown4 hg4 hat
                      go_wp2
                      refine ⟨⟨j + 1, g4, c4, by omega, by go_num, by rw [HPS.out]; go_num, rfl, ?_, HB4.out⟩, by simp [intOf]; omega⟩
                      rw [cutP_succ, HPC.out]
                      exact HO4.out
                · obtain rfl : j = q := by omega
                  go_wp2
                  go_ret2
                  rw [E1.out, E2.out]
                  exact ⟨_, _, _, rfl, HO.out, HB.out⟩
          · have hz0 : (((n - pre zs q : Nat) : Int) != 0) = true := by rw [bne_iff_ne]; omega
            have E2 := Lib.hid (show cutE n zs = 2 by
              unfold cutE
              rw [if_neg (by rw [HNEG.out]; decide), HZL.out, if_neg hleft])
            have E1 := Lib.hid (show cutL l n zs = [] by simp [cutL, E2.out])
            clear hleft hpre
            generalize ((n - pre zs q : Nat) : Int) = z at *
            go_wp2
            go_ret2
            rw [E1.out, E2.out]
            exact ⟨none, 0, 0, rfl, OBB.nil _ _ _ _, Below.refl _ _⟩

end Go.Proofs.Ytobmopjfbgkfbaa
