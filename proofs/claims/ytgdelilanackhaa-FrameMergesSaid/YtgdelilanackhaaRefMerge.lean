/-
  Contracts of shallotref11.Whole and shallotref11.Merge. Conditions: the fields fit their types; the sizes that slices can have.
-/
import Derived.Test.YtgdelilanackhaaRefTake
namespace Go.Proofs.Ytgdelilanackhaa
open Go Go.RowKit Go.Sh

theorem grp_len {qs : List Pt} {j : Int} (hd : ∀ p ∈ qs, p.d.length ≤ 450) : (grp qs j).length ≤ qs.length * 450 := by
  have h := sum_le_len ((qs.filter fun p => p.ix == j).map (·.d)) 450 (by
    intro x hx
    obtain ⟨p, hp, rfl⟩ := List.mem_map.1 hx
    exact hd p (List.mem_filter.1 hp).1)
  rw [List.length_map] at h
  have := List.length_filter_le (fun p : Pt => p.ix == j) qs
  exact Nat.le_trans h (Nat.mul_le_mul_right _ this)
/-- the bytes of the parts with indexes below i -/
def whl (qs : List Pt) (i : Nat) : List UInt8 := ((List.range i).map fun (j : Nat) => grp qs (j : Int)).flatten
theorem whl_succ (qs : List Pt) (i : Nat) : whl qs (i + 1) = whl qs i ++ grp qs (i : Int) := by
  simp [whl, List.range_succ]
theorem whl_len {qs : List Pt} (hd : ∀ p ∈ qs, p.d.length ≤ 450) (hn : qs.length ≤ 16) (i : Nat) (hi : i ≤ 16) : (whl qs i).length ≤ 115200 := by
  have h := sum_le_len ((List.range i).map fun (j : Nat) => grp qs (j : Int)) 7200 (by
    intro x hx
    obtain ⟨j, _, rfl⟩ := List.mem_map.1 hx
    have := grp_len (j := (j : Int)) hd
    omega)
  simp only [List.length_map, List.length_range] at h
  unfold whl
  omega

set_option maxHeartbeats 2000000 in
set_option maxRecDepth 100000 in
theorem Whole_any (A : Option Addr) (n c : Nat) (qs : List Pt) (w : World) (B : Nat) (hr : RP w B A n qs) (hB : B ≤ w.heap.size) (hn : n ≤ 16) (hd : ∀ p ∈ qs, p.d.length ≤ 450) :
    Calls Try.prog 34 #[.slice A n c] w (fun e w' => ∃ A' k' c', e = .returned (.slice A' k' c') ∧ (whl qs n).length = k' ∧ w'.ownsRow w.heap.size 5 1 (.slice A' k' c') k' (bv (whl qs n)) ∧ Below w.heap.size w w') := by
  have HL := Lib.hid hr.len
  have HR := Lib.hid hr
  have HD := Lib.hid hd
  have HB0 := Lib.hid (show Below w.heap.size w w from Below.refl _ _)
  have HW := Lib.hid (fun i (hi : i ≤ 16) => whl_len hd (by rw [hr.len]; exact hn) i hi)
  clear hr hd
  generalize hgw : w.heap.size = g at *
  have HG := Lib.hid hgw
  clear hgw
  go_enter Try.func34, Try.ntmps34
  go_wp2_with fail
  go_loopw [3, 4] (fun v i wr => ∃ (k q : Nat) (Ak : Option Addr) (ck : Nat), k ≤ n ∧ i = .int .i64 (k : Int) ∧ v = .slice Ak q ck ∧ (whl qs k).length = q ∧ wr.ownsRow g 5 1 (.slice Ak q ck) q (bv (whl qs k)) ∧ Below g w wr) (fun _ i _ => n - (intOf i).toNat)
  case atStart => exact ⟨0, 0, none, 0, by omega, rfl, rfl, rfl, World.ownsRow_nil _ _ _ _, HB0.out⟩
  case round =>
    obtain ⟨k, q, Ak, ck, hk, rfl, rfl, hq, ho, hb⟩ := hrel
    have HQ := Lib.hid hq
    have HO := Lib.hid ho
    have HB1 := Lib.hid hb
    clear hq ho hb HB0
    by_cases hlt : k < n
    · go_wp2_with fail
      go_loopw [3, 5] (fun v i wr => ∃ (j q : Nat) (Ak : Option Addr) (ck : Nat), j ≤ n ∧ i = .int .i64 (j : Int) ∧ v = .slice Ak q ck ∧ (whl qs k ++ grp (qs.take j) (k : Int)).length = q ∧ wr.ownsRow g 5 1 (.slice Ak q ck) q (bv (whl qs k ++ grp (qs.take j) (k : Int))) ∧ Below g w wr) (fun _ i _ => n - (intOf i).toNat)
      case atStart => exact ⟨0, q, Ak, ck, by omega, rfl, rfl, by rw [List.take_zero, grp_none rfl, List.append_nil]; exact HQ.out, by rw [List.take_zero, grp_none rfl, List.append_nil]; exact HO.out, HB1.out⟩
      case round =>
        obtain ⟨j, q2, Aj, cj, hj, rfl, rfl, hq2, ho2, hb2⟩ := hrel
        have HO2 := Lib.hid ho2
        have HB2 := Lib.hid hb2
        have hsz := hb2.size
        rw [HG.out] at hsz
        have hq3 : q2 ≤ 200000 := by
          rw [← hq2, List.length_append]
          have h1 := HW.out k (by omega)
          have h2 := grp_len (qs := qs.take j) (j := (k : Int)) (fun p hp => HD.out p (List.mem_of_mem_take hp))
          rw [List.length_take, HL.out] at h2
          have : min j n * 450 ≤ 16 * 450 := Nat.mul_le_mul_right _ (by omega)
          omega
        have HQ2 := Lib.hid hq2
        clear hq2 ho2 hb2 HQ HO HB1
        by_cases hjn : j < n
        · obtain ⟨ad, Ai, ni, ci, rfl, hab, hc, _, hrb⟩ := (HR.out.below (HB2.out.mono hB)).at_ hjn
          have a2 := hc 2 _ rfl
          have a4 := hc 4 _ rfl
          simp only [← add_of_add] at a2 a4
          have a2' : wr.cell? ⟨(ad.add (j * 5)).block, (ad.add (j * 5)).off + 2, none⟩ = some (.int .i64 (pat qs j).ix) := a2
          have a4' : wr.cell? ⟨(ad.add (j * 5)).block, (ad.add (j * 5)).off + 4, none⟩ = some (.slice Ai ni ci) := a4
          have HRB := Lib.hid hrb
          have hni : ni ≤ 450 := by rw [← hrb.len]; exact HD.out _ (pat_mem (by rw [HL.out]; exact hjn))
          have HSN := Lib.hid (show grp (qs.take (j + 1)) (k : Int) = grp (qs.take j) (k : Int) ++ (if (pat qs j).ix = (k : Int) then (pat qs j).d else []) by rw [take_psnoc qs j (by rw [HL.out]; exact hjn), grp_snoc])
          clear hc hrb a2 a4
          generalize pat qs j = pj at *
          by_cases hix : pj.ix = (k : Int)
          · have e1 : (pj.ix == (k : Int)) = true := by simp [hix]
            rw [if_pos hix] at HSN
            clear hix
            go_wp2_with (at_builtin; refine wl_app TB rfl (.tmp 25) (.tmp 30) rfl (.slice Aj q2 cj) rfl Ai ni ci rfl g q2 _ HO2.out B (bv pj.d) HRB.out (bv_one _) (by omega) (by omega) hsz ?q6)
            case q6 =>
              intro A6 c7 w6 hown hgr hat
              have HO6 := Lib.hid hown
              have HB6 := Lib.hid (HB2.out.grown hgr hsz (own_drop HO2.out))
              clear hown hgr hat
              go_wp2_with fail
              refine ⟨⟨j + 1, q2 + ni, A6, c7, by omega, by go_num, rfl, ?_, ?_, HB6.out⟩, by simp [intOf]; omega⟩
              · rw [HSN.out, ← List.append_assoc, List.length_append, HQ2.out, HRB.out.len]
              · rw [HSN.out, ← List.append_assoc, bv_append]
                exact HO6.out
          · have e1 : (pj.ix == (k : Int)) = false := by simp [hix]
            rw [if_neg hix, List.append_nil] at HSN
            clear hix
            go_wp2_with fail
            exact ⟨⟨j + 1, q2, Aj, cj, by omega, by go_num, rfl, by rw [HSN.out]; exact HQ2.out, by rw [HSN.out]; exact HO2.out, HB2.out⟩, by simp [intOf]; omega⟩
        · obtain rfl : j = n := by omega
          have HQ := Lib.hid (show qs.take j = qs from List.take_of_length_le (by rw [HL.out]; exact Nat.le_refl _))
          go_wp2_with fail
          refine ⟨⟨k + 1, q2, Aj, cj, by omega, by go_num, rfl, ?_, ?_, HB2.out⟩, by simp [intOf]; omega⟩
          · rw [whl_succ]
            have := HQ2.out
            rw [HQ.out] at this
            exact this
          · rw [whl_succ]
            have := HO2.out
            rw [HQ.out] at this
            exact this
    · obtain rfl : k = n := by omega
      go_wp2_with fail
      go_ret
      exact ⟨_, q, ck, rfl, HQ.out, HO.out, HB1.out⟩

set_option maxHeartbeats 2000000 in
set_option maxRecDepth 100000 in
theorem RefMerge_any (A : Option Addr) (m c : Nat) (ps : List Pt) (w : World) (B : Nat) (hr : RP w B A m ps) (hB : B ≤ w.heap.size) (hm : m * 56 ≤ 140737488355328) (hok : ∀ p ∈ ps, p.OK) (hd : ∀ p ∈ ps, p.d.length ≤ 140737488355328) :
    Calls Try.prog 18 #[.slice A m c] w (RetBE w (mrgL ps) (mrgE ps)) := by
  have HL := Lib.hid hr.len
  have HR := Lib.hid hr
  have HOK := Lib.hid hok
  have HD := Lib.hid hd
  clear hr hok hd
  have HME := Lib.hid (show mrgE ps = if ps.length = 0 ∨ (ps.length : Int) ≠ (pat ps 0).ct then 2 else if allGood ps = true then 0 else 3 from rfl)
  have HML := Lib.hid (show mrgL ps = if mrgE ps = 0 then mrgW ps else [] from rfl)
  generalize mrgL ps = ml at *
  generalize mrgE ps = me at *
  by_cases h0 : m = 0
  · subst h0
    have e1 : me = 2 := by rw [HME.out, HL.out, if_pos (.inl rfl)]
    subst e1
    have e2 : ml = [] := by rw [HML.out, if_neg (by decide)]
    subst e2
    go_enter Try.func18, Try.ntmps18
    go_wp2_with fail
    go_ret2
    exact RetBE.nil w 2
  obtain ⟨ad, A0, n0, c0, rfl, hab, hc, hle0, hr0⟩ := HR.out.at_ (k := 0) (by omega)
  have a1 := hc 1 _ rfl
  have a3 := hc 3 _ rfl
  clear hc hr0 hle0
  simp only [Nat.zero_mul, Nat.zero_add] at a1 a3
  have a1' : w.cell? ⟨ad.block, ad.off + 1, none⟩ = some (.int .u64 (pat ps 0).id) := a1
  have a3' : w.cell? ⟨ad.block, ad.off + 3, none⟩ = some (.int .i64 (pat ps 0).ct) := a3
  clear a1 a3
  have hm0 : 0 < m := by omega
  clear h0
  have HTK := Lib.hid (fun id0 h => Take_any (some ad) m c ps w B HR.out hB hm HOK.out HD.out id0 h)
  generalize hq0 : (pat ps 0).ct = ct0 at *
  have HQ0 := Lib.hid hq0
  clear hq0
  by_cases hct : (m : Int) = ct0
  · subst hct
    have d1 : ((m : Int) != (m : Int)) = false := by simp
    have d0 : ((m : Int) == 0) = false := by simp; omega
    go_enter Try.func18, Try.ntmps18
    go_wp2_with fail
    refine (HTK.out _ rfl).mono ?_
    rintro e w1 ⟨A1, n1, c1, qs, ss, fv, rfl, hkp, hb, h0, h1⟩
    cases hag : allGood ps with
    | true =>
      obtain ⟨rfl, rfl⟩ := h0 hag
      have hnm : n1 = m := by rw [← hkp.1, HL.out]
      subst hnm
      have hgd : ∀ i, i < n1 → goodAt qs i = true := fun i hi => allGood_iff.1 hag i (by rw [HL.out]; exact hi)
      have hix : ∀ i, i < qs.length → (pat qs i).ix < n1 := by
        intro i hi
        have h := goodAt_iff.1 (hgd i (by rw [← HL.out]; exact hi))
        have := (chk_ok' h.1).2.2.2.2
        rw [h.2.2.2.1, HQ0.out] at this
        exact this
      have hn16 : n1 ≤ 16 := by
        have h := goodAt_iff.1 (hgd 0 hm0)
        have := (chk_ok' h.1).2.2.1.2
        rw [HQ0.out] at this
        omega
      have hd450 : ∀ p ∈ qs, p.d.length ≤ 450 := by
        intro p hp
        obtain ⟨i, hi, rfl⟩ := List.getElem_of_mem hp
        have := (chk_ok' (goodAt_iff.1 (hgd i (by rw [← HL.out]; exact hi))).1).2.1
        rw [← Option.some.inj ((List.getElem?_eq_getElem hi).symm.trans (pat_eq hi))] at this
        exact this
      have E1 := Lib.hid (show me = 0 by rw [HME.out, HL.out, if_neg (by simp; omega), if_pos hag])
      have E2 := Lib.hid (show ml = whl qs n1 by rw [HML.out, if_pos E1.out, mrgW_short hix hn16]; rfl)
      have HB1 := Lib.hid hb
      have HWH := Lib.hid (Whole_any A1 n1 c1 qs w1 w1.heap.size (hkp.read (by have := hb.size; omega)) (Nat.le_refl _) hn16 hd450)
      have hz1 := hb.size
      clear hgd hix hd450 h0 h1 hkp hb hag HTK
      go_wp2_with fail
      refine HWH.out.mono ?_
      rintro e w2 ⟨A2, n2, c2, rfl, hl2, ho2, hb2⟩
      have HO2 := Lib.hid (own_base ho2 hz1)
      have HL2 := Lib.hid hl2
      have HB2 := Lib.hid (HB1.out.trans (hb2.mono hz1))
      clear ho2 hl2 hb2
      go_wp2_with fail
      go_ret2
      rw [E1.out, E2.out]
      exact ⟨A2, n2, c2, rfl, HL2.out, HO2.out, HB2.out⟩
    | false =>
      have hfv := h1 hag
      have d2 : (fv != 0) = true := by simp [hfv]
      have E1 := Lib.hid (show me = 3 by rw [HME.out, HL.out, if_neg (by simp; omega), if_neg (by rw [hag]; decide)])
      have E2 := Lib.hid (show ml = [] by rw [HML.out, if_neg (by rw [E1.out]; decide)])
      have HB1 := Lib.hid hb
      clear h0 h1 hkp hb hag HTK hfv
      go_wp2_with fail
      go_ret2
      rw [E1.out, E2.out]
      exact ⟨none, 0, 0, rfl, rfl, World.ownsRow_nil _ _ _ _, HB1.out⟩
  · have d1 : ((m : Int) != ct0) = true := by simp [hct]
    have e1 : me = 2 := by rw [HME.out, HL.out, if_pos (.inr hct)]
    subst e1
    have e2 : ml = [] := by rw [HML.out, if_neg (by decide)]
    subst e2
    go_enter Try.func18, Try.ntmps18
    go_wp2_with fail
    go_ret2
    exact RetBE.nil w 2
end Go.Proofs.Ytgdelilanackhaa
