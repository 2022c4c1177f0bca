/-
  Contract of frame.Merge: what all the parts of one message are together, in new memory, or the error's number. Conditions: the fields fit their types; the sizes that slices can have.
-/
import Derived.Test.YtobmopjfbgkfbaaMrg
import Derived.Test.YtobmopjfbgkfbaaZero
import Derived.Test.YtobmopjfbgkfbaaLists
namespace Go.Proofs.Ytobmopjfbgkfbaa
open Go Go.RowKit Go.Sh

/-- which indexes have been seen, as cells -/
def seenV (qs : List Pt) : List Value := (List.range 16).map fun (j : Nat) => .bool (hasIx qs (j : Int))
theorem length_seenV (qs : List Pt) : (seenV qs).length = 16 := by simp [seenV]
theorem seenV_at (qs : List Pt) {j : Nat} (h : j < 16) : (seenV qs)[j]? = some (.bool (hasIx qs (j : Int))) := by simp [seenV, h]
theorem seenV_put (qs : List Pt) {p : Pt} {j : Nat} (h : j < 16) (hp : p.ix = (j : Int)) : (seenV qs).set j (.bool true) = seenV (qs ++ [p]) := by
  apply List.ext_getElem?
  intro i
  by_cases hi : i < 16
  · rw [seenV_at _ hi, hasIx_snoc, hp]
    by_cases hij : j = i
    · subst hij
      simp [length_seenV, h]
    · rw [List.getElem?_set_ne hij, seenV_at _ hi]
      have : ((j : Int) == (i : Int)) = false := by simp; omega
      rw [this, Bool.or_false]
  · rw [List.getElem?_eq_none (by simp [length_seenV]; omega), List.getElem?_eq_none (by simp [length_seenV]; omega)]
/-- block g holds sixteen slices; number j reads as the bytes of the parts with index j -/
def PC (w : World) (g B : Nat) (qs : List Pt) : Prop :=
  ∃ vs : List Value, vs.length = 16 ∧ w.heap[g]? = some (.cells vs.toArray 49 (0, 0)) ∧ ∀ j : Nat, j < 16 → ∃ Ai ni ci, vs[j]? = some (.slice Ai ni ci) ∧ ni ≤ ci ∧ RB w B Ai ni (grp qs (j : Int))
def SB (w : World) (g : Nat) (qs : List Pt) : Prop := w.heap[g]? = some (.cells (seenV qs).toArray 48 (0, 0))

set_option maxHeartbeats 4000000 in
set_option maxRecDepth 100000 in
theorem Merge_any (A : Option Addr) (m c : Nat) (ps : List Pt) (w : World) (B : Nat) (hr : RP w B A m ps) (hB : B ≤ w.heap.size) (hm : m ≤ 140737488355328) (hok : ∀ p ∈ ps, p.OK) (hd : ∀ p ∈ ps, p.d.length ≤ 140737488355328) :
    Calls Try.prog 30 #[.slice A m c] w (RetBE w (mrgL ps) (mrgE ps)) := by
  have HL := Lib.hid hr.len
  have HR := Lib.hid hr
  have HOK := Lib.hid hok
  have HD := Lib.hid hd
  clear hr hok hd
  have HME := Lib.hid (show mrgE ps = if ps.length = 0 ∨ (ps.length : Int) ≠ (pat ps 0).ct then 2 else if allGood ps = true then 0 else 3 from rfl)
  have HML := Lib.hid (show mrgL ps = if mrgE ps = 0 then mrgW ps else [] from rfl)
  generalize mrgL ps = ml at *
  generalize mrgE ps = me at *
  by_cases h0 : m = 0
  · subst h0
    have e1 : me = 2 := by rw [HME.out, HL.out, if_pos (.inl rfl)]
    subst e1
    have e2 : ml = [] := by rw [HML.out, if_neg (by decide)]
    subst e2
    go_enter Try.func30, Try.ntmps30
    go_wp2_with fail
    go_ret2
    exact RetBE.nil w 2
  obtain ⟨ad, A0, n0, c0, rfl, hab, hc, hle0, hr0⟩ := HR.out.at_ (k := 0) (by omega)
  have a1 := hc 1 _ rfl
  have a3 := hc 3 _ rfl
  have HA1 := Lib.hid a1
  have HA3 := Lib.hid a3
  have _hcb := (HOK.out _ (pat_mem (ps := ps) (k := 0) (by rw [HL.out]; omega))).ct
  clear hc hr0 hle0
  simp only [Nat.zero_mul, Nat.zero_add] at a1 a3
  have a1 : w.cell? ⟨ad.block, ad.off + 1, none⟩ = some (.int .u64 (pat ps 0).id) := a1
  have a3 : w.cell? ⟨ad.block, ad.off + 3, none⟩ = some (.int .i64 (pat ps 0).ct) := a3
  have hm0 : 0 < m := by omega
  clear h0
  generalize hq0 : (pat ps 0).ct = ct0 at *
  have HQ0 := Lib.hid hq0
  clear hq0
  by_cases hct : (m : Int) = ct0
  · subst hct
    have d1 : ((m : Int) != (m : Int)) = false := by simp
    have d0 : ((m : Int) == 0) = false := by simp; omega
    go_enter Try.func30, Try.ntmps30
    go_wp2_with fail
    obtain ⟨w2, hw2⟩ : ∃ w2, (w.alloc (.cells #[.slice none 0 0, .slice none 0 0, .slice none 0 0, .slice none 0 0, .slice none 0 0, .slice none 0 0, .slice none 0 0, .slice none 0 0, .slice none 0 0, .slice none 0 0, .slice none 0 0, .slice none 0 0, .slice none 0 0, .slice none 0 0, .slice none 0 0, .slice none 0 0] 49)).alloc
      (.cells #[.bool false, .bool false, .bool false, .bool false, .bool false, .bool false, .bool false, .bool false, .bool false, .bool false, .bool false, .bool false, .bool false, .bool false, .bool false, .bool false] 48) = w2 := ⟨_, rfl⟩
    rw [hw2]
    have hP2 : w2.heap[w.heap.size]? = some (.cells (List.replicate 16 (.slice none 0 0)).toArray 49 (0, 0)) := by
      rw [← hw2, heap_alloc_old _ _ (by simp)]
      exact heap_alloc_new w _
    have hS2 : SB w2 (w.heap.size + 1) [] := by
      unfold SB
      rw [← hw2]
      have h := heap_alloc_new (w.alloc (.cells (List.replicate 16 (Value.slice none 0 0)).toArray 49)) (.cells (seenV []).toArray 48)
      rw [show (w.alloc (.cells (List.replicate 16 (Value.slice none 0 0)).toArray 49)).heap.size = w.heap.size + 1 by simp] at h
      exact h
    have hB2 : Below w.heap.size w w2 := by rw [← hw2]; exact ((Below.refl _ _).alloc (Nat.le_refl _) _).alloc (by simp) _
    have HP2 := Lib.hid (show PC w2 w.heap.size B [] from ⟨List.replicate 16 (.slice none 0 0), by simp, hP2, fun j hj => ⟨none, 0, 0, by rw [List.getElem?_replicate, if_pos hj], Nat.le_refl _, by rw [grp_none (by rfl)]; exact RB.none_⟩⟩)
    have HS2 := Lib.hid hS2
    have HB2 := Lib.hid hB2
    clear hw2 hP2 hS2 hB2
    generalize hg0 : w.heap.size = g0 at *
    have HG0 := Lib.hid hg0
    clear hg0
    go_loopw [7, 22] (fun _ i wr => ∃ k : Nat, k ≤ m ∧ i = .int .i64 (k : Int) ∧ (∀ i, i < k → goodAt ps i = true) ∧ PC wr g0 B (ps.take k) ∧ SB wr (g0 + 1) (ps.take k) ∧ Below g0 w wr) (fun _ i _ => m - (intOf i).toNat)
    case atStart => exact ⟨0, by omega, rfl, fun i hi => absurd hi (by omega), HP2.out, HS2.out, HB2.out⟩
    case round =>
      obtain ⟨k, hk, rfl, hgood, hpc, hsb, hb⟩ := hrel
      have HGD := Lib.hid hgood
      have HPC := Lib.hid hpc
      have HSB := Lib.hid hsb
      have HB := Lib.hid hb
      have hz : g0 + 1 < wr.heap.size := (Array.getElem?_eq_some_iff.1 hsb).1
      clear hgood hpc hsb hb HP2 HS2 HB2 a1 a3
      by_cases hlt : k < m
      · obtain ⟨_, Ak, nk, ck, hadd, _, hc, hle, hrk⟩ := (HR.out.below (HB.out.mono hB)).at_ (k := k) hlt
        obtain rfl := Option.some.inj hadd
        have a0 := hc 0 _ rfl
        have a1 := hc 1 _ rfl
        have a2 := hc 2 _ rfl
        have a3 := hc 3 _ rfl
        have a4 := hc 4 _ rfl
        simp only [Nat.add_zero] at a0
        simp only [← add_of_add] at a1 a2 a3 a4
        have HRK := Lib.hid hrk
        have hnk : nk ≤ 140737488355328 := by rw [← hrk.len]; exact HD.out _ (pat_mem (by rw [HL.out]; exact hlt))
        have HCK := Lib.hid (show ∀ w, Calls Try.prog 62 #[.agg #[.int .u8 (pat ps k).k, .int .u64 (pat ps k).id, .int .i64 (pat ps k).ix, .int .i64 (pat ps k).ct, .slice Ak nk ck]] w (fun e w' => e = .returned (.int .i64 (pat ps k).chk) ∧ Below w.heap.size w w') from fun w => by
          rw [show (pat ps k).chk = chk (pat ps k).k (pat ps k).id (pat ps k).ix (pat ps k).ct nk by unfold Pt.chk; rw [hrk.len]]
          exact PCheck_any _ _ _ _ Ak nk ck w (HOK.out _ (pat_mem (by rw [HL.out]; exact hlt))).k hnk)
        have HBAD := Lib.hid (show goodAt ps k = false → me = 3 ∧ ml = [] from fun h => by
          have e1 : allGood ps = false := by
            cases e : allGood ps with
            | false => rfl
            | true =>
              rw [allGood_iff.1 e k (by rw [HL.out]; exact hlt)] at h
              cases h
          have e2 : me = 3 := by rw [HME.out, HL.out, if_neg (by simp; omega), e1, if_neg (by decide)]
          refine ⟨e2, ?_⟩
          rw [HML.out, e2, if_neg (by decide)])
        have HGA := Lib.hid (show goodAt ps k = ((pat ps k).chk == 0 && (pat ps k).k == 1 && (pat ps k).id == (pat ps 0).id && (pat ps k).ct == (pat ps 0).ct && !hasIx (ps.take k) (pat ps k).ix) from rfl)
        have HOKK := Lib.hid (fun h : (pat ps k).chk = 0 => chk_ok' h)
        have HSN := Lib.hid (take_psnoc ps k (by rw [HL.out]; exact hlt))
        rw [HQ0.out] at HGA
        have HPN := Lib.hid (PBlk.new wr (pat ps k) (.slice Ak nk ck))
        clear hc hrk hadd
        have a0' : wr.cell? (ad.add (k * 5)) = some (.int .u8 (pat ps k).k) := a0
        have a1' : wr.cell? ⟨(ad.add (k * 5)).block, (ad.add (k * 5)).off + 1, none⟩ = some (.int .u64 (pat ps k).id) := a1
        have a2' : wr.cell? ⟨(ad.add (k * 5)).block, (ad.add (k * 5)).off + 2, none⟩ = some (.int .i64 (pat ps k).ix) := a2
        have a3' : wr.cell? ⟨(ad.add (k * 5)).block, (ad.add (k * 5)).off + 3, none⟩ = some (.int .i64 (pat ps k).ct) := a3
        have a4' : wr.cell? ⟨(ad.add (k * 5)).block, (ad.add (k * 5)).off + 4, none⟩ = some (.slice Ak nk ck) := a4
        clear a0 a1 a2 a3 a4
        generalize (pat ps 0).id = id0 at *
        generalize pat ps k = pk at *
        go_wp2_with fail
        have hba := (Below.refl wr.heap.size wr).alloc (Nat.le_refl _) (.cells #[.int .u8 pk.k, .int .u64 pk.id, .int .i64 pk.ix, .int .i64 pk.ct, .slice Ak nk ck] 56)
        refine (HCK.out _).mono ?_
        rintro e w3 ⟨rfl, hb⟩
        have hb3 := hba.trans (hb.mono (by simp))
        have HP3 := Lib.hid (HPN.out.below hb (by simp))
        have HB3 := Lib.hid hb3
        have hz3 : wr.heap.size < w3.heap.size := HP3.out.lt
        clear hba hb hb3 HPN a0' a1' a2' a3' a4'
        have c0 := HP3.out.c0
        have c1 := HP3.out.c1
        have c2 := HP3.out.c2
        have c3 := HP3.out.c3
        have c4 := HP3.out.c4
        by_cases hch : pk.chk = 0
        · have d2 : (pk.chk != 0) = false := by simp [hch]
          by_cases hkd : pk.k = 1
          · have d3 : (pk.k != 1) = false := by simp [hkd]
            obtain ⟨_, _, ⟨t1, t2⟩, t3, t4⟩ := HOKK.out hch
            obtain ⟨j, hj⟩ : ∃ j : Nat, pk.ix = (j : Int) := ⟨pk.ix.toNat, by omega⟩
            have hj16 : j < 16 := by omega
            have hsn : w3.cell? ⟨g0 + 1, j, none⟩ = some (.bool (hasIx (ps.take k) (j : Int))) := (HB3.out.cell (p := ⟨g0 + 1, j, none⟩) (by exact hz)).trans (by
              rw [blk_cell HSB.out, List.getElem?_toArray]
              exact seenV_at _ hj16)
            have hBw : Below g0 w w3 := HB.out.trans (HB3.out.mono (by omega))
            have k1 : w3.cell? ⟨ad.block, ad.off + 1, none⟩ = some (.int .u64 id0) := (hBw.cell (p := ⟨ad.block, ad.off + 1, none⟩) (by show ad.block < g0; omega)).trans HA1.out
            have k3 : w3.cell? ⟨ad.block, ad.off + 3, none⟩ = some (.int .i64 (m : Int)) := (hBw.cell (p := ⟨ad.block, ad.off + 3, none⟩) (by show ad.block < g0; omega)).trans HA3.out
            have HBW := Lib.hid hBw
            clear hBw
            rw [hj] at c2
            by_cases hgo : goodAt ps k = true
            · have HGO := Lib.hid hgo
              rw [HGA.out, hj] at hgo
              simp only [Bool.and_eq_true, beq_iff_eq, Bool.not_eq_true'] at hgo
              obtain ⟨⟨⟨⟨_, _⟩, g1⟩, g2⟩, g3⟩ := hgo
              have d4 : (pk.id != id0) = false := by simp [g1]
              have d5 : (pk.ct != (m : Int)) = false := by simp [g2]
              rw [g3] at hsn
              have HG3 := Lib.hid g3
              clear g3 g1 g2
              go_wp2_with fail
              go_quiet (fail)
              obtain ⟨w4, hw4⟩ : ∃ w4, w3.drewN nq = w4 := ⟨_, rfl⟩
              rw [hw4]
              have HP4 := Lib.hid (show PBlk w4 wr.heap.size pk (.slice Ak nk ck) by rw [← hw4]; exact HP3.out)
              have HB4 := Lib.hid (show Below wr.heap.size wr w4 by rw [← hw4]; exact below_drewN HB3.out nq)
              have hz4 : wr.heap.size < w4.heap.size := HP4.out.lt
              clear hw4 c0 c1 c2 c3 c4 hsn k1 k3 HBW HP3 HB3 hz3
              have c2 := HP4.out.c2
              have c4 := HP4.out.c4
              rw [hj] at c2
              have hSB4 : SB w4 (g0 + 1) (ps.take k) := (HB4.out.block _ hz).trans HSB.out
              have hsn : w4.cell? ⟨g0 + 1, j, none⟩ = some (.bool (hasIx (ps.take k) (j : Int))) := by rw [blk_cell hSB4, List.getElem?_toArray]; exact seenV_at _ hj16
              have hsf : w4.frozen? ⟨g0 + 1, j, none⟩ = false := frozen_of_row _ _ j _ _ hSB4
              have HS5 := Lib.hid (show SB (w4.setCell ⟨g0 + 1, j, none⟩ (.bool true)) (g0 + 1) (ps.take (k + 1)) from by
                unfold SB
                rw [blk_set hSB4, List.setIfInBounds_toArray, seenV_put _ hj16 hj, HSN.out])
              obtain ⟨vs, hvl, hvb, hvi⟩ := HPC.out
              have hpb4 : w4.heap[g0]? = some (.cells vs.toArray 49 (0, 0)) := (HB4.out.block _ (by omega)).trans hvb
              obtain ⟨_, _, _, hvj, _, _⟩ := hvi j hj16
              have hpc4 : w4.cell? ⟨g0, j, none⟩ = some (vs[j]'(by omega)) := by rw [blk_cell hpb4, List.getElem?_toArray, List.getElem?_eq_getElem]
              have hpf4 : w4.frozen? ⟨g0, j, none⟩ = false := frozen_of_row _ _ j _ _ hpb4
              have hne1 : ¬ wr.heap.size = g0 + 1 := by omega
              have hne2 : ¬ g0 = g0 + 1 := by omega
              have HVI := Lib.hid hvi
              have HVB := Lib.hid hvb
              clear hSB4 hvb hvi hvj hpb4
              go_wp2_with fail
              have hB6 : Below g0 wr ((w4.setCell ⟨g0 + 1, j, none⟩ (.bool true)).setCell ⟨g0, j, none⟩ (.slice Ak nk ck)) := ((HB4.out.mono (by omega)).setCell (by show g0 ≤ g0 + 1; omega) _).setCell (Nat.le_refl g0) _
              refine ⟨⟨k + 1, by omega, by go_num, ?_, ?_, ?_, HB.out.trans hB6⟩, by simp [intOf]; omega⟩
              · intro i hi
                by_cases hik : i < k
                · exact HGD.out i hik
                · obtain rfl : i = k := by omega
                  exact HGO.out
              · refine ⟨vs.set j (.slice Ak nk ck), by simp [hvl], ?_, fun i hi => ?_⟩
                · have h4 : w4.heap[g0]? = some (.cells vs.toArray 49 (0, 0)) := (HB4.out.block _ (by omega)).trans HVB.out
                  have h5 : (w4.setCell ⟨g0 + 1, j, none⟩ (.bool true)).heap[g0]? = some (.cells vs.toArray 49 (0, 0)) := by
                    rw [(grown_setCell w4 (g0 + 1) j (.bool true)).block g0 (by omega) (by simp)]
                    exact h4
                  rw [blk_set h5, List.setIfInBounds_toArray]
                · rw [HSN.out, grp_snoc]
                  by_cases hij : i = j
                  · subst hij
                    rw [if_pos hj, grp_none HG3.out, List.nil_append]
                    exact ⟨Ak, nk, ck, by simp [hvl, hi], hle, HRK.out.below (hB6.mono hB)⟩
                  · rw [if_neg (by rw [hj]; omega), List.append_nil]
                    obtain ⟨Ai, ni, ci, h1, h2, h3⟩ := HVI.out i hi
                    exact ⟨Ai, ni, ci, by rw [List.getElem?_set_ne (Ne.symm hij)]; exact h1, h2, h3.below (hB6.mono hB)⟩
              · unfold SB
                rw [(grown_setCell (w4.setCell ⟨g0 + 1, j, none⟩ (.bool true)) g0 j _).block (g0 + 1) (by simp [World.setCell]; omega) (by simp)]
                exact HS5.out
            · have hbad : me = 3 ∧ ml = [] := HBAD.out (by cases h : goodAt ps k with | false => rfl | true => exact absurd h hgo)
              obtain ⟨e1, e2⟩ := hbad
              clear HBAD
              by_cases q1 : pk.id = id0
              · have d4 : (pk.id != id0) = false := by simp [q1]
                by_cases q2 : pk.ct = (m : Int)
                · have d5 : (pk.ct != (m : Int)) = false := by simp [q2]
                  have q3 : hasIx (ps.take k) (j : Int) = true := by
                    cases h : hasIx (ps.take k) (j : Int) with
                    | true => rfl
                    | false =>
                      refine absurd ?_ hgo
                      rw [HGA.out, hj, h, hch, hkd, q1, q2]
                      simp
                  rw [q3] at hsn
                  clear q1 q2 q3
                  go_wp2_with fail
                  go_quiet (fail)
                  go_wp2_with fail
                  go_ret2
                  rw [e1, e2]
                  exact ⟨none, 0, 0, rfl, rfl, World.ownsRow_nil _ _ _ _, by rw [HG0.out]; exact below_drewN HBW.out nq⟩
                · have d5 : (pk.ct != (m : Int)) = true := by simp [q2]
                  clear q1 q2
                  go_wp2_with fail
                  go_quiet (fail)
                  go_wp2_with fail
                  go_ret2
                  rw [e1, e2]
                  exact ⟨none, 0, 0, rfl, rfl, World.ownsRow_nil _ _ _ _, by rw [HG0.out]; exact below_drewN HBW.out nq⟩
              · have d4 : (pk.id != id0) = true := by simp [q1]
                clear q1
                go_wp2_with fail
                go_quiet (fail)
                go_wp2_with fail
                go_ret2
                rw [e1, e2]
                exact ⟨none, 0, 0, rfl, rfl, World.ownsRow_nil _ _ _ _, by rw [HG0.out]; exact below_drewN HBW.out nq⟩
          · have d3 : (pk.k != 1) = true := by simp [hkd]
            obtain ⟨e1, e2⟩ := HBAD.out (by rw [HGA.out, beq_false_of_ne hkd]; simp)
            go_wp2_with fail
            go_ret2
            rw [e1, e2]
            exact ⟨none, 0, 0, rfl, rfl, World.ownsRow_nil _ _ _ _, by rw [HG0.out]; exact HB.out.trans (HB3.out.mono (by omega))⟩
        · have d2 : (pk.chk != 0) = true := by simp [hch]
          obtain ⟨e1, e2⟩ := HBAD.out (by rw [HGA.out, beq_false_of_ne hch]; simp)
          go_wp2_with fail
          go_ret2
          rw [e1, e2]
          exact ⟨none, 0, 0, rfl, rfl, World.ownsRow_nil _ _ _ _, by rw [HG0.out]; exact HB.out.trans (HB3.out.mono (by omega))⟩
      · obtain rfl : k = m := by omega
        have hall : allGood ps = true := allGood_iff.2 (fun i hi => HGD.out i (by rw [← HL.out]; exact hi))
        have e1 : me = 0 := by rw [HME.out, HL.out, if_neg (by simp; omega), if_pos hall]
        have e2 : ml = mrgW ps := by rw [HML.out, if_pos e1]
        have hq : ps.take k = ps := List.take_of_length_le (by rw [HL.out]; exact Nat.le_refl _)
        obtain ⟨vs, hvl, hvb, hvi⟩ := HPC.out
        rw [hq] at hvi
        have hbb : RBB wr wr.heap.size (some ⟨g0, 0, none⟩) 16 ((List.range 16).map fun (j : Nat) => grp ps (j : Int)) := by
          refine ⟨by simp, vs, ⟨by rw [hvl], .inr ⟨_, rfl, by show g0 < _; omega, fun j _ => ?_⟩⟩, fun i hi => ?_⟩
          · rw [add_mk, Nat.zero_add, blk_cell hvb, List.getElem?_toArray]
          · obtain ⟨Ai, ni, ci, h1, h2, h3⟩ := hvi i hi
            refine ⟨Ai, ni, ci, h1, h2, ?_⟩
            have : lat ((List.range 16).map fun (j : Nat) => grp ps (j : Int)) i = grp ps (i : Int) := by simp [lat, hi]
            rw [this]
            exact h3.more (by omega)
        have hbd : ((List.range 16).map fun (j : Nat) => grp ps (j : Int)).flatten.length ≤ 7200 := by
          have h := sum_le_len ((List.range 16).map fun (j : Nat) => grp ps (j : Int)) 450 (by
            intro x hx
            obtain ⟨j, _, rfl⟩ := List.mem_map.1 hx
            refine grp_le (fun p hp => ?_) (fun i hi => (goodAt_iff.1 (allGood_iff.1 hall i hi)).2.2.2.2)
            obtain ⟨i, hi, rfl⟩ := List.getElem_of_mem hp
            have := (chk_ok' (goodAt_iff.1 (allGood_iff.1 hall i hi)).1).2.1
            rw [← Option.some.inj ((List.getElem?_eq_getElem hi).symm.trans (pat_eq hi))] at this
            exact this)
          simpa using h
        have HBB := Lib.hid hbb
        have HBD := Lib.hid hbd
        have E1 := Lib.hid e1
        have E2 := Lib.hid e2
        clear hall e1 e2 hq hvb hvi hbb hbd HPC HSB
        go_wp2_with fail
        refine (Join_any _ 16 16 _ wr wr.heap.size HBB.out (Nat.le_refl _) (by omega) (by have := HBD.out; omega)).mono ?_
        rintro e w5 ⟨g5, n5, c5, rfl, hl5, ho5, hb5⟩
        have HO5 := Lib.hid ho5
        have HL5 := Lib.hid hl5
        have HB5 := Lib.hid (HB.out.trans (hb5.mono (by omega)))
        clear ho5 hb5 hl5
        go_wp2_with fail
        go_ret2
        rw [E1.out, E2.out]
        refine ⟨_, n5, c5, rfl, HL5.out, ?_, ?_⟩
        · rw [HG0.out]
          exact own_base HO5.out (by omega)
        · rw [HG0.out]
          exact HB5.out
  · have d1 : ((m : Int) != ct0) = true := by simp [hct]
    have e1 : me = 2 := by rw [HME.out, HL.out, if_pos (.inr hct)]
    subst e1
    have e2 : ml = [] := by rw [HML.out, if_neg (by decide)]
    subst e2
    go_enter Try.func30, Try.ntmps30
    go_wp2_with fail
    go_ret2
    exact RetBE.nil w 2
end Go.Proofs.Ytobmopjfbgkfbaa
