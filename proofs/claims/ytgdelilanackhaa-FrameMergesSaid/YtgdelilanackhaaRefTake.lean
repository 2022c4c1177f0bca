/-
  Contract of shallotref11.Take (from nothing). Conditions: the fields fit their types; the sizes that slices can have.
-/
import Derived.Test.YtgdelilanackhaaMerge
import Derived.Test.YtgdelilanackhaaRefFrame
namespace Go.Proofs.Ytgdelilanackhaa
open Go Go.RowKit Go.Sh

/-- v is a row of the call's own of m parts whose data lie below block B -/
def KP (w : World) (base B : Nat) (v : Value) (m : Nat) (ps : List Pt) (ss : List Value) : Prop :=
  ps.length = m ∧ ss.length = m ∧ w.ownsRow base 47 5 v m (pcells ps ss) ∧ ∀ i, i < m → ∃ Ai ni ci, ss[i]? = some (.slice Ai ni ci) ∧ ni ≤ ci ∧ RB w B Ai ni (pat ps i).d
section
variable {w w' : World} {base B m : Nat} {v : Value} {ps : List Pt} {ss : List Value}
theorem KP.nil (w : World) (base B : Nat) : KP w base B (.slice none 0 0) 0 [] [] := ⟨rfl, rfl, World.ownsRow_nil _ _ _ _, fun i hi => absurd hi (by omega)⟩
theorem KP.later (h : KP w base B v m ps ss) (hB : B ≤ w.heap.size) (hb : Below w.heap.size w w') : KP w' base B v m ps ss := by
  obtain ⟨h1, h2, h3, h4⟩ := h
  refine ⟨h1, h2, own_later h3 hb, fun i hi => ?_⟩
  obtain ⟨Ai, ni, ci, h5, h6, h7⟩ := h4 i hi
  exact ⟨Ai, ni, ci, h5, h6, h7.below (hb.mono hB)⟩
theorem KP.read {A : Option Addr} {c : Nat} (h : KP w base B (.slice A m c) m ps ss) (hB : B ≤ w.heap.size) : RP w w.heap.size A m ps := by
  obtain ⟨h1, h2, h3, h4⟩ := h
  refine ⟨h1, ss, h2, Reads.of_own h3, fun i hi => ?_⟩
  obtain ⟨Ai, ni, ci, h5, h6, h7⟩ := h4 i hi
  exact ⟨Ai, ni, ci, h5, h6, h7.more hB⟩
/-- one part more is put behind by append -/
theorem KP.snoc {A : Option Addr} {c : Nat} (h : KP w base B v m ps ss) (hBb : B ≤ base) (hB : B ≤ w.heap.size) {Ai : Option Addr} {ni ci : Nat} {p : Pt} (hle : ni ≤ ci) (hx : RB w B Ai ni p.d)
    (hg : w.grownBy w' v.ownBlock) (ho : w'.ownsRow base 47 5 (.slice A (m + 1) c) (m + 1) (pcells ps ss ++ pcell p (.slice Ai ni ci))) : KP w' base B (.slice A (m + 1) c) (m + 1) (ps ++ [p]) (ss ++ [.slice Ai ni ci]) := by
  obtain ⟨h1, h2, h3, h4⟩ := h
  have hb : Below B w w' := (Below.refl B w).grown hg hB (fun q hq => Nat.le_trans hBb (h3.lt q hq).1)
  refine ⟨by simp [h1], by simp [h2], ?_, fun i hi => ?_⟩
  · rw [pcells_append _ _ _ _ (by omega)]
    exact ho
  · by_cases hlt : i < m
    · obtain ⟨Aj, nj, cj, h5, h6, h7⟩ := h4 i hlt
      refine ⟨Aj, nj, cj, by rw [List.getElem?_append_left (by omega)]; exact h5, h6, ?_⟩
      have e1 : pat (ps ++ [p]) i = pat ps i := by simp [pat, List.getElem?_append_left (show i < ps.length by omega)]
      rw [e1]
      exact h7.below hb
    · obtain rfl : i = m := by omega
      refine ⟨Ai, ni, ci, by rw [List.getElem?_append_right (by omega), h2, Nat.sub_self]; rfl, hle, ?_⟩
      have e1 : pat (ps ++ [p]) i = p := by simp [pat, ← h1]
      rw [e1]
      exact hx.below hb
end

/-- the parts that are kept, and whether all were -/
def TakePost (w : World) (B : Nat) (ps : List Pt) (e : Ending) (w' : World) : Prop :=
  ∃ A n c qs ss fv, e = .returned (.tuple #[.slice A n c, .int .i64 fv]) ∧ KP w' w.heap.size B (.slice A n c) n qs ss ∧ Below w.heap.size w w' ∧ (allGood ps = true → fv = 0 ∧ qs = ps) ∧ (allGood ps = false → fv ≠ 0)

set_option maxHeartbeats 1000000 in
set_option maxRecDepth 100000 in
theorem Take_any (A : Option Addr) (m c : Nat) (ps : List Pt) (w : World) (B : Nat) (hr : RP w B A m ps) (hB : B ≤ w.heap.size) (hm : m * 56 ≤ 140737488355328) (hok : ∀ p ∈ ps, p.OK) (hd : ∀ p ∈ ps, p.d.length ≤ 140737488355328) (id0 : Int) (hid : id0 = (pat ps 0).id) :
    Calls Try.prog 33 #[.slice none 0 0, .int .u64 id0, .slice A m c] w (TakePost w B ps) := by
  have HL := Lib.hid hr.len
  have HR := Lib.hid hr
  have HOK := Lib.hid hok
  have HD := Lib.hid hd
  clear hr hok hd
  have HI0 := Lib.hid hid
  clear hid
  generalize hgw : w.heap.size = g at *
  have HG := Lib.hid hgw
  clear hgw
  go_enter Try.func33, Try.ntmps33
  go_wp2_with (at_builtin; refine wl_app TP rfl (.tmp 13) (.tmp 14) rfl (.slice (some ⟨w.heap.size, 0, none⟩) 0 0) rfl none 0 0 rfl g 0 [] ?h1 B [] Reads.none_ (by simp) (by omega) (by omega) ?h5 ?h6)
  case h1 => exact World.ownsRow_lit w #[] 0 (by rw [HG.out]; exact Nat.le_refl _) (by simp) rfl
  case h5 => simp; have := HG.out; omega
  case h6 =>
    intro A1 c1 w1 hown hg hat
    have HK1 := Lib.hid (show KP w1 g B (.slice A1 0 c1) 0 (ps.take 0) [] from ⟨rfl, rfl, hown, fun i hi => absurd hi (by omega)⟩)
    have HB1 := Lib.hid (show Below g w w1 from ((Below.refl g w).alloc (by rw [HG.out]; exact Nat.le_refl _) _).grown hg (by simp; have := HG.out; omega) (fun q hq => by simp [Value.ownBlock, HG.out] at hq; omega))
    clear hown hg hat
    go_wp2_with fail
    go_loopw [0, 8, 9] (fun kv fv i wr => ∃ (k n : Nat) (qs : List Pt) (ss : List Value) (Ak : Option Addr) (ck : Nat) (f : Int), k ≤ m ∧ n ≤ k ∧ i = .int .i64 (k : Int) ∧ kv = .slice Ak n ck ∧ fv = .int .i64 f ∧ (f = 0 → n = k ∧ qs = ps.take k ∧ ∀ i, i < k → goodAt ps i = true) ∧ (f ≠ 0 → ∃ i, i < m ∧ goodAt ps i = false) ∧ KP wr g B (.slice Ak n ck) n qs ss ∧ Below g w wr) (fun _ _ i _ => m - (intOf i).toNat)
    case atStart => exact ⟨0, 0, [], [], A1, c1, 0, by omega, by omega, rfl, rfl, rfl, fun _ => ⟨rfl, rfl, fun i hi => absurd hi (by omega)⟩, fun h => absurd rfl h, HK1.out, HB1.out⟩
    case round =>
      obtain ⟨k, n, qs, ss, Ak, ck, f, hk, hnk, rfl, rfl, rfl, hf0, hf1, hkp, hb⟩ := hrel
      have HF0 := Lib.hid hf0
      have HF1 := Lib.hid hf1
      have HKP := Lib.hid hkp
      have HB := Lib.hid hb
      have hsz := hb.size
      rw [HG.out] at hsz
      clear hf0 hf1 hkp hb HK1 HB1
      by_cases hlt : k < m
      · obtain ⟨ad, Ai, ni, ci, rfl, _, hc, hle, hrk⟩ := (HR.out.below (HB.out.mono hB)).at_ (k := k) hlt
        have a0 := hc 0 _ rfl
        have a1 := hc 1 _ rfl
        have a2 := hc 2 _ rfl
        have a3 := hc 3 _ rfl
        have a4 := hc 4 _ rfl
        simp only [Nat.add_zero] at a0
        simp only [← add_of_add] at a1 a2 a3 a4
        have hni : ni ≤ 140737488355328 := by rw [← hrk.len]; exact HD.out _ (pat_mem (by rw [HL.out]; exact hlt))
        have HRK := Lib.hid hrk
        have HCK := Lib.hid (show ∀ w, Calls Try.prog 22 #[.agg #[.int .u8 (pat ps k).k, .int .u64 (pat ps k).id, .int .i64 (pat ps k).ix, .int .i64 (pat ps k).ct, .slice Ai ni ci]] w (fun e w' => e = .returned (.int .i64 (pat ps k).chk) ∧ Below w.heap.size w w') from fun w => by
          rw [show (pat ps k).chk = chk (pat ps k).k (pat ps k).id (pat ps k).ix (pat ps k).ct ni by unfold Pt.chk; rw [hrk.len]]
          exact RefPCheck_any _ _ _ _ Ai ni ci w (HOK.out _ (pat_mem (by rw [HL.out]; exact hlt))).k hni)
        have HSN := Lib.hid (take_psnoc ps k (by rw [HL.out]; exact hlt))
        have HGA := Lib.hid (show goodAt ps k = ((pat ps k).chk == 0 && (pat ps k).k == 1 && (pat ps k).id == (pat ps 0).id && (pat ps k).ct == (pat ps 0).ct && !hasIx (ps.take k) (pat ps k).ix) from rfl)
        rw [← HI0.out] at HGA
        have HPN := Lib.hid (PBlk.new wr (pat ps k) (.slice Ai ni ci))
        have HKC := Lib.hid (show f = 0 → ((∀ i, i < n → (pat qs i).ct = (pat ps k).ct ∧ (pat qs i).ix ≠ (pat ps k).ix) ↔ ((pat ps k).ct = (pat ps 0).ct ∧ hasIx (ps.take k) (pat ps k).ix = false)) from by
          intro h
          obtain ⟨rfl, rfl, hg⟩ := HF0.out h
          constructor
          · intro h2
            refine ⟨?_, hasIx_false.2 fun i hi => ?_⟩
            · by_cases hn : n = 0
              · subst hn; rfl
              · have := (h2 0 (by omega)).1
                rw [pat_take (by omega)] at this
                exact this.symm
            · exact (h2 i (by simp at hi; omega)).2
          · rintro ⟨h2, h3⟩ i hi
            refine ⟨?_, hasIx_false.1 h3 i (by rw [List.length_take, HL.out]; omega)⟩
            rw [pat_take hi, h2]
            exact (goodAt_iff.1 (hg i hi)).2.2.2.1)
        clear hc hrk
        have a0' : wr.cell? (ad.add (k * 5)) = some (.int .u8 (pat ps k).k) := a0
        have a1' : wr.cell? ⟨(ad.add (k * 5)).block, (ad.add (k * 5)).off + 1, none⟩ = some (.int .u64 (pat ps k).id) := a1
        have a2' : wr.cell? ⟨(ad.add (k * 5)).block, (ad.add (k * 5)).off + 2, none⟩ = some (.int .i64 (pat ps k).ix) := a2
        have a3' : wr.cell? ⟨(ad.add (k * 5)).block, (ad.add (k * 5)).off + 3, none⟩ = some (.int .i64 (pat ps k).ct) := a3
        have a4' : wr.cell? ⟨(ad.add (k * 5)).block, (ad.add (k * 5)).off + 4, none⟩ = some (.slice Ai ni ci) := a4
        clear a0 a1 a2 a3 a4
        generalize (pat ps 0).ct = ct0 at *
        generalize pat ps k = pk at *
        -- a part that is not kept
        have HBADK := Lib.hid (show goodAt ps k = false → ∃ i, i < m ∧ goodAt ps i = false from fun h => ⟨k, hlt, h⟩)
        have hba := (Below.refl wr.heap.size wr).alloc (Nat.le_refl _) (.cells #[.int .u8 pk.k, .int .u64 pk.id, .int .i64 pk.ix, .int .i64 pk.ct, .slice Ai ni ci] 47)
        have HBA := Lib.hid hba
        have c0 := HPN.out.c0
        clear hba
        by_cases hkd : pk.k = 1
        · have d3 : (pk.k != 1) = false := by simp [hkd]
          have HKD := Lib.hid hkd
          clear hkd
          go_wp2_with fail
          refine (HCK.out _).mono ?_
          rintro e w3 ⟨rfl, hb⟩
          have hb3 : Below wr.heap.size wr w3 := HBA.out.trans (hb.mono (show wr.heap.size ≤ _ by simp))
          have HP3 := Lib.hid (HPN.out.below hb (by simp))
          have HB3 := Lib.hid hb3
          clear hb hb3 HBA HPN a0' a1' a2' a3' a4' c0
          have c0 := HP3.out.c0
          have c1 := HP3.out.c1
          have c2 := HP3.out.c2
          have c3 := HP3.out.c3
          have c4 := HP3.out.c4
          by_cases hch : pk.chk = 0
          · have d2 : (pk.chk != 0) = false := by simp [hch]
            have HCH := Lib.hid hch
            clear hch
            by_cases hidk : pk.id = id0
            · have d4 : (pk.id != id0) = false := by simp [hidk]
              have HIK := Lib.hid hidk
              clear hidk
              have HK3 := Lib.hid (HKP.out.later (by omega) HB3.out)
              have HB3w := Lib.hid (HB.out.trans (HB3.out.mono hsz))
              have HRK3 := Lib.hid (HRK.out.below (HB3.out.mono (by omega)))
              have HRP3 := Lib.hid (HK3.out.read (by have := HB3.out.size; omega))
              have hz3 := HB3.out.size
              have HGK := Lib.hid (show f = 0 → ((∀ i, i < n → (pat qs i).ct = pk.ct ∧ (pat qs i).ix ≠ pk.ix) ↔ goodAt ps k = true) from by
                intro h
                rw [HKC.out h, HGA.out, HCH.out, HKD.out, HIK.out]
                simp)
              clear HGA HKC HCK HOK HD HKP HB HB3 HRK
              go_wp2_with fail
              go_loopw [11, 12] (fun ev iv wx => ∃ (q nd : Nat) (z : Int), q ≤ n ∧ iv = .int .i64 (q : Int) ∧ ev = .int .i64 z ∧ wx = w3.drewN nd ∧ ((z = 0 ∧ ∀ i, i < q → (pat qs i).ct = pk.ct ∧ (pat qs i).ix ≠ pk.ix) ∨ (z = 3 ∧ ∃ i, i < n ∧ ¬ ((pat qs i).ct = pk.ct ∧ (pat qs i).ix ≠ pk.ix)))) (fun _ iv _ => n - (intOf iv).toNat)
              case atStart => exact ⟨0, 0, 0, by omega, rfl, rfl, rfl, .inl ⟨rfl, fun i hi => absurd hi (by omega)⟩⟩
              case round =>
                obtain ⟨q, nd, z, hq, rfl, rfl, rfl, hz⟩ := hrel
                rcases hz with ⟨rfl, hall⟩ | ⟨rfl, hex⟩
                · have HALL := Lib.hid hall
                  clear hall
                  by_cases hqn : q < n
                  · obtain ⟨ad2, Aq, nq2, cq, rfl, _, hcq, _, _⟩ := HRP3.out.at_ hqn
                    have b2 := hcq 2 _ rfl
                    have b3 := hcq 3 _ rfl
                    simp only [← add_of_add] at b2 b3
                    have b2' : w3.cell? ⟨(ad2.add (q * 5)).block, (ad2.add (q * 5)).off + 2, none⟩ = some (.int .i64 (pat qs q).ix) := b2
                    have b3' : w3.cell? ⟨(ad2.add (q * 5)).block, (ad2.add (q * 5)).off + 3, none⟩ = some (.int .i64 (pat qs q).ct) := b3
                    clear hcq b2 b3
                    generalize hpq : pat qs q = pq at *
                    have HPQ := Lib.hid hpq
                    clear hpq
                    by_cases q1 : pq.ct = pk.ct
                    · have e1 : (pq.ct != pk.ct) = false := by simp [q1]
                      by_cases q2 : pq.ix = pk.ix
                      · have e2 : (pq.ix == pk.ix) = true := by simp [q2]
                        have HEX := Lib.hid (show ∃ i, i < n ∧ ¬ ((pat qs i).ct = pk.ct ∧ (pat qs i).ix ≠ pk.ix) from ⟨q, hqn, by rw [HPQ.out]; exact fun h => h.2 q2⟩)
                        clear q1 q2
                        go_wp2_with fail
                        go_quiet (fail)
                        go_wp2_with fail
                        exact ⟨⟨q + 1, nd + nq, 3, by omega, by go_num, rfl, rfl, .inr ⟨rfl, HEX.out⟩⟩, by simp [intOf]; omega⟩
                      · have e2 : (pq.ix == pk.ix) = false := by simp [q2]
                        have HQ1 := Lib.hid q1
                        have HQ2 := Lib.hid q2
                        clear q1 q2
                        go_wp2_with fail
                        go_quiet (fail)
                        go_wp2_with fail
                        refine ⟨⟨q + 1, nd + nq, 0, by omega, by go_num, rfl, rfl, .inl ⟨rfl, fun i hi => ?_⟩⟩, by simp [intOf]; omega⟩
                        by_cases hiq : i < q
                        · exact HALL.out i hiq
                        · obtain rfl : i = q := by omega
                          rw [HPQ.out]
                          exact ⟨HQ1.out, HQ2.out⟩
                    · have e1 : (pq.ct != pk.ct) = true := by simp [q1]
                      have HEX := Lib.hid (show ∃ i, i < n ∧ ¬ ((pat qs i).ct = pk.ct ∧ (pat qs i).ix ≠ pk.ix) from ⟨q, hqn, by rw [HPQ.out]; exact fun h => q1 h.1⟩)
                      clear q1
                      go_wp2_with fail
                      go_quiet (fail)
                      go_wp2_with fail
                      exact ⟨⟨q + 1, nd + nq, 3, by omega, by go_num, rfl, rfl, .inr ⟨rfl, HEX.out⟩⟩, by simp [intOf]; omega⟩
                  · obtain rfl : q = n := by omega
                    clear hqn
                    have HB4 := Lib.hid (below_drewN HB3w.out nd)
                    have hK4 : KP (w3.drewN nd) g B (.slice Ak q ck) q qs ss := HK3.out.later (by omega) (below_drewN (Below.refl _ _) nd)
                    have HR4 := Lib.hid (show RB (w3.drewN nd) B Ai ni pk.d from HRK3.out.drewN nd)
                    have hP4 : PBlk (w3.drewN nd) wr.heap.size pk (.slice Ai ni ci) := HP3.out.below (below_drewN (Below.refl _ _) nd) HP3.out.lt
                    have HK4 := Lib.hid hK4
                    have HP4 := Lib.hid hP4
                    have hz4 : g ≤ (w3.drewN nd).heap.size := by show g ≤ w3.heap.size; omega
                    clear hK4 hP4 HK3 HP3 HB3w HRK3 HRP3 c0 c1 c2 c3 c4
                    generalize w3.drewN nd = w4 at *
                    have c0 := HP4.out.c0
                    have c1 := HP4.out.c1
                    have c2 := HP4.out.c2
                    have c3 := HP4.out.c3
                    have c4 := HP4.out.c4
                    have HAL := Lib.hid ((Below.refl w4.heap.size w4).alloc (Nat.le_refl _) (.cells (pcell pk (.slice Ai ni ci)).toArray 47))
                    have HO5 := Lib.hid (HK4.out.later (by omega) HAL.out)
                    have HR5 := Lib.hid (HR4.out.below (HAL.out.mono (by omega)))
                    have HB5 := Lib.hid (HB4.out.trans (HAL.out.mono hz4))
                    have hz5 : g ≤ (w4.alloc (.cells (pcell pk (.slice Ai ni ci)).toArray 47)).heap.size := by simp; omega
                    go_wp2_with (at_builtin; refine wl_app TP rfl (.tmp 70) (.tmp 72) rfl (.slice Ak q ck) rfl (some ⟨w4.heap.size, 0, none⟩) 1 1 rfl g q _ HO5.out.2.2.1 (w4.heap.size + 1) (pcell pk (.slice Ai ni ci)) (Reads.lit w4 _ (pcell pk (.slice Ai ni ci)) 1 5 rfl _ rfl) (pcell_one _ _ _ _) (by omega) (by omega) hz5 ?q6)
                    case q6 =>
                      intro A6 c7 w6 hown hgr hat
                      have O6 := Lib.hid (HO5.out.snoc hB (by omega) hle HR5.out hgr hown)
                      have B6 := Lib.hid (HB5.out.grown hgr hz5 (own_drop HO5.out.2.2.1))
                      clear hown hgr hat HO5 HB5 HAL HR5 c0 c1 c2 c3 c4
                      go_wp2_with fail
                      refine ⟨⟨k + 1, q + 1, _, _, A6, c7, f, by omega, by omega, by go_num, rfl, rfl, fun h => ?_, fun h => HF1.out h, O6.out, B6.out⟩, by simp [intOf]; omega⟩
                      obtain ⟨h1, h2, h3⟩ := HF0.out h
                      refine ⟨by omega, by rw [HSN.out, h2], fun i hi => ?_⟩
                      by_cases hik : i < k
                      · exact h3 i hik
                      · obtain rfl : i = k := by omega
                        exact (HGK.out h).1 HALL.out
                · have HBD := Lib.hid (show f = 0 → ∃ i, i < m ∧ goodAt ps i = false from fun h => by
                    refine HBADK.out ?_
                    cases hg : goodAt ps k with
                    | false => rfl
                    | true =>
                      obtain ⟨i, hi, h2⟩ := hex
                      exact absurd ((HGK.out h).2 hg i hi) h2)
                  have HB4 := Lib.hid (below_drewN HB3w.out nd)
                  have hK4 : KP (w3.drewN nd) g B (.slice Ak n ck) n qs ss := HK3.out.later (by omega) (below_drewN (Below.refl _ _) nd)
                  have HK4 := Lib.hid hK4
                  clear hex hK4 HK3 HP3 HB3w HRK3 HRP3 c0 c1 c2 c3 c4
                  by_cases hqn : q < n
                  · by_cases hf : f = 0
                    · have HBD2 := Lib.hid (HBD.out hf)
                      subst hf
                      go_wp2_with fail
                      exact ⟨⟨k + 1, n, qs, ss, Ak, ck, 3, by omega, by omega, by go_num, rfl, rfl, fun h => absurd h (by decide), fun _ => HBD2.out, HK4.out, HB4.out⟩, by simp [intOf]; omega⟩
                    · have hfb : (f == 0) = false := by simp [hf]
                      have HF := Lib.hid hf
                      clear hf
                      go_wp2_with fail
                      exact ⟨⟨k + 1, n, qs, ss, Ak, ck, f, by omega, by omega, by go_num, rfl, rfl, fun h => absurd h HF.out, fun h => HF1.out h, HK4.out, HB4.out⟩, by simp [intOf]; omega⟩
                  · by_cases hf : f = 0
                    · have HBD2 := Lib.hid (HBD.out hf)
                      subst hf
                      go_wp2_with fail
                      exact ⟨⟨k + 1, n, qs, ss, Ak, ck, 3, by omega, by omega, by go_num, rfl, rfl, fun h => absurd h (by decide), fun _ => HBD2.out, HK4.out, HB4.out⟩, by simp [intOf]; omega⟩
                    · have hfb : (f == 0) = false := by simp [hf]
                      have HF := Lib.hid hf
                      clear hf
                      go_wp2_with fail
                      exact ⟨⟨k + 1, n, qs, ss, Ak, ck, f, by omega, by omega, by go_num, rfl, rfl, fun h => absurd h HF.out, fun h => HF1.out h, HK4.out, HB4.out⟩, by simp [intOf]; omega⟩
            · have d4 : (pk.id != id0) = true := by simp [hidk]
              have hbad : goodAt ps k = false := by rw [HGA.out, beq_false_of_ne hidk]; simp
              go_wp2_with fail
              have HBD := Lib.hid (HBADK.out hbad)
              have HK3 := Lib.hid (HKP.out.later (by omega) HB3.out)
              have HB3w := Lib.hid (HB.out.trans (HB3.out.mono hsz))
              clear hbad HGA HKC HRK HCK HOK HD HSN HP3 HKP HB HB3 c0
              go_loopw [11, 12] (fun ev iv wx => ev = .int .i64 4 ∧ iv = .int .i64 0 ∧ wx = w3) (fun _ _ _ => 0)
              case atStart => exact ⟨rfl, rfl, rfl⟩
              case round =>
                obtain ⟨rfl, rfl, rfl⟩ := hrel
                by_cases hn0 : n = 0
                · subst hn0
                  by_cases hf : f = 0
                  · have HF := Lib.hid hf
                    subst hf
                    go_wp2_with fail
                    exact ⟨⟨k + 1, 0, qs, ss, Ak, ck, 4, by omega, by omega, by go_num, rfl, rfl, fun h => absurd h (by decide), fun _ => HBD.out, HK3.out, HB3w.out⟩, by simp [intOf]; omega⟩
                  · have hfb : (f == 0) = false := by simp [hf]
                    have HF := Lib.hid hf
                    clear hf
                    go_wp2_with fail
                    exact ⟨⟨k + 1, 0, qs, ss, Ak, ck, f, by omega, by omega, by go_num, rfl, rfl, fun h => absurd h HF.out, fun _ => HBD.out, HK3.out, HB3w.out⟩, by simp [intOf]; omega⟩
                · have hn1 : 0 < n := by omega
                  by_cases hf : f = 0
                  · have HF := Lib.hid hf
                    subst hf
                    go_wp2_with fail
                    exact ⟨⟨k + 1, n, qs, ss, Ak, ck, 4, by omega, by omega, by go_num, rfl, rfl, fun h => absurd h (by decide), fun _ => HBD.out, HK3.out, HB3w.out⟩, by simp [intOf]; omega⟩
                  · have hfb : (f == 0) = false := by simp [hf]
                    have HF := Lib.hid hf
                    clear hf
                    go_wp2_with fail
                    exact ⟨⟨k + 1, n, qs, ss, Ak, ck, f, by omega, by omega, by go_num, rfl, rfl, fun h => absurd h HF.out, fun _ => HBD.out, HK3.out, HB3w.out⟩, by simp [intOf]; omega⟩
          · have d2 : (pk.chk != 0) = true := by simp [hch]
            have hbad : goodAt ps k = false := by rw [HGA.out, beq_false_of_ne hch]; simp
            go_wp2_with fail
            have HBD := Lib.hid (HBADK.out hbad)
            have HK3 := Lib.hid (HKP.out.later (by omega) HB3.out)
            have HB3w := Lib.hid (HB.out.trans (HB3.out.mono hsz))
            clear hbad HGA HKC HRK HCK HOK HD HSN HP3 HKP HB HB3 c0
            go_loopw [11, 12] (fun ev iv wx => ev = .int .i64 3 ∧ iv = .int .i64 0 ∧ wx = w3) (fun _ _ _ => 0)
            case atStart => exact ⟨rfl, rfl, rfl⟩
            case round =>
              obtain ⟨rfl, rfl, rfl⟩ := hrel
              by_cases hn0 : n = 0
              · subst hn0
                by_cases hf : f = 0
                · have HF := Lib.hid hf
                  subst hf
                  go_wp2_with fail
                  exact ⟨⟨k + 1, 0, qs, ss, Ak, ck, 3, by omega, by omega, by go_num, rfl, rfl, fun h => absurd h (by decide), fun _ => HBD.out, HK3.out, HB3w.out⟩, by simp [intOf]; omega⟩
                · have hfb : (f == 0) = false := by simp [hf]
                  have HF := Lib.hid hf
                  clear hf
                  go_wp2_with fail
                  exact ⟨⟨k + 1, 0, qs, ss, Ak, ck, f, by omega, by omega, by go_num, rfl, rfl, fun h => absurd h HF.out, fun _ => HBD.out, HK3.out, HB3w.out⟩, by simp [intOf]; omega⟩
              · have hn1 : 0 < n := by omega
                by_cases hf : f = 0
                · have HF := Lib.hid hf
                  subst hf
                  go_wp2_with fail
                  exact ⟨⟨k + 1, n, qs, ss, Ak, ck, 3, by omega, by omega, by go_num, rfl, rfl, fun h => absurd h (by decide), fun _ => HBD.out, HK3.out, HB3w.out⟩, by simp [intOf]; omega⟩
                · have hfb : (f == 0) = false := by simp [hf]
                  have HF := Lib.hid hf
                  clear hf
                  go_wp2_with fail
                  exact ⟨⟨k + 1, n, qs, ss, Ak, ck, f, by omega, by omega, by go_num, rfl, rfl, fun h => absurd h HF.out, fun _ => HBD.out, HK3.out, HB3w.out⟩, by simp [intOf]; omega⟩
        · have d3 : (pk.k != 1) = true := by simp [hkd]
          have hbad : goodAt ps k = false := by rw [HGA.out, beq_false_of_ne hkd]; simp
          obtain ⟨w3, hw3⟩ : ∃ w3, wr.alloc (.cells #[.int .u8 pk.k, .int .u64 pk.id, .int .i64 pk.ix, .int .i64 pk.ct, .slice Ai ni ci] 47) = w3 := ⟨_, rfl⟩
          have HW3 := Lib.hid hw3
          have HP3 := Lib.hid (show PBlk w3 wr.heap.size pk (.slice Ai ni ci) from by rw [← HW3.out]; exact HPN.out)
          have HB3 := Lib.hid (show Below wr.heap.size wr w3 from by rw [← HW3.out]; exact HBA.out)
          clear hw3
          go_wp2_with fail
          rw [HW3.out]
          clear HPN HBA a0' a1' a2' a3' a4'
          have HBD := Lib.hid (HBADK.out hbad)
          have HK3 := Lib.hid (HKP.out.later (by omega) HB3.out)
          have HB3w := Lib.hid (HB.out.trans (HB3.out.mono hsz))
          clear hbad HGA HKC HRK HCK HOK HD HSN HP3 HKP HB HB3 c0
          go_loopw [11, 12] (fun ev iv wx => ev = .int .i64 3 ∧ iv = .int .i64 0 ∧ wx = w3) (fun _ _ _ => 0)
          case atStart => exact ⟨rfl, rfl, rfl⟩
          case round =>
            obtain ⟨rfl, rfl, rfl⟩ := hrel
            by_cases hn0 : n = 0
            · subst hn0
              by_cases hf : f = 0
              · have HF := Lib.hid hf
                subst hf
                go_wp2_with fail
                exact ⟨⟨k + 1, 0, qs, ss, Ak, ck, 3, by omega, by omega, by go_num, rfl, rfl, fun h => absurd h (by decide), fun _ => HBD.out, HK3.out, HB3w.out⟩, by simp [intOf]; omega⟩
              · have hfb : (f == 0) = false := by simp [hf]
                have HF := Lib.hid hf
                clear hf
                go_wp2_with fail
                exact ⟨⟨k + 1, 0, qs, ss, Ak, ck, f, by omega, by omega, by go_num, rfl, rfl, fun h => absurd h HF.out, fun _ => HBD.out, HK3.out, HB3w.out⟩, by simp [intOf]; omega⟩
            · have hn1 : 0 < n := by omega
              by_cases hf : f = 0
              · have HF := Lib.hid hf
                subst hf
                go_wp2_with fail
                exact ⟨⟨k + 1, n, qs, ss, Ak, ck, 3, by omega, by omega, by go_num, rfl, rfl, fun h => absurd h (by decide), fun _ => HBD.out, HK3.out, HB3w.out⟩, by simp [intOf]; omega⟩
              · have hfb : (f == 0) = false := by simp [hf]
                have HF := Lib.hid hf
                clear hf
                go_wp2_with fail
                exact ⟨⟨k + 1, n, qs, ss, Ak, ck, f, by omega, by omega, by go_num, rfl, rfl, fun h => absurd h HF.out, fun _ => HBD.out, HK3.out, HB3w.out⟩, by simp [intOf]; omega⟩
      · obtain rfl : k = m := by omega
        clear hlt
        go_wp2_with fail
        go_ret2
        rw [TakePost, HG.out]
        refine ⟨Ak, n, ck, qs, ss, f, rfl, HKP.out, HB.out, fun h => ?_, fun h hf => ?_⟩
        · by_cases hf : f = 0
          · obtain ⟨_, h2, _⟩ := HF0.out hf
            exact ⟨hf, by rw [h2, List.take_of_length_le (by rw [HL.out]; exact Nat.le_refl _)]⟩
          · obtain ⟨i, hi, h2⟩ := HF1.out hf
            rw [allGood_iff.1 h i (by rw [HL.out]; exact hi)] at h2
            cases h2
        · have : allGood ps = true := allGood_iff.2 (fun i hi => (HF0.out hf).2.2 i (by rw [← HL.out]; exact hi))
          rw [this] at h
          cases h
end Go.Proofs.Ytgdelilanackhaa
