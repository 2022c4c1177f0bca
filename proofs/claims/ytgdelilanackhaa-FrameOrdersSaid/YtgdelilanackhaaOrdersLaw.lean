/-
  The walk of shallotlaw11.FrameOrders: it returns true; nothing that was there has turned. Conditions: the sizes that slices can have; the numbers fit their types.
-/
import Derived.Test.YtgdelilanackhaaFrmAwake
import Derived.Test.YtgdelilanackhaaOrders
import Derived.Test.YtgdelilanackhaaMerge
import Derived.Test.YtgdelilanackhaaUntil
namespace Go.Proofs.Ytgdelilanackhaa
open Go Go.RowKit Go.Sh

theorem op_some {w : World} {base m c : Nat} {A : Option Addr} {ps : List Pt} {ss : List Value} (h : OP w base (.slice A m c) m ps ss) (hm : 0 < m) : ∃ g, A = some ⟨g, 0, none⟩ := by
  rcases h.2.2.1.2 with ⟨_, h0⟩ | ⟨g, cap, cur, hv, _⟩
  · omega
  · injection hv with hv
    exact ⟨g, hv⟩
/-- part k: its cells, where they lie -/
theorem OP.cells {w : World} {base m c g : Nat} {ps : List Pt} {ss : List Value} (h : OP w base (.slice (some ⟨g, 0, none⟩) m c) m ps ss) {k : Nat} (hk : k < m) :
    ∃ Ai ni ci, ss[k]? = some (.slice Ai ni ci) ∧ w.ownsRow base 5 1 (.slice Ai ni ci) ni (bv (pat ps k).d) ∧ w.cell? ⟨g, k * 5, none⟩ = some (.int .u8 (pat ps k).k) ∧ w.cell? ⟨g, k * 5 + 1, none⟩ = some (.int .u64 (pat ps k).id) ∧ w.cell? ⟨g, k * 5 + 2, none⟩ = some (.int .i64 (pat ps k).ix) ∧ w.cell? ⟨g, k * 5 + 3, none⟩ = some (.int .i64 (pat ps k).ct) ∧ w.cell? ⟨g, k * 5 + 4, none⟩ = some (.slice Ai ni ci) := by
  obtain ⟨h1, h2, h3, h4⟩ := h
  obtain ⟨Ai, ni, ci, h5, h6⟩ := h4 k hk
  have hat : ∀ j v, (pcell (pat ps k) (.slice Ai ni ci))[j]? = some v → w.cell? ⟨g, k * 5 + j, none⟩ = some v := by
    intro j v hv
    have hc := h3.cells (g := g) rfl (k * 5 + j) v (pcells_at ps ss k j _ v (by omega) h5 hv)
    rw [add_mk, Nat.zero_add] at hc
    exact hc
  exact ⟨Ai, ni, ci, h5, h6, hat 0 _ rfl, hat 1 _ rfl, hat 2 _ rfl, hat 3 _ rfl, hat 4 _ rfl⟩

set_option maxHeartbeats 4000000 in
set_option maxRecDepth 100000 in
theorem FrameOrders_walk (id : Int) (A : Option Addr) (n c : Nat) (l : List UInt8) (A2 : Option Addr) (n2 c2 : Nat) (zz : List Int) (w : World) (hid : 0 ≤ id ∧ id ≤ 18446744073709551615) (hr : RB w w.heap.size A n l) (hn : n ≤ 140737488355328) (hz : RI w w.heap.size A2 n2 zz) (hn2 : n2 ≤ 140737488355328) (hc : n ≤ c) :
    Calls Try.prog 5 #[.int .u64 id, .slice A n c, .slice A2 n2 c2] w (LawPost w) := by
  have HID := Lib.hid hid
  have HR := Lib.hid hr
  have HZ := Lib.hid hz
  clear hr hz hid
  by_cases hbig : 7200 < n
  · have HRT := Lib.hid (HR.out.take (k := 7200) (by omega))
    have hsl : ∀ W, (Instr.slice 23 (.slice A n c) none (some (.int .i64 7200)) none).run Try.prog W = .ok (.slice A 7200 c) W := fun W => run_sl_hi TB W A n c .i64 7200 (by omega)
    have hc7 : 7200 ≤ c := by omega
    generalize l.take 7200 = lt at *
    generalize hnt : (7200 : Nat) = nt at HRT hc7
    have hnt7 : nt ≤ 7200 := by omega
    have hbi : (7200 : Int) < (n : Int) := by omega
    obtain ⟨f1, f2, f3, f4, f5, f6, f7⟩ := splN_facts (n := nt) hnt7
    have HSP := Lib.hid (show ∀ A c w B, RB w B A nt lt → B ≤ w.heap.size → nt ≤ c → Calls Try.prog 10 #[.int .u64 id, .slice A nt c] w (RetPE w ((List.range (splN nt)).map (splP id lt (splN nt))) 0) from fun A c w B hr hB hc => by
      have h := Split_any id A nt c lt w B hr hB hc (by omega)
      rw [show splE nt = 0 by rw [splE, if_neg (by omega)], show splL id lt = (List.range (splN nt)).map (splP id lt (splN nt)) by rw [splL, hr.len, if_neg (by omega)]] at h
      exact h)
    have hlm : lt.length ≤ splN nt * 450 := by rw [HRT.out.len]; exact f6
    have HIP := Lib.hid (IsPerm.init id lt (splN nt))
    generalize splN nt = m at *
    have HMG := Lib.hid (fun qs (h : IsPerm id lt m qs) => h.mrg (by omega) (by omega) hlm)
    have HMC := Lib.hid (show ∀ (A : Option Addr) (c : Nat) (qs : List Pt) (ss : List Value) (w : World) (base : Nat), IsPerm id lt m qs → OP w base (.slice A m c) m qs ss → Calls Try.prog 16 #[.slice A m c] w (RetBE w lt 0) from fun A c qs ss w base h o => by
      have h1 := Merge_any A m c qs w w.heap.size (RP.of_own o) (Nat.le_refl _) (by omega) (h.ok (by have := HID.out; omega) (by omega)) (fun p hp => Nat.le_trans (h.small p hp) (by omega))
      rw [(HMG.out qs h).1, (HMG.out qs h).2] at h1
      exact h1)
    clear f1 f2 f5 f6 f7 hlm HMG
    have dm0 : ((m : Int) == 0) = false := by simp; omega
    generalize hgw : w.heap.size = g0 at *
    have HG := Lib.hid hgw
    have hzw : g0 ≤ w.heap.size := by omega
    clear hgw
    go_enter Try.func5, Try.ntmps5
    go_wp2_with fail
    refine (awake_any w).mono ?_
    rintro e w1 ⟨rfl, hb⟩
    rw [HG.out] at hb
    have HB1 := Lib.hid hb
    have hz1 := hb.size
    clear hb
    go_wp2_with fail
    refine (Copy_any A nt c lt w1 g0 (HRT.out.below HB1.out) (by omega) (by omega)).mono ?_
    rintro e w2 ⟨g2, cc2, rfl, ho, hb⟩
    have HO2 := Lib.hid ho
    have HB2 := Lib.hid (HB1.out.trans (hb.mono (by omega)))
    have hz2 := hb.size
    clear ho hb HB1
    go_wp2_with fail
    refine (HSP.out _ cc2 w2 w2.heap.size (RB.of_own HO2.out) (Nat.le_refl _) (own_cap HO2.out)).mono ?_
    rintro e w3 ⟨A3, m3, c3, ss3, rfl, ho, hb⟩
    have hm3 : m = m3 := by rw [← ho.1]; simp
    subst hm3
    obtain ⟨g3, rfl⟩ := op_some ho (by omega)
    have HO3 := Lib.hid (ho.base_le (show g0 ≤ w2.heap.size by omega))
    have HB3 := Lib.hid (HB2.out.trans (hb.mono (by omega)))
    have hz3 := hb.size
    clear ho hb HB2 HO2
    go_wp2_with fail
    go_loopw [37] (fun i wr => ∃ (k : Nat) (qs : List Pt) (ss : List Value), k ≤ n2 ∧ i = .int .i64 (k : Int) ∧ IsPerm id lt m qs ∧ OP wr g0 (.slice (some ⟨g3, 0, none⟩) m c3) m qs ss ∧ Below g0 w wr) (fun i _ => n2 - (intOf i).toNat)
    case atStart => exact ⟨0, _, ss3, by omega, rfl, HIP.out, HO3.out, HB3.out⟩
    case round =>
      obtain ⟨k, qs, ss, hk, rfl, hp, ho, hb⟩ := hrel
      have HP := Lib.hid hp
      have HO := Lib.hid ho
      have HB := Lib.hid hb
      have hzr := hb.size
      clear hp ho hb HO3 HB3 HIP
      by_cases hlt : k < n2
      · obtain ⟨ad2, rfl, hab2, hzc, hz1', hz2'⟩ := (RI.below HZ.out HB.out).at_ hlt
        have hra : (k : Int).tmod (m : Int) = ((k % m : Nat) : Int) := by rw [Int.tmod_eq_emod_of_nonneg (by omega)]; simp
        have ha : k % m < m := Nat.mod_lt _ (by omega)
        generalize hza : it zz k = z at *
        clear hza
        by_cases hz0 : 0 ≤ z
        · have hrb : z.tmod (m : Int) = ((z.toNat % m : Nat) : Int) := by rw [Int.tmod_eq_emod_of_nonneg hz0, Int.natCast_emod, Int.toNat_of_nonneg hz0]
          have hb : z.toNat % m < m := Nat.mod_lt _ (by omega)
          generalize z.toNat % m = b at *
          generalize k % m = a at *
          obtain ⟨Aa, na, ca, ea, oa, a0, a1, a2, a3, a4⟩ := HO.out.cells ha
          obtain ⟨Ab, nb, cb, eb, ob, b0, b1, b2, b3, b4⟩ := HO.out.cells hb
          obtain ⟨cur, hcur, c1, c2', c3', c4, c5⟩ := own_blk HO.out.2.2.1
          have hz0 : 0 < m := by omega
          have hia : (a : Int) < (m : Int) := by omega
          have hib : (b : Int) < (m : Int) := by omega
          have HPS := Lib.hid (HP.out.swap ha hb)
          have HCUR := Lib.hid hcur
          have HPA := Lib.hid (show ∃ x, x = pat qs a from ⟨_, rfl⟩)
          have hO5 := HO.out.put ha (show wr.drew.heap[g3]? = some (.cells cur 47 (0, 0)) from hcur) (p := pat qs b) (show wr.drew.ownsRow g0 5 1 (.slice Ab nb cb) nb (bv (pat qs b).d) from ob)
          have hob5 : (wr.drew.setRow g3 (cur.toList.take (a * 5) ++ pcell (pat qs b) (.slice Ab nb cb) ++ cur.toList.drop (a * 5 + 5)).toArray).ownsRow g0 5 1 (.slice Aa na ca) na (bv (pat qs a).d) := (show wr.drew.ownsRow g0 5 1 (.slice Aa na ca) na (bv (pat qs a).d) from oa).kept (grown_setRow _ g3 _) (by rcases own_ne oa HO.out.2.2.1 (by decide) with h | h; exact .inl h; exact .inr h)
          have hcur5 : (wr.drew.setRow g3 (cur.toList.take (a * 5) ++ pcell (pat qs b) (.slice Ab nb cb) ++ cur.toList.drop (a * 5 + 5)).toArray).heap[g3]? = some (.cells (cur.toList.take (a * 5) ++ pcell (pat qs b) (.slice Ab nb cb) ++ cur.toList.drop (a * 5 + 5)).toArray 47 (0, 0)) := setRow_heap _ g3 _ _ _ _ hcur
          have hO6 := hO5.put hb hcur5 (p := pat qs a) hob5
          have HO6 := Lib.hid hO6
          have HCUR5 := Lib.hid hcur5
          have HSZ5 := Lib.hid (show (cur.toList.take (a * 5) ++ pcell (pat qs b) (.slice Ab nb cb) ++ cur.toList.drop (a * 5 + 5)).length = c3 * 5 by
            simp only [List.length_append, List.length_take, List.length_drop, Array.length_toList, length_pcell, c4]
            omega)
          clear ea eb oa ob hcur c5 hO5 hO6 hob5 hcur5 HPA
          generalize pat qs a = pa at *
          generalize pat qs b = pb at *
          go_wp2_with fail
          refine wp_region_noPanic ?_
          refine wp_region_until (S := (fun w' => w'.cell? ⟨g3, a * 5, none⟩ = some (.int .u8 pa.k) ∧ w'.cell? ⟨g3, a * 5 + 1, none⟩ = some (.int .u64 pa.id) ∧ w'.cell? ⟨g3, a * 5 + 2, none⟩ = some (.int .i64 pa.ix) ∧ w'.cell? ⟨g3, a * 5 + 3, none⟩ = some (.int .i64 pa.ct) ∧ w'.cell? ⟨g3, a * 5 + 4, none⟩ = some (.slice Aa na ca) ∧ w'.cell? ⟨g3, b * 5, none⟩ = some (.int .u8 pb.k) ∧ w'.cell? ⟨g3, b * 5 + 1, none⟩ = some (.int .u64 pb.id) ∧ w'.cell? ⟨g3, b * 5 + 2, none⟩ = some (.int .i64 pb.ix) ∧ w'.cell? ⟨g3, b * 5 + 3, none⟩ = some (.int .i64 pb.ct) ∧ w'.cell? ⟨g3, b * 5 + 4, none⟩ = some (.slice Ab nb cb))) 13 (by kernel_rfl) ?_ (fun hHeld => ?_)
          · (try dsimp only)
            exact ⟨a0, a1, a2, a3, a4, b0, b1, b2, b3, b4⟩
          refine wpAnyU_takeY (i := 0) (v := ?v1) rfl (by kernel_rfl) (fun _ _ _ h => h) (Or.inl ⟨by rfl, ?y1⟩) (by assumption) ?r1
          case y1 => (intro W; first | (go_simp; done) | (go_simp; with_reducible rfl))
          (try simp only [List.getElem_toArray, List.getElem_cons_zero, Act.put, List.setIfInBounds_toArray, List.set_cons_zero, List.set_cons_succ])
          refine wpAnyU_takeY (i := 1) (v := ?v2) rfl (by kernel_rfl) (fun _ _ _ h => h) (Or.inl ⟨by rfl, ?y2⟩) (by assumption) ?r2
          case y2 => (intro W; first | (go_simp; done) | (go_simp; with_reducible rfl))
          (try simp only [List.getElem_toArray, List.getElem_cons_zero, List.getElem_cons_succ, Act.put, List.setIfInBounds_toArray, List.set_cons_zero, List.set_cons_succ])
          refine wpAnyU_takeY (i := 2) (v := ?v3) rfl (by kernel_rfl) (fun _ _ _ h => h) (Or.inl ⟨by rfl, ?y3⟩) (by assumption) ?r3
          case y3 => (intro W; first | (go_simp; done) | (go_simp; with_reducible rfl))
          (try simp only [List.getElem_toArray, List.getElem_cons_zero, List.getElem_cons_succ, Act.put, List.setIfInBounds_toArray, List.set_cons_zero, List.set_cons_succ])
          refine wpAnyU_takeY (i := 3) (v := ?v4) rfl (by kernel_rfl) (fun _ _ _ h => h) (Or.inl ⟨by rfl, ?y4⟩) (by assumption) ?r4
          case y4 => (intro W; first | (go_simp; done) | (go_simp; with_reducible rfl))
          (try simp only [List.getElem_toArray, List.getElem_cons_zero, List.getElem_cons_succ, Act.put, List.setIfInBounds_toArray, List.set_cons_zero, List.set_cons_succ])
          refine wpAnyU_takeY (i := 4) (v := ?v5) rfl (by kernel_rfl) (fun _ _ _ h => h) (Or.inl ⟨by rfl, ?y5⟩) (by assumption) ?r5
          case y5 => (intro W; first | (go_simp; done) | (go_simp; with_reducible rfl))
          (try simp only [List.getElem_toArray, List.getElem_cons_zero, List.getElem_cons_succ, Act.put, List.setIfInBounds_toArray, List.set_cons_zero, List.set_cons_succ])
          refine wpAnyU_takeY (i := 5) (v := ?v6) rfl (by kernel_rfl) (fun _ _ _ h => h) (Or.inl ⟨by rfl, ?y6⟩) (by assumption) ?r6
          case y6 => (intro W; first | (go_simp; done) | (go_simp; with_reducible rfl))
          (try simp only [List.getElem_toArray, List.getElem_cons_zero, List.getElem_cons_succ, Act.put, List.setIfInBounds_toArray, List.set_cons_zero, List.set_cons_succ])
          refine wpAnyU_takeY (i := 6) (v := ?v7) rfl (by kernel_rfl) (fun _ _ _ h => h) (Or.inl ⟨by rfl, ?y7⟩) (by assumption) ?r7
          case y7 => (intro W; first | (go_simp; done) | (go_simp; with_reducible rfl))
          (try simp only [List.getElem_toArray, List.getElem_cons_zero, List.getElem_cons_succ, Act.put, List.setIfInBounds_toArray, List.set_cons_zero, List.set_cons_succ])
          refine wpAnyU_takeW (i := 7) (v := ?v8) rfl (by kernel_rfl) (fun _ _ _ h => h) (Or.inl ⟨by rfl, ?y8⟩) (by assumption) ?r8
          case y8 => (intro W hSW; (try dsimp only at hSW); first | (go_simp; done) | (go_simp; with_reducible rfl))
          (try simp only [List.getElem_toArray, List.getElem_cons_zero, List.getElem_cons_succ, Act.put, List.setIfInBounds_toArray, List.set_cons_zero, List.set_cons_succ])
          refine wpAnyU_takeY (i := 8) (v := ?v9) rfl (by kernel_rfl) (fun _ _ _ h => h) (Or.inl ⟨by rfl, ?y9⟩) (by assumption) ?r9
          case y9 => (intro W; first | (go_simp; done) | (go_simp; with_reducible rfl))
          (try simp only [List.getElem_toArray, List.getElem_cons_zero, List.getElem_cons_succ, Act.put, List.setIfInBounds_toArray, List.set_cons_zero, List.set_cons_succ])
          refine wpAnyU_takeY (i := 9) (v := ?v10) rfl (by kernel_rfl) (fun _ _ _ h => h) (Or.inl ⟨by rfl, ?y10⟩) (by assumption) ?r10
          case y10 => (intro W; first | (go_simp; done) | (go_simp; with_reducible rfl))
          (try simp only [List.getElem_toArray, List.getElem_cons_zero, List.getElem_cons_succ, Act.put, List.setIfInBounds_toArray, List.set_cons_zero, List.set_cons_succ])
          refine wpAnyU_takeY (i := 10) (v := ?v11) rfl (by kernel_rfl) (fun _ _ _ h => h) (Or.inl ⟨by rfl, ?y11⟩) (by assumption) ?r11
          case y11 => (intro W; first | (go_simp; done) | (go_simp; with_reducible rfl))
          (try simp only [List.getElem_toArray, List.getElem_cons_zero, List.getElem_cons_succ, Act.put, List.setIfInBounds_toArray, List.set_cons_zero, List.set_cons_succ])
          refine wpAnyU_takeW (i := 11) (v := ?v12) rfl (by kernel_rfl) (fun _ _ _ h => h) (Or.inl ⟨by rfl, ?y12⟩) (by assumption) ?r12
          case y12 => (intro W hSW; (try dsimp only at hSW); first | (go_simp; done) | (go_simp; with_reducible rfl))
          (try simp only [List.getElem_toArray, List.getElem_cons_zero, List.getElem_cons_succ, Act.put, List.setIfInBounds_toArray, List.set_cons_zero, List.set_cons_succ])
          refine wpAnyU_takeY (i := 12) (v := ?v13) rfl (by kernel_rfl) (fun _ _ _ h => h) (Or.inl ⟨by rfl, ?y13⟩) (by assumption) ?r13
          case y13 => (intro W; first | (go_simp; done) | (go_simp; with_reducible rfl))
          (try simp only [List.getElem_toArray, List.getElem_cons_zero, List.getElem_cons_succ, Act.put, List.setIfInBounds_toArray, List.set_cons_zero, List.set_cons_succ])
          refine wpAnyU_at (c := 13) rfl (by kernel_rfl) (by rfl) (fun K hK => ?_)
          have HK := Lib.hid hK
          clear hK
          refine wp_store_blk 47 (.tmp 64) (.tmp 59) rfl g3 (a * 5) (pcell pb (.slice Ab nb cb)).toArray rfl rfl cur 47 HCUR.out (by rw [c4]; show a * 5 + 5 ≤ c3 * 5; omega) infoP (pcell_one _ _ _ _) ?_
          refine HK.out _ _ ?_
          clear HK K
          (try simp only [List.getElem_toArray, List.getElem_cons_zero, List.getElem_cons_succ, Act.put])
          refine wpAny_takeY (i := 14) (v := ?v15) rfl (by kernel_rfl) (fun _ _ _ h => h) (Or.inl ⟨by rfl, ?y15⟩) ?r15
          case y15 => (intro W; first | (go_simp; done) | (go_simp; with_reducible rfl))
          (try simp only [List.getElem_toArray, List.getElem_cons_zero, List.getElem_cons_succ, Act.put, List.setIfInBounds_toArray, List.set_cons_zero, List.set_cons_succ])
          refine wpAny_at (c := 15) rfl (by kernel_rfl) (by rfl) (fun K hK => ?_)
          have HK := Lib.hid hK
          clear hK
          refine wp_store_blk 47 (.tmp 65) (.tmp 63) rfl g3 (b * 5) (pcell pa (.slice Aa na ca)).toArray rfl rfl _ 47 HCUR5.out (by have h := HSZ5.out; simp only [List.size_toArray, h, length_pcell]; omega) infoP (pcell_one _ _ _ _) ?_
          refine HK.out _ _ ?_
          clear HK K
          (try simp only [List.getElem_toArray, List.getElem_cons_zero, List.getElem_cons_succ, Act.put])
          refine wpAny_done (by kernel_rfl) ?_ _
          refine NoPanic.normal ?_
          go_wp2_with fail
          refine ⟨⟨k + 1, (qs.set a pb).set b pa, (ss.set a (.slice Ab nb cb)).set b (.slice Aa na ca), by omega, by go_num, HPS.out, ?_, ?_⟩, by simp [intOf]; omega⟩
          · have h := HO6.out
            simp only [List.append_assoc] at h ⊢
            exact h
          · exact below_setRow (below_setRow HB.out.drew c1 _) c1 _
        · have hb : 0 < m := by omega
          generalize k % m = a at *
          obtain ⟨Aa, na, ca, ea, oa, a0, a1, a2, a3, a4⟩ := HO.out.cells ha
          obtain ⟨Ab, nb, cb, eb, ob, b0, b1, b2, b3, b4⟩ := HO.out.cells (k := 0) hb
          obtain ⟨cur, hcur, c1, c2', c3', c4, c5⟩ := own_blk HO.out.2.2.1
          have hz0 : 0 < m := by omega
          have hia : (a : Int) < (m : Int) := by omega
          simp only [Nat.zero_mul, Nat.zero_add] at b0 b1 b2 b3 b4
          have HPS := Lib.hid (HP.out.swap ha hb)
          have HCUR := Lib.hid hcur
          have HPA := Lib.hid (show ∃ x, x = pat qs a from ⟨_, rfl⟩)
          have hO5 := HO.out.put ha (show wr.drew.heap[g3]? = some (.cells cur 47 (0, 0)) from hcur) (p := pat qs 0) (show wr.drew.ownsRow g0 5 1 (.slice Ab nb cb) nb (bv (pat qs 0).d) from ob)
          have hob5 : (wr.drew.setRow g3 (cur.toList.take (a * 5) ++ pcell (pat qs 0) (.slice Ab nb cb) ++ cur.toList.drop (a * 5 + 5)).toArray).ownsRow g0 5 1 (.slice Aa na ca) na (bv (pat qs a).d) := (show wr.drew.ownsRow g0 5 1 (.slice Aa na ca) na (bv (pat qs a).d) from oa).kept (grown_setRow _ g3 _) (by rcases own_ne oa HO.out.2.2.1 (by decide) with h | h; exact .inl h; exact .inr h)
          have hcur5 : (wr.drew.setRow g3 (cur.toList.take (a * 5) ++ pcell (pat qs 0) (.slice Ab nb cb) ++ cur.toList.drop (a * 5 + 5)).toArray).heap[g3]? = some (.cells (cur.toList.take (a * 5) ++ pcell (pat qs 0) (.slice Ab nb cb) ++ cur.toList.drop (a * 5 + 5)).toArray 47 (0, 0)) := setRow_heap _ g3 _ _ _ _ hcur
          have hO6 := hO5.put hb hcur5 (p := pat qs a) hob5
          have HO6 := Lib.hid hO6
          have HCUR5 := Lib.hid hcur5
          have HSZ5 := Lib.hid (show (cur.toList.take (a * 5) ++ pcell (pat qs 0) (.slice Ab nb cb) ++ cur.toList.drop (a * 5 + 5)).length = c3 * 5 by
            simp only [List.length_append, List.length_take, List.length_drop, Array.length_toList, length_pcell, c4]
            omega)
          clear ea eb oa ob hcur c5 hO5 hO6 hob5 hcur5 HPA
          generalize pat qs a = pa at *
          generalize pat qs 0 = pb at *
          go_wp2_with fail
          refine wp_region_noPanic ?_
          refine wp_region_until (S := (fun w' => w'.cell? ⟨g3, a * 5, none⟩ = some (.int .u8 pa.k) ∧ w'.cell? ⟨g3, a * 5 + 1, none⟩ = some (.int .u64 pa.id) ∧ w'.cell? ⟨g3, a * 5 + 2, none⟩ = some (.int .i64 pa.ix) ∧ w'.cell? ⟨g3, a * 5 + 3, none⟩ = some (.int .i64 pa.ct) ∧ w'.cell? ⟨g3, a * 5 + 4, none⟩ = some (.slice Aa na ca) ∧ w'.cell? ⟨g3, 0, none⟩ = some (.int .u8 pb.k) ∧ w'.cell? ⟨g3, 1, none⟩ = some (.int .u64 pb.id) ∧ w'.cell? ⟨g3, 2, none⟩ = some (.int .i64 pb.ix) ∧ w'.cell? ⟨g3, 3, none⟩ = some (.int .i64 pb.ct) ∧ w'.cell? ⟨g3, 4, none⟩ = some (.slice Ab nb cb))) 13 (by kernel_rfl) ?_ (fun hHeld => ?_)
          · (try dsimp only)
            exact ⟨a0, a1, a2, a3, a4, b0, b1, b2, b3, b4⟩
          refine wpAnyU_takeY (i := 0) (v := ?v17) rfl (by kernel_rfl) (fun _ _ _ h => h) (Or.inl ⟨by rfl, ?y17⟩) (by assumption) ?r17
          case y17 => (intro W; first | (go_simp; done) | (go_simp; with_reducible rfl))
          (try simp only [List.getElem_toArray, List.getElem_cons_zero, Act.put, List.setIfInBounds_toArray, List.set_cons_zero, List.set_cons_succ])
          refine wpAnyU_takeY (i := 1) (v := ?v18) rfl (by kernel_rfl) (fun _ _ _ h => h) (Or.inl ⟨by rfl, ?y18⟩) (by assumption) ?r18
          case y18 => (intro W; first | (go_simp; done) | (go_simp; with_reducible rfl))
          (try simp only [List.getElem_toArray, List.getElem_cons_zero, List.getElem_cons_succ, Act.put, List.setIfInBounds_toArray, List.set_cons_zero, List.set_cons_succ])
          refine wpAnyU_takeY (i := 2) (v := ?v19) rfl (by kernel_rfl) (fun _ _ _ h => h) (Or.inl ⟨by rfl, ?y19⟩) (by assumption) ?r19
          case y19 => (intro W; first | (go_simp; done) | (go_simp; with_reducible rfl))
          (try simp only [List.getElem_toArray, List.getElem_cons_zero, List.getElem_cons_succ, Act.put, List.setIfInBounds_toArray, List.set_cons_zero, List.set_cons_succ])
          refine wpAnyU_takeY (i := 3) (v := ?v20) rfl (by kernel_rfl) (fun _ _ _ h => h) (Or.inl ⟨by rfl, ?y20⟩) (by assumption) ?r20
          case y20 => (intro W; first | (go_simp; done) | (go_simp; with_reducible rfl))
          (try simp only [List.getElem_toArray, List.getElem_cons_zero, List.getElem_cons_succ, Act.put, List.setIfInBounds_toArray, List.set_cons_zero, List.set_cons_succ])
          refine wpAnyU_takeY (i := 4) (v := ?v21) rfl (by kernel_rfl) (fun _ _ _ h => h) (Or.inl ⟨by rfl, ?y21⟩) (by assumption) ?r21
          case y21 => (intro W; first | (go_simp; done) | (go_simp; with_reducible rfl))
          (try simp only [List.getElem_toArray, List.getElem_cons_zero, List.getElem_cons_succ, Act.put, List.setIfInBounds_toArray, List.set_cons_zero, List.set_cons_succ])
          refine wpAnyU_takeY (i := 5) (v := ?v22) rfl (by kernel_rfl) (fun _ _ _ h => h) (Or.inl ⟨by rfl, ?y22⟩) (by assumption) ?r22
          case y22 => (intro W; first | (go_simp; done) | (go_simp; with_reducible rfl))
          (try simp only [List.getElem_toArray, List.getElem_cons_zero, List.getElem_cons_succ, Act.put, List.setIfInBounds_toArray, List.set_cons_zero, List.set_cons_succ])
          refine wpAnyU_takeY (i := 6) (v := ?v23) rfl (by kernel_rfl) (fun _ _ _ h => h) (Or.inl ⟨by rfl, ?y23⟩) (by assumption) ?r23
          case y23 => (intro W; first | (go_simp; done) | (go_simp; with_reducible rfl))
          (try simp only [List.getElem_toArray, List.getElem_cons_zero, List.getElem_cons_succ, Act.put, List.setIfInBounds_toArray, List.set_cons_zero, List.set_cons_succ])
          refine wpAnyU_takeW (i := 7) (v := ?v24) rfl (by kernel_rfl) (fun _ _ _ h => h) (Or.inl ⟨by rfl, ?y24⟩) (by assumption) ?r24
          case y24 => (intro W hSW; (try dsimp only at hSW); first | (go_simp; done) | (go_simp; with_reducible rfl))
          (try simp only [List.getElem_toArray, List.getElem_cons_zero, List.getElem_cons_succ, Act.put, List.setIfInBounds_toArray, List.set_cons_zero, List.set_cons_succ])
          refine wpAnyU_takeY (i := 8) (v := ?v25) rfl (by kernel_rfl) (fun _ _ _ h => h) (Or.inl ⟨by rfl, ?y25⟩) (by assumption) ?r25
          case y25 => (intro W; first | (go_simp; done) | (go_simp; with_reducible rfl))
          (try simp only [List.getElem_toArray, List.getElem_cons_zero, List.getElem_cons_succ, Act.put, List.setIfInBounds_toArray, List.set_cons_zero, List.set_cons_succ])
          refine wpAnyU_takeY (i := 9) (v := ?v26) rfl (by kernel_rfl) (fun _ _ _ h => h) (Or.inl ⟨by rfl, ?y26⟩) (by assumption) ?r26
          case y26 => (intro W; first | (go_simp; done) | (go_simp; with_reducible rfl))
          (try simp only [List.getElem_toArray, List.getElem_cons_zero, List.getElem_cons_succ, Act.put, List.setIfInBounds_toArray, List.set_cons_zero, List.set_cons_succ])
          refine wpAnyU_takeY (i := 10) (v := ?v27) rfl (by kernel_rfl) (fun _ _ _ h => h) (Or.inl ⟨by rfl, ?y27⟩) (by assumption) ?r27
          case y27 => (intro W; first | (go_simp; done) | (go_simp; with_reducible rfl))
          (try simp only [List.getElem_toArray, List.getElem_cons_zero, List.getElem_cons_succ, Act.put, List.setIfInBounds_toArray, List.set_cons_zero, List.set_cons_succ])
          refine wpAnyU_takeW (i := 11) (v := ?v28) rfl (by kernel_rfl) (fun _ _ _ h => h) (Or.inl ⟨by rfl, ?y28⟩) (by assumption) ?r28
          case y28 => (intro W hSW; (try dsimp only at hSW); first | (go_simp; done) | (go_simp; with_reducible rfl))
          (try simp only [List.getElem_toArray, List.getElem_cons_zero, List.getElem_cons_succ, Act.put, List.setIfInBounds_toArray, List.set_cons_zero, List.set_cons_succ])
          refine wpAnyU_takeY (i := 12) (v := ?v29) rfl (by kernel_rfl) (fun _ _ _ h => h) (Or.inl ⟨by rfl, ?y29⟩) (by assumption) ?r29
          case y29 => (intro W; first | (go_simp; done) | (go_simp; with_reducible rfl))
          (try simp only [List.getElem_toArray, List.getElem_cons_zero, List.getElem_cons_succ, Act.put, List.setIfInBounds_toArray, List.set_cons_zero, List.set_cons_succ])
          refine wpAnyU_at (c := 13) rfl (by kernel_rfl) (by rfl) (fun K hK => ?_)
          have HK := Lib.hid hK
          clear hK
          refine wp_store_blk 47 (.tmp 64) (.tmp 59) rfl g3 (a * 5) (pcell pb (.slice Ab nb cb)).toArray rfl rfl cur 47 HCUR.out (by rw [c4]; show a * 5 + 5 ≤ c3 * 5; omega) infoP (pcell_one _ _ _ _) ?_
          refine HK.out _ _ ?_
          clear HK K
          (try simp only [List.getElem_toArray, List.getElem_cons_zero, List.getElem_cons_succ, Act.put])
          refine wpAny_takeY (i := 14) (v := ?v31) rfl (by kernel_rfl) (fun _ _ _ h => h) (Or.inl ⟨by rfl, ?y31⟩) ?r31
          case y31 => (intro W; first | (go_simp; done) | (go_simp; with_reducible rfl))
          (try simp only [List.getElem_toArray, List.getElem_cons_zero, List.getElem_cons_succ, Act.put, List.setIfInBounds_toArray, List.set_cons_zero, List.set_cons_succ])
          refine wpAny_at (c := 15) rfl (by kernel_rfl) (by rfl) (fun K hK => ?_)
          have HK := Lib.hid hK
          clear hK
          refine wp_store_blk 47 (.tmp 65) (.tmp 63) rfl g3 (0 * 5) (pcell pa (.slice Aa na ca)).toArray rfl rfl _ 47 HCUR5.out (by have h := HSZ5.out; simp only [List.size_toArray, h, length_pcell]; omega) infoP (pcell_one _ _ _ _) ?_
          refine HK.out _ _ ?_
          clear HK K
          (try simp only [List.getElem_toArray, List.getElem_cons_zero, List.getElem_cons_succ, Act.put])
          refine wpAny_done (by kernel_rfl) ?_ _
          refine NoPanic.normal ?_
          go_wp2_with fail
          refine ⟨⟨k + 1, (qs.set a pb).set 0 pa, (ss.set a (.slice Ab nb cb)).set 0 (.slice Aa na ca), by omega, by go_num, HPS.out, ?_, ?_⟩, by simp [intOf]; omega⟩
          · have h := HO6.out
            simp only [List.append_assoc] at h ⊢
            exact h
          · exact below_setRow (below_setRow HB.out.drew c1 _) c1 _
      · obtain rfl : k = n2 := by omega
        clear hlt
        go_wp2_with fail
        refine (HMC.out _ c3 qs ss wr g0 HP.out HO.out).mono ?_
        rintro e w4 ⟨A4, n4, c4, rfl, hl4, ho4, hb4⟩
        have hn4 : n4 = nt := by rw [← hl4, HRT.out.len]
        subst hn4
        have HO4 := Lib.hid (HO.out.later hb4)
        have HR4 := Lib.hid (RB.of_own ho4)
        have hzr0 : g0 ≤ wr.heap.size := by omega
        have HB4 := Lib.hid (HB.out.trans (hb4.mono hzr0))
        have hz4 := hb4.size
        clear ho4 hb4 hl4 HO HB
        go_wp2_with fail
        refine (Equal_any A4 A n4 n4 c4 c lt lt w4 _ _ HR4.out (HRT.out.below HB4.out) (by omega)).mono ?_
        rintro e w5 h5
        obtain ⟨rfl, hb5⟩ := h5.below
        rw [show decide (lt = lt) = true by simp]
        have HO5 := Lib.hid (HO4.out.later hb5)
        have HB5 := Lib.hid (HB4.out.trans (hb5.mono (by omega)))
        have hz5 := hb5.size
        clear h5 hb5 HO4 HB4 HR4
        obtain ⟨A6, hA6⟩ : ∃ A6, (if c3 = 1 then some (⟨g3, 0, none⟩ : Addr) else (some (⟨g3, 0, none⟩ : Addr)).map (·.add (1 * 5))) = A6 := ⟨_, rfl⟩
        have hcap : m ≤ c3 := own_cap HO5.out.2.2.1
        have hsl2 : ∀ W, (Instr.slice 25 (.slice (some ⟨g3, 0, none⟩) m c3) (some (.int .i64 1)) none none).run Try.prog W = .ok (.slice A6 (m - 1) (c3 - 1)) W := fun W => by
          rw [← hA6]
          exact run_sl_lo TP W (some ⟨g3, 0, none⟩) m c3 .i64 1 (by omega)
        have HR5 := Lib.hid (show RP w5 w5.heap.size A6 (m - 1) (qs.drop 1) from by
          rw [← hA6]
          exact RP.cut (RP.of_own HO5.out) (by omega) hcap)
        have HM6 := Lib.hid (show Calls Try.prog 16 #[.slice A6 (m - 1) (c3 - 1)] w5 (RetBE w5 (mrgL (qs.drop 1)) 2) from by
          have h1 := Merge_any A6 (m - 1) (c3 - 1) (qs.drop 1) w5 w5.heap.size HR5.out (Nat.le_refl _) (by omega) (fun p hp => HP.out.ok (by have := HID.out; omega) (by omega) p (List.mem_of_mem_drop hp)) (fun p hp => Nat.le_trans (HP.out.small p (List.mem_of_mem_drop hp)) (by omega))
          rw [HP.out.lacks] at h1
          exact h1)
        clear hA6 HR5
        go_wp2_with fail
        refine HM6.out.mono ?_
        rintro e w7 ⟨A7, n7, c7, rfl, _, _, hb7⟩
        have HO7 := Lib.hid (HO5.out.later hb7)
        have HB7 := Lib.hid (HB5.out.trans (hb7.mono (by omega)))
        have hz7 := hb7.size
        clear hb7 HO5 HB5 HM6 hsl2
        by_cases hm1 : 1 < m
        · obtain ⟨Ab, nb, cb, eb, ob, b0, b1, b2, b3, b4⟩ := HO7.out.cells (k := 1) hm1
          obtain ⟨cur, hcur, d1, d2, d3, d4, _⟩ := own_blk HO7.out.2.2.1
          have b0' : w7.cell? ⟨g3, 5, none⟩ = some (.int .u8 (pat qs 1).k) := b0
          have b1' : w7.cell? ⟨g3, 6, none⟩ = some (.int .u64 (pat qs 1).id) := b1
          have b2' : w7.cell? ⟨g3, 7, none⟩ = some (.int .i64 (pat qs 1).ix) := b2
          have b3' : w7.cell? ⟨g3, 8, none⟩ = some (.int .i64 (pat qs 1).ct) := b3
          have b4' : w7.cell? ⟨g3, 9, none⟩ = some (.slice Ab nb cb) := b4
          have hO8 := HO7.out.put (k := 0) (by omega) hcur (p := pat qs 1) ob
          have HTW := Lib.hid (HP.out.twice hm1)
          have HSM := Lib.hid (show ∀ p ∈ qs.set 0 (pat qs 1), p.OK ∧ p.d.length ≤ 450 from fun p hp => by
            have h : p ∈ qs := by
              rcases List.mem_or_eq_of_mem_set hp with h | h
              · exact h
              · rw [h]; exact pat_mem (by rw [HP.out.1]; exact hm1)
            exact ⟨HP.out.ok (by have := HID.out; omega) (by omega) p h, HP.out.small p h⟩)
          have HO8 := Lib.hid hO8
          have HCUR := Lib.hid hcur
          clear b0 b1 b2 b3 b4 eb ob hcur hO8
          generalize hp1 : pat qs 1 = p1 at *
          clear hp1
          have hm1i : (1 : Int) < (m : Int) := by omega
          have hm0i : (0 : Int) < (m : Int) := by omega
          go_wp2_with (refine wl_store_blk rfl 47 (.tmp 95) (.tmp 94) rfl g3 (0 * 5) (pcell p1 (.slice Ab nb cb)).toArray rfl rfl cur 47 HCUR.out (by rw [d4]; show 0 * 5 + 5 ≤ c3 * 5; omega) infoP (pcell_one _ _ _ _) ?_)
          have h8 := HO8.out
          have hb8 : Below g0 w (w7.setRow g3 (pcell p1 (.slice Ab nb cb) ++ List.drop (pcell p1 (.slice Ab nb cb)).length cur.toList).toArray) := below_setRow HB7.out d1 _
          have hO9 : OP (w7.setRow g3 (pcell p1 (.slice Ab nb cb) ++ List.drop (pcell p1 (.slice Ab nb cb)).length cur.toList).toArray) g0 (.slice (some ⟨g3, 0, none⟩) m c3) m (qs.set 0 p1) (ss.set 0 (.slice Ab nb cb)) := by
            simp only [Nat.zero_mul, Nat.zero_add, List.take_zero, List.nil_append] at h8
            exact h8
          have hM9 := Merge_any (some ⟨g3, 0, none⟩) m c3 (qs.set 0 p1) _ _ (RP.of_own hO9) (Nat.le_refl _) (by omega) (fun p hp => (HSM.out p hp).1) (fun p hp => Nat.le_trans (HSM.out p hp).2 (by omega))
          rw [HTW.out] at hM9
          have HM9 := Lib.hid hM9
          have HB9 := Lib.hid hb8
          clear h8 hb8 hO9 hM9 HO8 HCUR b0' b1' b2' b3' b4'
          refine HM9.out.mono ?_
          rintro e w9 ⟨A9, n9, c9, rfl, _, _, hb9⟩
          have HB10 := Lib.hid (HB9.out.trans (hb9.mono (by rw [size_setRow]; omega)))
          clear hb9
          go_wp2_with fail
          go_ret
          exact ⟨rfl, by rw [HG.out]; exact HB10.out⟩
        · go_wp2_with fail
          go_ret
          exact ⟨rfl, by rw [HG.out]; exact HB7.out⟩
  · have HRT := Lib.hid HR.out
    have hc7 : n ≤ c := hc
    have hnt7 : n ≤ 7200 := by omega
    have hbi : ¬ (7200 : Int) < (n : Int) := by omega
    obtain ⟨f1, f2, f3, f4, f5, f6, f7⟩ := splN_facts (n := n) hnt7
    have HSP := Lib.hid (show ∀ A c w B, RB w B A n l → B ≤ w.heap.size → n ≤ c → Calls Try.prog 10 #[.int .u64 id, .slice A n c] w (RetPE w ((List.range (splN n)).map (splP id l (splN n))) 0) from fun A c w B hr hB hc => by
      have h := Split_any id A n c l w B hr hB hc (by omega)
      rw [show splE n = 0 by rw [splE, if_neg (by omega)], show splL id l = (List.range (splN n)).map (splP id l (splN n)) by rw [splL, hr.len, if_neg (by omega)]] at h
      exact h)
    have hlm : l.length ≤ splN n * 450 := by rw [HRT.out.len]; exact f6
    have HIP := Lib.hid (IsPerm.init id l (splN n))
    generalize splN n = m at *
    have HMG := Lib.hid (fun qs (h : IsPerm id l m qs) => h.mrg (by omega) (by omega) hlm)
    have HMC := Lib.hid (show ∀ (A : Option Addr) (c : Nat) (qs : List Pt) (ss : List Value) (w : World) (base : Nat), IsPerm id l m qs → OP w base (.slice A m c) m qs ss → Calls Try.prog 16 #[.slice A m c] w (RetBE w l 0) from fun A c qs ss w base h o => by
      have h1 := Merge_any A m c qs w w.heap.size (RP.of_own o) (Nat.le_refl _) (by omega) (h.ok (by have := HID.out; omega) (by omega)) (fun p hp => Nat.le_trans (h.small p hp) (by omega))
      rw [(HMG.out qs h).1, (HMG.out qs h).2] at h1
      exact h1)
    clear f1 f2 f5 f6 f7 hlm HMG
    have dm0 : ((m : Int) == 0) = false := by simp; omega
    generalize hgw : w.heap.size = g0 at *
    have HG := Lib.hid hgw
    have hzw : g0 ≤ w.heap.size := by omega
    clear hgw
    go_enter Try.func5, Try.ntmps5
    go_wp2_with fail
    refine (awake_any w).mono ?_
    rintro e w1 ⟨rfl, hb⟩
    rw [HG.out] at hb
    have HB1 := Lib.hid hb
    have hz1 := hb.size
    clear hb
    go_wp2_with fail
    refine (Copy_any A n c l w1 g0 (HRT.out.below HB1.out) (by omega) (by omega)).mono ?_
    rintro e w2 ⟨g2, cc2, rfl, ho, hb⟩
    have HO2 := Lib.hid ho
    have HB2 := Lib.hid (HB1.out.trans (hb.mono (by omega)))
    have hz2 := hb.size
    clear ho hb HB1
    go_wp2_with fail
    refine (HSP.out _ cc2 w2 w2.heap.size (RB.of_own HO2.out) (Nat.le_refl _) (own_cap HO2.out)).mono ?_
    rintro e w3 ⟨A3, m3, c3, ss3, rfl, ho, hb⟩
    have hm3 : m = m3 := by rw [← ho.1]; simp
    subst hm3
    obtain ⟨g3, rfl⟩ := op_some ho (by omega)
    have HO3 := Lib.hid (ho.base_le (show g0 ≤ w2.heap.size by omega))
    have HB3 := Lib.hid (HB2.out.trans (hb.mono (by omega)))
    have hz3 := hb.size
    clear ho hb HB2 HO2
    go_wp2_with fail
    go_loopw [37] (fun i wr => ∃ (k : Nat) (qs : List Pt) (ss : List Value), k ≤ n2 ∧ i = .int .i64 (k : Int) ∧ IsPerm id l m qs ∧ OP wr g0 (.slice (some ⟨g3, 0, none⟩) m c3) m qs ss ∧ Below g0 w wr) (fun i _ => n2 - (intOf i).toNat)
    case atStart => exact ⟨0, _, ss3, by omega, rfl, HIP.out, HO3.out, HB3.out⟩
    case round =>
      obtain ⟨k, qs, ss, hk, rfl, hp, ho, hb⟩ := hrel
      have HP := Lib.hid hp
      have HO := Lib.hid ho
      have HB := Lib.hid hb
      have hzr := hb.size
      clear hp ho hb HO3 HB3 HIP
      by_cases hlt : k < n2
      · obtain ⟨ad2, rfl, hab2, hzc, hz1', hz2'⟩ := (RI.below HZ.out HB.out).at_ hlt
        have hra : (k : Int).tmod (m : Int) = ((k % m : Nat) : Int) := by rw [Int.tmod_eq_emod_of_nonneg (by omega)]; simp
        have ha : k % m < m := Nat.mod_lt _ (by omega)
        generalize hza : it zz k = z at *
        clear hza
        by_cases hz0 : 0 ≤ z
        · have hrb : z.tmod (m : Int) = ((z.toNat % m : Nat) : Int) := by rw [Int.tmod_eq_emod_of_nonneg hz0, Int.natCast_emod, Int.toNat_of_nonneg hz0]
          have hb : z.toNat % m < m := Nat.mod_lt _ (by omega)
          generalize z.toNat % m = b at *
          generalize k % m = a at *
          obtain ⟨Aa, na, ca, ea, oa, a0, a1, a2, a3, a4⟩ := HO.out.cells ha
          obtain ⟨Ab, nb, cb, eb, ob, b0, b1, b2, b3, b4⟩ := HO.out.cells hb
          obtain ⟨cur, hcur, c1, c2', c3', c4, c5⟩ := own_blk HO.out.2.2.1
          have hz0 : 0 < m := by omega
          have hia : (a : Int) < (m : Int) := by omega
          have hib : (b : Int) < (m : Int) := by omega
          have HPS := Lib.hid (HP.out.swap ha hb)
          have HCUR := Lib.hid hcur
          have HPA := Lib.hid (show ∃ x, x = pat qs a from ⟨_, rfl⟩)
          have hO5 := HO.out.put ha (show wr.drew.heap[g3]? = some (.cells cur 47 (0, 0)) from hcur) (p := pat qs b) (show wr.drew.ownsRow g0 5 1 (.slice Ab nb cb) nb (bv (pat qs b).d) from ob)
          have hob5 : (wr.drew.setRow g3 (cur.toList.take (a * 5) ++ pcell (pat qs b) (.slice Ab nb cb) ++ cur.toList.drop (a * 5 + 5)).toArray).ownsRow g0 5 1 (.slice Aa na ca) na (bv (pat qs a).d) := (show wr.drew.ownsRow g0 5 1 (.slice Aa na ca) na (bv (pat qs a).d) from oa).kept (grown_setRow _ g3 _) (by rcases own_ne oa HO.out.2.2.1 (by decide) with h | h; exact .inl h; exact .inr h)
          have hcur5 : (wr.drew.setRow g3 (cur.toList.take (a * 5) ++ pcell (pat qs b) (.slice Ab nb cb) ++ cur.toList.drop (a * 5 + 5)).toArray).heap[g3]? = some (.cells (cur.toList.take (a * 5) ++ pcell (pat qs b) (.slice Ab nb cb) ++ cur.toList.drop (a * 5 + 5)).toArray 47 (0, 0)) := setRow_heap _ g3 _ _ _ _ hcur
          have hO6 := hO5.put hb hcur5 (p := pat qs a) hob5
          have HO6 := Lib.hid hO6
          have HCUR5 := Lib.hid hcur5
          have HSZ5 := Lib.hid (show (cur.toList.take (a * 5) ++ pcell (pat qs b) (.slice Ab nb cb) ++ cur.toList.drop (a * 5 + 5)).length = c3 * 5 by
            simp only [List.length_append, List.length_take, List.length_drop, Array.length_toList, length_pcell, c4]
            omega)
          clear ea eb oa ob hcur c5 hO5 hO6 hob5 hcur5 HPA
          generalize pat qs a = pa at *
          generalize pat qs b = pb at *
          go_wp2_with fail
          refine wp_region_noPanic ?_
          refine wp_region_until (S := (fun w' => w'.cell? ⟨g3, a * 5, none⟩ = some (.int .u8 pa.k) ∧ w'.cell? ⟨g3, a * 5 + 1, none⟩ = some (.int .u64 pa.id) ∧ w'.cell? ⟨g3, a * 5 + 2, none⟩ = some (.int .i64 pa.ix) ∧ w'.cell? ⟨g3, a * 5 + 3, none⟩ = some (.int .i64 pa.ct) ∧ w'.cell? ⟨g3, a * 5 + 4, none⟩ = some (.slice Aa na ca) ∧ w'.cell? ⟨g3, b * 5, none⟩ = some (.int .u8 pb.k) ∧ w'.cell? ⟨g3, b * 5 + 1, none⟩ = some (.int .u64 pb.id) ∧ w'.cell? ⟨g3, b * 5 + 2, none⟩ = some (.int .i64 pb.ix) ∧ w'.cell? ⟨g3, b * 5 + 3, none⟩ = some (.int .i64 pb.ct) ∧ w'.cell? ⟨g3, b * 5 + 4, none⟩ = some (.slice Ab nb cb))) 13 (by kernel_rfl) ?_ (fun hHeld => ?_)
          · (try dsimp only)
            exact ⟨a0, a1, a2, a3, a4, b0, b1, b2, b3, b4⟩
          refine wpAnyU_takeY (i := 0) (v := ?v33) rfl (by kernel_rfl) (fun _ _ _ h => h) (Or.inl ⟨by rfl, ?y33⟩) (by assumption) ?r33
          case y33 => (intro W; first | (go_simp; done) | (go_simp; with_reducible rfl))
          (try simp only [List.getElem_toArray, List.getElem_cons_zero, Act.put, List.setIfInBounds_toArray, List.set_cons_zero, List.set_cons_succ])
          refine wpAnyU_takeY (i := 1) (v := ?v34) rfl (by kernel_rfl) (fun _ _ _ h => h) (Or.inl ⟨by rfl, ?y34⟩) (by assumption) ?r34
          case y34 => (intro W; first | (go_simp; done) | (go_simp; with_reducible rfl))
          (try simp only [List.getElem_toArray, List.getElem_cons_zero, List.getElem_cons_succ, Act.put, List.setIfInBounds_toArray, List.set_cons_zero, List.set_cons_succ])
          refine wpAnyU_takeY (i := 2) (v := ?v35) rfl (by kernel_rfl) (fun _ _ _ h => h) (Or.inl ⟨by rfl, ?y35⟩) (by assumption) ?r35
          case y35 => (intro W; first | (go_simp; done) | (go_simp; with_reducible rfl))
          (try simp only [List.getElem_toArray, List.getElem_cons_zero, List.getElem_cons_succ, Act.put, List.setIfInBounds_toArray, List.set_cons_zero, List.set_cons_succ])
          refine wpAnyU_takeY (i := 3) (v := ?v36) rfl (by kernel_rfl) (fun _ _ _ h => h) (Or.inl ⟨by rfl, ?y36⟩) (by assumption) ?r36
          case y36 => (intro W; first | (go_simp; done) | (go_simp; with_reducible rfl))
          (try simp only [List.getElem_toArray, List.getElem_cons_zero, List.getElem_cons_succ, Act.put, List.setIfInBounds_toArray, List.set_cons_zero, List.set_cons_succ])
          refine wpAnyU_takeY (i := 4) (v := ?v37) rfl (by kernel_rfl) (fun _ _ _ h => h) (Or.inl ⟨by rfl, ?y37⟩) (by assumption) ?r37
          case y37 => (intro W; first | (go_simp; done) | (go_simp; with_reducible rfl))
          (try simp only [List.getElem_toArray, List.getElem_cons_zero, List.getElem_cons_succ, Act.put, List.setIfInBounds_toArray, List.set_cons_zero, List.set_cons_succ])
          refine wpAnyU_takeY (i := 5) (v := ?v38) rfl (by kernel_rfl) (fun _ _ _ h => h) (Or.inl ⟨by rfl, ?y38⟩) (by assumption) ?r38
          case y38 => (intro W; first | (go_simp; done) | (go_simp; with_reducible rfl))
          (try simp only [List.getElem_toArray, List.getElem_cons_zero, List.getElem_cons_succ, Act.put, List.setIfInBounds_toArray, List.set_cons_zero, List.set_cons_succ])
          refine wpAnyU_takeY (i := 6) (v := ?v39) rfl (by kernel_rfl) (fun _ _ _ h => h) (Or.inl ⟨by rfl, ?y39⟩) (by assumption) ?r39
          case y39 => (intro W; first | (go_simp; done) | (go_simp; with_reducible rfl))
          (try simp only [List.getElem_toArray, List.getElem_cons_zero, List.getElem_cons_succ, Act.put, List.setIfInBounds_toArray, List.set_cons_zero, List.set_cons_succ])
          refine wpAnyU_takeW (i := 7) (v := ?v40) rfl (by kernel_rfl) (fun _ _ _ h => h) (Or.inl ⟨by rfl, ?y40⟩) (by assumption) ?r40
          case y40 => (intro W hSW; (try dsimp only at hSW); first | (go_simp; done) | (go_simp; with_reducible rfl))
          (try simp only [List.getElem_toArray, List.getElem_cons_zero, List.getElem_cons_succ, Act.put, List.setIfInBounds_toArray, List.set_cons_zero, List.set_cons_succ])
          refine wpAnyU_takeY (i := 8) (v := ?v41) rfl (by kernel_rfl) (fun _ _ _ h => h) (Or.inl ⟨by rfl, ?y41⟩) (by assumption) ?r41
          case y41 => (intro W; first | (go_simp; done) | (go_simp; with_reducible rfl))
          (try simp only [List.getElem_toArray, List.getElem_cons_zero, List.getElem_cons_succ, Act.put, List.setIfInBounds_toArray, List.set_cons_zero, List.set_cons_succ])
          refine wpAnyU_takeY (i := 9) (v := ?v42) rfl (by kernel_rfl) (fun _ _ _ h => h) (Or.inl ⟨by rfl, ?y42⟩) (by assumption) ?r42
          case y42 => (intro W; first | (go_simp; done) | (go_simp; with_reducible rfl))
          (try simp only [List.getElem_toArray, List.getElem_cons_zero, List.getElem_cons_succ, Act.put, List.setIfInBounds_toArray, List.set_cons_zero, List.set_cons_succ])
          refine wpAnyU_takeY (i := 10) (v := ?v43) rfl (by kernel_rfl) (fun _ _ _ h => h) (Or.inl ⟨by rfl, ?y43⟩) (by assumption) ?r43
          case y43 => (intro W; first | (go_simp; done) | (go_simp; with_reducible rfl))
          (try simp only [List.getElem_toArray, List.getElem_cons_zero, List.getElem_cons_succ, Act.put, List.setIfInBounds_toArray, List.set_cons_zero, List.set_cons_succ])
          refine wpAnyU_takeW (i := 11) (v := ?v44) rfl (by kernel_rfl) (fun _ _ _ h => h) (Or.inl ⟨by rfl, ?y44⟩) (by assumption) ?r44
          case y44 => (intro W hSW; (try dsimp only at hSW); first | (go_simp; done) | (go_simp; with_reducible rfl))
          (try simp only [List.getElem_toArray, List.getElem_cons_zero, List.getElem_cons_succ, Act.put, List.setIfInBounds_toArray, List.set_cons_zero, List.set_cons_succ])
          refine wpAnyU_takeY (i := 12) (v := ?v45) rfl (by kernel_rfl) (fun _ _ _ h => h) (Or.inl ⟨by rfl, ?y45⟩) (by assumption) ?r45
          case y45 => (intro W; first | (go_simp; done) | (go_simp; with_reducible rfl))
          (try simp only [List.getElem_toArray, List.getElem_cons_zero, List.getElem_cons_succ, Act.put, List.setIfInBounds_toArray, List.set_cons_zero, List.set_cons_succ])
          refine wpAnyU_at (c := 13) rfl (by kernel_rfl) (by rfl) (fun K hK => ?_)
          have HK := Lib.hid hK
          clear hK
          refine wp_store_blk 47 (.tmp 64) (.tmp 59) rfl g3 (a * 5) (pcell pb (.slice Ab nb cb)).toArray rfl rfl cur 47 HCUR.out (by rw [c4]; show a * 5 + 5 ≤ c3 * 5; omega) infoP (pcell_one _ _ _ _) ?_
          refine HK.out _ _ ?_
          clear HK K
          (try simp only [List.getElem_toArray, List.getElem_cons_zero, List.getElem_cons_succ, Act.put])
          refine wpAny_takeY (i := 14) (v := ?v47) rfl (by kernel_rfl) (fun _ _ _ h => h) (Or.inl ⟨by rfl, ?y47⟩) ?r47
          case y47 => (intro W; first | (go_simp; done) | (go_simp; with_reducible rfl))
          (try simp only [List.getElem_toArray, List.getElem_cons_zero, List.getElem_cons_succ, Act.put, List.setIfInBounds_toArray, List.set_cons_zero, List.set_cons_succ])
          refine wpAny_at (c := 15) rfl (by kernel_rfl) (by rfl) (fun K hK => ?_)
          have HK := Lib.hid hK
          clear hK
          refine wp_store_blk 47 (.tmp 65) (.tmp 63) rfl g3 (b * 5) (pcell pa (.slice Aa na ca)).toArray rfl rfl _ 47 HCUR5.out (by have h := HSZ5.out; simp only [List.size_toArray, h, length_pcell]; omega) infoP (pcell_one _ _ _ _) ?_
          refine HK.out _ _ ?_
          clear HK K
          (try simp only [List.getElem_toArray, List.getElem_cons_zero, List.getElem_cons_succ, Act.put])
          refine wpAny_done (by kernel_rfl) ?_ _
          refine NoPanic.normal ?_
          go_wp2_with fail
          refine ⟨⟨k + 1, (qs.set a pb).set b pa, (ss.set a (.slice Ab nb cb)).set b (.slice Aa na ca), by omega, by go_num, HPS.out, ?_, ?_⟩, by simp [intOf]; omega⟩
          · have h := HO6.out
            simp only [List.append_assoc] at h ⊢
            exact h
          · exact below_setRow (below_setRow HB.out.drew c1 _) c1 _
        · have hb : 0 < m := by omega
          generalize k % m = a at *
          obtain ⟨Aa, na, ca, ea, oa, a0, a1, a2, a3, a4⟩ := HO.out.cells ha
          obtain ⟨Ab, nb, cb, eb, ob, b0, b1, b2, b3, b4⟩ := HO.out.cells (k := 0) hb
          obtain ⟨cur, hcur, c1, c2', c3', c4, c5⟩ := own_blk HO.out.2.2.1
          have hz0 : 0 < m := by omega
          have hia : (a : Int) < (m : Int) := by omega
          simp only [Nat.zero_mul, Nat.zero_add] at b0 b1 b2 b3 b4
          have HPS := Lib.hid (HP.out.swap ha hb)
          have HCUR := Lib.hid hcur
          have HPA := Lib.hid (show ∃ x, x = pat qs a from ⟨_, rfl⟩)
          have hO5 := HO.out.put ha (show wr.drew.heap[g3]? = some (.cells cur 47 (0, 0)) from hcur) (p := pat qs 0) (show wr.drew.ownsRow g0 5 1 (.slice Ab nb cb) nb (bv (pat qs 0).d) from ob)
          have hob5 : (wr.drew.setRow g3 (cur.toList.take (a * 5) ++ pcell (pat qs 0) (.slice Ab nb cb) ++ cur.toList.drop (a * 5 + 5)).toArray).ownsRow g0 5 1 (.slice Aa na ca) na (bv (pat qs a).d) := (show wr.drew.ownsRow g0 5 1 (.slice Aa na ca) na (bv (pat qs a).d) from oa).kept (grown_setRow _ g3 _) (by rcases own_ne oa HO.out.2.2.1 (by decide) with h | h; exact .inl h; exact .inr h)
          have hcur5 : (wr.drew.setRow g3 (cur.toList.take (a * 5) ++ pcell (pat qs 0) (.slice Ab nb cb) ++ cur.toList.drop (a * 5 + 5)).toArray).heap[g3]? = some (.cells (cur.toList.take (a * 5) ++ pcell (pat qs 0) (.slice Ab nb cb) ++ cur.toList.drop (a * 5 + 5)).toArray 47 (0, 0)) := setRow_heap _ g3 _ _ _ _ hcur
          have hO6 := hO5.put hb hcur5 (p := pat qs a) hob5
          have HO6 := Lib.hid hO6
          have HCUR5 := Lib.hid hcur5
          have HSZ5 := Lib.hid (show (cur.toList.take (a * 5) ++ pcell (pat qs 0) (.slice Ab nb cb) ++ cur.toList.drop (a * 5 + 5)).length = c3 * 5 by
            simp only [List.length_append, List.length_take, List.length_drop, Array.length_toList, length_pcell, c4]
            omega)
          clear ea eb oa ob hcur c5 hO5 hO6 hob5 hcur5 HPA
          generalize pat qs a = pa at *
          generalize pat qs 0 = pb at *
          go_wp2_with fail
          refine wp_region_noPanic ?_
          refine wp_region_until (S := (fun w' => w'.cell? ⟨g3, a * 5, none⟩ = some (.int .u8 pa.k) ∧ w'.cell? ⟨g3, a * 5 + 1, none⟩ = some (.int .u64 pa.id) ∧ w'.cell? ⟨g3, a * 5 + 2, none⟩ = some (.int .i64 pa.ix) ∧ w'.cell? ⟨g3, a * 5 + 3, none⟩ = some (.int .i64 pa.ct) ∧ w'.cell? ⟨g3, a * 5 + 4, none⟩ = some (.slice Aa na ca) ∧ w'.cell? ⟨g3, 0, none⟩ = some (.int .u8 pb.k) ∧ w'.cell? ⟨g3, 1, none⟩ = some (.int .u64 pb.id) ∧ w'.cell? ⟨g3, 2, none⟩ = some (.int .i64 pb.ix) ∧ w'.cell? ⟨g3, 3, none⟩ = some (.int .i64 pb.ct) ∧ w'.cell? ⟨g3, 4, none⟩ = some (.slice Ab nb cb))) 13 (by kernel_rfl) ?_ (fun hHeld => ?_)
          · (try dsimp only)
            exact ⟨a0, a1, a2, a3, a4, b0, b1, b2, b3, b4⟩
          refine wpAnyU_takeY (i := 0) (v := ?v49) rfl (by kernel_rfl) (fun _ _ _ h => h) (Or.inl ⟨by rfl, ?y49⟩) (by assumption) ?r49
          case y49 => (intro W; first | (go_simp; done) | (go_simp; with_reducible rfl))
          (try simp only [List.getElem_toArray, List.getElem_cons_zero, Act.put, List.setIfInBounds_toArray, List.set_cons_zero, List.set_cons_succ])
          refine wpAnyU_takeY (i := 1) (v := ?v50) rfl (by kernel_rfl) (fun _ _ _ h => h) (Or.inl ⟨by rfl, ?y50⟩) (by assumption) ?r50
          case y50 => (intro W; first | (go_simp; done) | (go_simp; with_reducible rfl))
          (try simp only [List.getElem_toArray, List.getElem_cons_zero, List.getElem_cons_succ, Act.put, List.setIfInBounds_toArray, List.set_cons_zero, List.set_cons_succ])
          refine wpAnyU_takeY (i := 2) (v := ?v51) rfl (by kernel_rfl) (fun _ _ _ h => h) (Or.inl ⟨by rfl, ?y51⟩) (by assumption) ?r51
          case y51 => (intro W; first | (go_simp; done) | (go_simp; with_reducible rfl))
          (try simp only [List.getElem_toArray, List.getElem_cons_zero, List.getElem_cons_succ, Act.put, List.setIfInBounds_toArray, List.set_cons_zero, List.set_cons_succ])
          refine wpAnyU_takeY (i := 3) (v := ?v52) rfl (by kernel_rfl) (fun _ _ _ h => h) (Or.inl ⟨by rfl, ?y52⟩) (by assumption) ?r52
          case y52 => (intro W; first | (go_simp; done) | (go_simp; with_reducible rfl))
          (try simp only [List.getElem_toArray, List.getElem_cons_zero, List.getElem_cons_succ, Act.put, List.setIfInBounds_toArray, List.set_cons_zero, List.set_cons_succ])
          refine wpAnyU_takeY (i := 4) (v := ?v53) rfl (by kernel_rfl) (fun _ _ _ h => h) (Or.inl ⟨by rfl, ?y53⟩) (by assumption) ?r53
          case y53 => (intro W; first | (go_simp; done) | (go_simp; with_reducible rfl))
          (try simp only [List.getElem_toArray, List.getElem_cons_zero, List.getElem_cons_succ, Act.put, List.setIfInBounds_toArray, List.set_cons_zero, List.set_cons_succ])
          refine wpAnyU_takeY (i := 5) (v := ?v54) rfl (by kernel_rfl) (fun _ _ _ h => h) (Or.inl ⟨by rfl, ?y54⟩) (by assumption) ?r54
          case y54 => (intro W; first | (go_simp; done) | (go_simp; with_reducible rfl))
          (try simp only [List.getElem_toArray, List.getElem_cons_zero, List.getElem_cons_succ, Act.put, List.setIfInBounds_toArray, List.set_cons_zero, List.set_cons_succ])
          refine wpAnyU_takeY (i := 6) (v := ?v55) rfl (by kernel_rfl) (fun _ _ _ h => h) (Or.inl ⟨by rfl, ?y55⟩) (by assumption) ?r55
          case y55 => (intro W; first | (go_simp; done) | (go_simp; with_reducible rfl))
          (try simp only [List.getElem_toArray, List.getElem_cons_zero, List.getElem_cons_succ, Act.put, List.setIfInBounds_toArray, List.set_cons_zero, List.set_cons_succ])
          refine wpAnyU_takeW (i := 7) (v := ?v56) rfl (by kernel_rfl) (fun _ _ _ h => h) (Or.inl ⟨by rfl, ?y56⟩) (by assumption) ?r56
          case y56 => (intro W hSW; (try dsimp only at hSW); first | (go_simp; done) | (go_simp; with_reducible rfl))
          (try simp only [List.getElem_toArray, List.getElem_cons_zero, List.getElem_cons_succ, Act.put, List.setIfInBounds_toArray, List.set_cons_zero, List.set_cons_succ])
          refine wpAnyU_takeY (i := 8) (v := ?v57) rfl (by kernel_rfl) (fun _ _ _ h => h) (Or.inl ⟨by rfl, ?y57⟩) (by assumption) ?r57
          case y57 => (intro W; first | (go_simp; done) | (go_simp; with_reducible rfl))
          (try simp only [List.getElem_toArray, List.getElem_cons_zero, List.getElem_cons_succ, Act.put, List.setIfInBounds_toArray, List.set_cons_zero, List.set_cons_succ])
          refine wpAnyU_takeY (i := 9) (v := ?v58) rfl (by kernel_rfl) (fun _ _ _ h => h) (Or.inl ⟨by rfl, ?y58⟩) (by assumption) ?r58
          case y58 => (intro W; first | (go_simp; done) | (go_simp; with_reducible rfl))
          (try simp only [List.getElem_toArray, List.getElem_cons_zero, List.getElem_cons_succ, Act.put, List.setIfInBounds_toArray, List.set_cons_zero, List.set_cons_succ])
          refine wpAnyU_takeY (i := 10) (v := ?v59) rfl (by kernel_rfl) (fun _ _ _ h => h) (Or.inl ⟨by rfl, ?y59⟩) (by assumption) ?r59
          case y59 => (intro W; first | (go_simp; done) | (go_simp; with_reducible rfl))
          (try simp only [List.getElem_toArray, List.getElem_cons_zero, List.getElem_cons_succ, Act.put, List.setIfInBounds_toArray, List.set_cons_zero, List.set_cons_succ])
          refine wpAnyU_takeW (i := 11) (v := ?v60) rfl (by kernel_rfl) (fun _ _ _ h => h) (Or.inl ⟨by rfl, ?y60⟩) (by assumption) ?r60
          case y60 => (intro W hSW; (try dsimp only at hSW); first | (go_simp; done) | (go_simp; with_reducible rfl))
          (try simp only [List.getElem_toArray, List.getElem_cons_zero, List.getElem_cons_succ, Act.put, List.setIfInBounds_toArray, List.set_cons_zero, List.set_cons_succ])
          refine wpAnyU_takeY (i := 12) (v := ?v61) rfl (by kernel_rfl) (fun _ _ _ h => h) (Or.inl ⟨by rfl, ?y61⟩) (by assumption) ?r61
          case y61 => (intro W; first | (go_simp; done) | (go_simp; with_reducible rfl))
          (try simp only [List.getElem_toArray, List.getElem_cons_zero, List.getElem_cons_succ, Act.put, List.setIfInBounds_toArray, List.set_cons_zero, List.set_cons_succ])
          refine wpAnyU_at (c := 13) rfl (by kernel_rfl) (by rfl) (fun K hK => ?_)
          have HK := Lib.hid hK
          clear hK
          refine wp_store_blk 47 (.tmp 64) (.tmp 59) rfl g3 (a * 5) (pcell pb (.slice Ab nb cb)).toArray rfl rfl cur 47 HCUR.out (by rw [c4]; show a * 5 + 5 ≤ c3 * 5; omega) infoP (pcell_one _ _ _ _) ?_
          refine HK.out _ _ ?_
          clear HK K
          (try simp only [List.getElem_toArray, List.getElem_cons_zero, List.getElem_cons_succ, Act.put])
          refine wpAny_takeY (i := 14) (v := ?v63) rfl (by kernel_rfl) (fun _ _ _ h => h) (Or.inl ⟨by rfl, ?y63⟩) ?r63
          case y63 => (intro W; first | (go_simp; done) | (go_simp; with_reducible rfl))
          (try simp only [List.getElem_toArray, List.getElem_cons_zero, List.getElem_cons_succ, Act.put, List.setIfInBounds_toArray, List.set_cons_zero, List.set_cons_succ])
          refine wpAny_at (c := 15) rfl (by kernel_rfl) (by rfl) (fun K hK => ?_)
          have HK := Lib.hid hK
          clear hK
          refine wp_store_blk 47 (.tmp 65) (.tmp 63) rfl g3 (0 * 5) (pcell pa (.slice Aa na ca)).toArray rfl rfl _ 47 HCUR5.out (by have h := HSZ5.out; simp only [List.size_toArray, h, length_pcell]; omega) infoP (pcell_one _ _ _ _) ?_
          refine HK.out _ _ ?_
          clear HK K
          (try simp only [List.getElem_toArray, List.getElem_cons_zero, List.getElem_cons_succ, Act.put])
          refine wpAny_done (by kernel_rfl) ?_ _
          refine NoPanic.normal ?_
          go_wp2_with fail
          refine ⟨⟨k + 1, (qs.set a pb).set 0 pa, (ss.set a (.slice Ab nb cb)).set 0 (.slice Aa na ca), by omega, by go_num, HPS.out, ?_, ?_⟩, by simp [intOf]; omega⟩
          · have h := HO6.out
            simp only [List.append_assoc] at h ⊢
            exact h
          · exact below_setRow (below_setRow HB.out.drew c1 _) c1 _
      · obtain rfl : k = n2 := by omega
        clear hlt
        go_wp2_with fail
        refine (HMC.out _ c3 qs ss wr g0 HP.out HO.out).mono ?_
        rintro e w4 ⟨A4, n4, c4, rfl, hl4, ho4, hb4⟩
        have hn4 : n4 = n := by rw [← hl4, HRT.out.len]
        subst hn4
        have HO4 := Lib.hid (HO.out.later hb4)
        have HR4 := Lib.hid (RB.of_own ho4)
        have hzr0 : g0 ≤ wr.heap.size := by omega
        have HB4 := Lib.hid (HB.out.trans (hb4.mono hzr0))
        have hz4 := hb4.size
        clear ho4 hb4 hl4 HO HB
        go_wp2_with fail
        refine (Equal_any A4 A n4 n4 c4 c l l w4 _ _ HR4.out (HRT.out.below HB4.out) (by omega)).mono ?_
        rintro e w5 h5
        obtain ⟨rfl, hb5⟩ := h5.below
        rw [show decide (l = l) = true by simp]
        have HO5 := Lib.hid (HO4.out.later hb5)
        have HB5 := Lib.hid (HB4.out.trans (hb5.mono (by omega)))
        have hz5 := hb5.size
        clear h5 hb5 HO4 HB4 HR4
        obtain ⟨A6, hA6⟩ : ∃ A6, (if c3 = 1 then some (⟨g3, 0, none⟩ : Addr) else (some (⟨g3, 0, none⟩ : Addr)).map (·.add (1 * 5))) = A6 := ⟨_, rfl⟩
        have hcap : m ≤ c3 := own_cap HO5.out.2.2.1
        have hsl2 : ∀ W, (Instr.slice 25 (.slice (some ⟨g3, 0, none⟩) m c3) (some (.int .i64 1)) none none).run Try.prog W = .ok (.slice A6 (m - 1) (c3 - 1)) W := fun W => by
          rw [← hA6]
          exact run_sl_lo TP W (some ⟨g3, 0, none⟩) m c3 .i64 1 (by omega)
        have HR5 := Lib.hid (show RP w5 w5.heap.size A6 (m - 1) (qs.drop 1) from by
          rw [← hA6]
          exact RP.cut (RP.of_own HO5.out) (by omega) hcap)
        have HM6 := Lib.hid (show Calls Try.prog 16 #[.slice A6 (m - 1) (c3 - 1)] w5 (RetBE w5 (mrgL (qs.drop 1)) 2) from by
          have h1 := Merge_any A6 (m - 1) (c3 - 1) (qs.drop 1) w5 w5.heap.size HR5.out (Nat.le_refl _) (by omega) (fun p hp => HP.out.ok (by have := HID.out; omega) (by omega) p (List.mem_of_mem_drop hp)) (fun p hp => Nat.le_trans (HP.out.small p (List.mem_of_mem_drop hp)) (by omega))
          rw [HP.out.lacks] at h1
          exact h1)
        clear hA6 HR5
        go_wp2_with fail
        refine HM6.out.mono ?_
        rintro e w7 ⟨A7, n7, c7, rfl, _, _, hb7⟩
        have HO7 := Lib.hid (HO5.out.later hb7)
        have HB7 := Lib.hid (HB5.out.trans (hb7.mono (by omega)))
        have hz7 := hb7.size
        clear hb7 HO5 HB5 HM6 hsl2
        by_cases hm1 : 1 < m
        · obtain ⟨Ab, nb, cb, eb, ob, b0, b1, b2, b3, b4⟩ := HO7.out.cells (k := 1) hm1
          obtain ⟨cur, hcur, d1, d2, d3, d4, _⟩ := own_blk HO7.out.2.2.1
          have b0' : w7.cell? ⟨g3, 5, none⟩ = some (.int .u8 (pat qs 1).k) := b0
          have b1' : w7.cell? ⟨g3, 6, none⟩ = some (.int .u64 (pat qs 1).id) := b1
          have b2' : w7.cell? ⟨g3, 7, none⟩ = some (.int .i64 (pat qs 1).ix) := b2
          have b3' : w7.cell? ⟨g3, 8, none⟩ = some (.int .i64 (pat qs 1).ct) := b3
          have b4' : w7.cell? ⟨g3, 9, none⟩ = some (.slice Ab nb cb) := b4
          have hO8 := HO7.out.put (k := 0) (by omega) hcur (p := pat qs 1) ob
          have HTW := Lib.hid (HP.out.twice hm1)
          have HSM := Lib.hid (show ∀ p ∈ qs.set 0 (pat qs 1), p.OK ∧ p.d.length ≤ 450 from fun p hp => by
            have h : p ∈ qs := by
              rcases List.mem_or_eq_of_mem_set hp with h | h
              · exact h
              · rw [h]; exact pat_mem (by rw [HP.out.1]; exact hm1)
            exact ⟨HP.out.ok (by have := HID.out; omega) (by omega) p h, HP.out.small p h⟩)
          have HO8 := Lib.hid hO8
          have HCUR := Lib.hid hcur
          clear b0 b1 b2 b3 b4 eb ob hcur hO8
          generalize hp1 : pat qs 1 = p1 at *
          clear hp1
          have hm1i : (1 : Int) < (m : Int) := by omega
          have hm0i : (0 : Int) < (m : Int) := by omega
          go_wp2_with (refine wl_store_blk rfl 47 (.tmp 95) (.tmp 94) rfl g3 (0 * 5) (pcell p1 (.slice Ab nb cb)).toArray rfl rfl cur 47 HCUR.out (by rw [d4]; show 0 * 5 + 5 ≤ c3 * 5; omega) infoP (pcell_one _ _ _ _) ?_)
          have h8 := HO8.out
          have hb8 : Below g0 w (w7.setRow g3 (pcell p1 (.slice Ab nb cb) ++ List.drop (pcell p1 (.slice Ab nb cb)).length cur.toList).toArray) := below_setRow HB7.out d1 _
          have hO9 : OP (w7.setRow g3 (pcell p1 (.slice Ab nb cb) ++ List.drop (pcell p1 (.slice Ab nb cb)).length cur.toList).toArray) g0 (.slice (some ⟨g3, 0, none⟩) m c3) m (qs.set 0 p1) (ss.set 0 (.slice Ab nb cb)) := by
            simp only [Nat.zero_mul, Nat.zero_add, List.take_zero, List.nil_append] at h8
            exact h8
          have hM9 := Merge_any (some ⟨g3, 0, none⟩) m c3 (qs.set 0 p1) _ _ (RP.of_own hO9) (Nat.le_refl _) (by omega) (fun p hp => (HSM.out p hp).1) (fun p hp => Nat.le_trans (HSM.out p hp).2 (by omega))
          rw [HTW.out] at hM9
          have HM9 := Lib.hid hM9
          have HB9 := Lib.hid hb8
          clear h8 hb8 hO9 hM9 HO8 HCUR b0' b1' b2' b3' b4'
          refine HM9.out.mono ?_
          rintro e w9 ⟨A9, n9, c9, rfl, _, _, hb9⟩
          have HB10 := Lib.hid (HB9.out.trans (hb9.mono (by rw [size_setRow]; omega)))
          clear hb9
          go_wp2_with fail
          go_ret
          exact ⟨rfl, by rw [HG.out]; exact HB10.out⟩
        · go_wp2_with fail
          go_ret
          exact ⟨rfl, by rw [HG.out]; exact HB7.out⟩
end Go.Proofs.Ytgdelilanackhaa
