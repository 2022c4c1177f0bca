/-
  The walk of shallotlaw11.FrameKeeps: it returns true; nothing that was there has turned. Conditions: the sizes that slices can have; the number fits its type.
-/
import Derived.Test.YtgdelilanackhaaFrmAwake
import Derived.Test.YtgdelilanackhaaOrdersWords
import Derived.Test.YtgdelilanackhaaMerge
import Derived.Test.YtgdelilanackhaaParsed
import Derived.Test.YtgdelilanackhaaUntil
import Derived.Test.YtgdelilanackhaaApart
import Derived.Test.YtgdelilanackhaaApartLit
namespace Go.Proofs.Ytgdelilanackhaa
open Go Go.RowKit Go.Sh

/-- these two slices share no block -/
def Dst (u v : Value) : Prop := ∀ q, u.ownBlock = some q → v.ownBlock ≠ some q
theorem Dst.symm {u v : Value} (h : Dst u v) : Dst v u := fun q hq he => h q he hq
theorem Sep.app2 {us vs : List Value} (h1 : Sep us) (h2 : Sep vs) (h : ∀ u ∈ us, ∀ v ∈ vs, Dst u v) : Sep (us ++ vs) := by
  intro i j a b hij ha hb
  by_cases hj : j < us.length
  · rw [List.getElem?_append_left hj] at hb
    rw [List.getElem?_append_left (by omega)] at ha
    exact h1 i j a b hij ha hb
  · rw [List.getElem?_append_right (by omega)] at hb
    by_cases hi : i < us.length
    · rw [List.getElem?_append_left hi] at ha
      cases hk : a.ownBlock with
      | none => exact .inl rfl
      | some k => exact .inr fun he => h a (List.mem_of_getElem? ha) b (List.mem_of_getElem? hb) k hk he.symm
    · rw [List.getElem?_append_right (by omega)] at ha
      exact h2 (i - us.length) (j - us.length) a b (by omega) ha hb
theorem Sep.dst {vs : List Value} (h : Sep vs) {i j : Nat} {u v : Value} (hij : i ≠ j) (hu : vs[i]? = some u) (hv : vs[j]? = some v) : Dst u v := by
  intro q hq he
  rcases Nat.lt_or_ge i j with hlt | hge
  · rcases h i j u v hlt hu hv with h1 | h1
    · rw [hq] at h1; cases h1
    · exact h1 (hq.trans he.symm)
  · rcases h j i v u (by omega) hv hu with h1 | h1
    · rw [he] at h1; cases h1
    · exact h1 (he.trans hq.symm)
/-- rows that lie one above the other are apart -/
theorem Sep.of_rising {rs : List Rw} (hs : Rising rs) (hr : ∀ r ∈ rs, ∀ k, r.v.ownBlock = some k → r.lo ≤ k ∧ k < r.hi) : Sep (rs.map Rw.v) := by
  intro i j u x hij hu hx
  rw [List.getElem?_map] at hu hx
  obtain ⟨a, ha, rfl⟩ := Option.map_eq_some_iff.1 hu
  obtain ⟨b, hb, rfl⟩ := Option.map_eq_some_iff.1 hx
  have h1 := hr a (List.mem_of_getElem? ha)
  have h2 := hr b (List.mem_of_getElem? hb)
  have h3 := hs i j a b hij ha hb
  cases hk : a.v.ownBlock with
  | none => exact .inl rfl
  | some k =>
    right
    intro he
    have h4 := h1 k hk
    have h5 := h2 k he.symm
    omega
/-- slices with what they hold: five, and then pair by pair -/
def rsK (five : List (Value × List UInt8)) (s t : Nat → Value) (d : Nat → List UInt8) : Nat → List (Value × List UInt8)
  | 0 => five
  | k + 1 => rsK five s t d k ++ [(s k, d k), (t k, d k)]
theorem rsK_mem {five : List (Value × List UInt8)} {s t : Nat → Value} {d : Nat → List UInt8} : ∀ {k : Nat} {r : Value × List UInt8}, r ∈ rsK five s t d k → r ∈ five ∨ ∃ i, i < k ∧ (r = (s i, d i) ∨ r = (t i, d i))
  | 0, r, h => .inl h
  | k + 1, r, h => by
    rw [rsK, List.mem_append] at h
    rcases h with h | h
    · rcases rsK_mem h with h | ⟨i, hi, h⟩
      · exact .inl h
      · exact .inr ⟨i, by omega, h⟩
    · simp only [List.mem_cons, List.not_mem_nil, or_false] at h
      exact .inr ⟨k, by omega, h⟩
theorem rsK_len (five : List (Value × List UInt8)) (s t : Nat → Value) (d : Nat → List UInt8) : ∀ k, (rsK five s t d k).length = five.length + 2 * k
  | 0 => rfl
  | k + 1 => by rw [rsK, List.length_append, rsK_len five s t d k]; simp; omega
theorem rsK_sep {five : List (Value × List UInt8)} {s t : Nat → Value} {d : Nat → List UInt8} (h5 : Sep (five.map Prod.fst)) {m : Nat}
    (h1 : ∀ i j, i < m → j < m → i ≠ j → Dst (s i) (s j)) (h2 : ∀ i j, i < m → j < m → i ≠ j → Dst (t i) (t j)) (h3 : ∀ i j, i < m → j < m → Dst (s i) (t j))
    (h4 : ∀ r ∈ five, ∀ i, i < m → Dst r.1 (s i) ∧ Dst r.1 (t i)) : ∀ k, k ≤ m → Sep ((rsK five s t d k).map Prod.fst)
  | 0, _ => h5
  | k + 1, hk => by
    rw [rsK, List.map_append]
    refine Sep.app2 (rsK_sep h5 h1 h2 h3 h4 k (by omega)) ?_ ?_
    · intro i j a b hij ha hb
      have hj := (List.getElem?_eq_some_iff.1 hb).1
      simp only [List.map_cons, List.map_nil, List.length_cons, List.length_nil] at hj
      obtain rfl : i = 0 := by omega
      obtain rfl : j = 1 := by omega
      simp at ha hb
      subst ha hb
      cases hq : (s k).ownBlock with
      | none => exact .inl rfl
      | some q => exact .inr fun he => h3 k k (by omega) (by omega) q hq he.symm
    · intro u hu v hv
      obtain ⟨r, hr, rfl⟩ := List.mem_map.1 hu
      simp only [List.map_cons, List.map_nil, List.mem_cons, List.not_mem_nil, or_false] at hv
      rcases rsK_mem hr with hr | ⟨i, hi, rfl | rfl⟩
      · rcases hv with rfl | rfl
        · exact (h4 r hr k (by omega)).1
        · exact (h4 r hr k (by omega)).2
      · rcases hv with rfl | rfl
        · exact h1 i k (by omega) (by omega) (by omega)
        · exact h3 i k (by omega) (by omega)
      · rcases hv with rfl | rfl
        · exact (h3 k i (by omega) (by omega)).symm
        · exact h2 i k (by omega) (by omega) (by omega)
def OwnAll (w : World) (base : Nat) (rs : List (Value × List UInt8)) : Prop := ∀ r ∈ rs, ∃ A n c, r.1 = .slice A n c ∧ w.ownsRow base 5 1 r.1 n (bv r.2)
theorem obv_of_all {w : World} {base m : Nat} {v : Value} {rs : List (Value × List UInt8)} (hl : rs.length = m) (ho : w.ownsRow base 23 1 v m (rs.map Prod.fst)) (hr : OwnAll w base rs) (hs : Sep (rs.map Prod.fst)) :
    OBV w base 5 23 v m (rs.map Prod.snd) (rs.map Prod.fst) := by
  refine OBV.of_sep (by simpa using hl) ho (fun i u hu => ?_) hs
  rw [List.getElem?_map] at hu
  obtain ⟨r, hri, rfl⟩ := Option.map_eq_some_iff.1 hu
  obtain ⟨A, n, c, h1, h2⟩ := hr r (List.mem_of_getElem? hri)
  have e : lat (rs.map Prod.snd) i = r.2 := by simp [lat, hri]
  rw [e]
  exact ⟨A, n, c, h1, h2⟩
/-- all the rows that the law holds on to -/
structure Rows5 (w : World) (base : Nat) (five : List (Value × List UInt8)) (v1 v2 : Value) (m : Nat) (ps : List Pt) (s1 s2 : List Value) : Prop where
  f : OwnAll w base five
  one : OP w base v1 m ps s1
  two : OP w base v2 m ps s2
section
variable {w w' : World} {base m : Nat} {five : List (Value × List UInt8)} {v1 v2 : Value} {ps : List Pt} {s1 s2 : List Value}
theorem OP.kept_t {v : Value} {ss : List Value} (h : OP w base v m ps ss) {x : Value} {n base' : Nat} {xs : List Value} (hx : w.ownsRow base' 23 1 x n xs) (hg : w.grownBy w' x.ownBlock) : OP w' base v m ps ss := by
  obtain ⟨h1, h2, h3, h4⟩ := h
  refine ⟨h1, h2, h3.kept hg (own_ne h3 hx (by decide)), fun i hi => ?_⟩
  obtain ⟨A, k, c, h5, h6⟩ := h4 i hi
  exact ⟨A, k, c, h5, h6.kept hg (own_ne h6 hx (by decide))⟩
theorem Rows5.kept (h : Rows5 w base five v1 v2 m ps s1 s2) {x : Value} {n base' : Nat} {xs : List Value} (hx : w.ownsRow base' 23 1 x n xs) (hg : w.grownBy w' x.ownBlock) : Rows5 w' base five v1 v2 m ps s1 s2 :=
  ⟨fun r hr => by
    obtain ⟨A, k, c, h5, h6⟩ := h.f r hr
    exact ⟨A, k, c, h5, h6.kept hg (own_ne h6 hx (by decide))⟩, h.one.kept_t hx hg, h.two.kept_t hx hg⟩
theorem Rows5.later (h : Rows5 w base five v1 v2 m ps s1 s2) (hb : Below w.heap.size w w') : Rows5 w' base five v1 v2 m ps s1 s2 :=
  ⟨fun r hr => by
    obtain ⟨A, k, c, h5, h6⟩ := h.f r hr
    exact ⟨A, k, c, h5, own_later h6 hb⟩, h.one.later hb, h.two.later hb⟩
end

set_option maxHeartbeats 4000000 in
set_option maxRecDepth 100000 in
theorem FrameKeeps_walk (A : Option Addr) (n c : Nat) (l : List UInt8) (id : Int) (w : World) (hr : RB w w.heap.size A n l) (hn : n ≤ 140737488355328) (hid : 0 ≤ id ∧ id ≤ 18446744073709551615) (hc : n ≤ c) :
    Calls Try.prog 8 #[.slice A n c, .int .u64 id] w (LawPost w) := by
  have HID := Lib.hid hid
  have HR := Lib.hid hr
  clear hr hid
  by_cases hbig : 2000 < n
  · have HRT := Lib.hid (HR.out.take (k := 2000) (by omega))
    have hsl : ∀ W, (Instr.slice 23 (.slice A n c) none (some (.int .i64 2000)) none).run Try.prog W = .ok (.slice A 2000 c) W := fun W => run_sl_hi TB W A n c .i64 2000 (by omega)
    have hc7 : 2000 ≤ c := by omega
    generalize l.take 2000 = lt at *
    generalize hnt : (2000 : Nat) = nt at HRT hc7
    have hnt7 : nt ≤ 2000 := by omega
    have hbi : (2000 : Int) < (n : Int) := by omega
    obtain ⟨f1, f2, f3, f4, f5, f6, f7⟩ := splN_facts (n := nt) (by omega)
    have HSP := Lib.hid (show ∀ A c w B, RB w B A nt lt → B ≤ w.heap.size → nt ≤ c → Calls Try.prog 10 #[.int .u64 id, .slice A nt c] w (RetPS w ((List.range (splN nt)).map (splP id lt (splN nt))) 0) from fun A c w B hr hB hc => by
      have h := Split_sep id A nt c lt w B hr hB hc (by omega)
      rw [show splE nt = 0 by rw [splE, if_neg (by omega)], show splL id lt = (List.range (splN nt)).map (splP id lt (splN nt)) by rw [splL, hr.len, if_neg (by omega)]] at h
      exact h)
    have hlm : lt.length ≤ splN nt * 450 := by rw [HRT.out.len]; exact f6
    have hip := IsPerm.init id lt (splN nt)
    have HIP := Lib.hid hip
    have hpl : ((List.range (splN nt)).map (splP id lt (splN nt))).length = splN nt := by simp
    generalize (List.range (splN nt)).map (splP id lt (splN nt)) = qs at *
    generalize splN nt = m at *
    have HMG := Lib.hid (hip.mrg (by omega) (by omega) hlm)
    have HQS := Lib.hid (hip.small)
    have HQO := Lib.hid (hip.ok (by have := HID.out; omega) (by omega))
    have HMC := Lib.hid (show ∀ (A : Option Addr) (c : Nat) (ss : List Value) (w : World) (base : Nat), OP w base (.slice A m c) m qs ss → Calls Try.prog 16 #[.slice A m c] w (RetBE w lt 0) from fun A c ss w base o => by
      have h1 := Merge_any A m c qs w w.heap.size (RP.of_own o) (Nat.le_refl _) (by omega) HQO.out (fun p hp => Nat.le_trans (HQS.out p hp) (by omega))
      rw [HMG.out.1, HMG.out.2] at h1
      exact h1)
    have HCK0 := Lib.hid (show (pat qs 0).chk = 0 from by
      obtain ⟨j, hj, e⟩ := hip.at_ (i := 0) (by omega)
      rw [e]
      exact splP_chk (by omega) hj)
    have HP0 := Lib.hid (HQO.out _ (pat_mem (ps := qs) (k := 0) (by omega)))
    have HD0 := Lib.hid (HQS.out _ (pat_mem (ps := qs) (k := 0) (by omega)))
    have dm0 : ((m : Int) == 0) = false := by simp; omega
    have hm0i : (0 : Int) < (m : Int) := by omega
    clear f1 f2 f5 f6 f7 hlm HMG hip HIP
    generalize hgw : w.heap.size = g0 at *
    have HG := Lib.hid hgw
    have hzw : g0 ≤ w.heap.size := by omega
    clear hgw
    go_enter Try.func8, Try.ntmps8
    go_wp2_with fail
    refine (awake_any w).mono ?_
    rintro e w1 ⟨rfl, hb⟩
    rw [HG.out] at hb
    have HB1 := Lib.hid hb
    have hz1 := hb.size
    clear hb
    go_wp2_with fail
    refine (Spare_any A nt c lt w1 g0 (HRT.out.below HB1.out) (by omega) (by omega)).mono ?_
    rintro e w2 ⟨gx, rfl, ho, hb⟩
    have HX := Lib.hid ho
    have HLX := Lib.hid (ho.lt gx rfl)
    have HRX := Lib.hid (show RB w2 w2.heap.size (some ⟨gx, 0, none⟩) nt lt from by
      have h := (RB.of_own ho).take (k := nt) (by omega)
      rw [show (spared lt).take nt = lt by rw [← HRT.out.len]; simp [spared]] at h
      exact h)
    have HB2 := Lib.hid (HB1.out.trans (hb.mono (by omega)))
    have hz2 := hb.size
    clear ho hb HB1
    go_wp2_with fail
    refine (HSP.out (some ⟨gx, 0, none⟩) (nt + 40) w2 w2.heap.size HRX.out (Nat.le_refl _) (by omega)).mono ?_
    rintro e w3 ⟨A3, m3, c3, s1, rfl, ho, hs1, hb⟩
    have hm3 : m = m3 := by rw [← ho.1, hpl]
    subst hm3
    obtain ⟨g3, rfl⟩ := op_some ho (by omega)
    have HO3 := Lib.hid ho
    have HS1 := Lib.hid hs1
    have HL1 := Lib.hid ho.lt
    have HX3 := Lib.hid (own_later HX.out hb)
    have HRX3 := Lib.hid (HRX.out.below hb)
    have HB3 := Lib.hid (HB2.out.trans (hb.mono (by omega)))
    have hz3 := hb.size
    clear ho hb HB2 hs1 HX HRX
    go_wp2_with fail
    refine (HSP.out (some ⟨gx, 0, none⟩) (nt + 40) w3 w2.heap.size HRX3.out hz3 (by omega)).mono ?_
    rintro e w4 ⟨A4, m4, c4, s2, rfl, ho, hs2, hb⟩
    have hm4 : m = m4 := by rw [← ho.1, hpl]
    subst hm4
    obtain ⟨g4, rfl⟩ := op_some ho (by omega)
    have HO34 := Lib.hid (HO3.out.later hb)
    have HO4 := Lib.hid ho
    have HS2 := Lib.hid hs2
    have HL2 := Lib.hid ho.lt
    have HX4 := Lib.hid (own_later HX3.out hb)
    have HB4 := Lib.hid (HB3.out.trans (hb.mono (by omega)))
    have hz4 := hb.size
    clear ho hb HB3 hs2 HX3 HRX3 HO3
    go_wp2_with fail
    refine (HMC.out _ c3 s1 w4 _ HO34.out).mono ?_
    rintro e w5 ⟨A5, n5, c5, rfl, hl5, ho, hb⟩
    have hn5 : n5 = nt := by rw [← hl5, HRT.out.len]
    subst hn5
    have HA5 := Lib.hid ho
    have HLA := Lib.hid ho.lt
    have HO35 := Lib.hid (HO34.out.later hb)
    have HO45 := Lib.hid (HO4.out.later hb)
    have HX5 := Lib.hid (own_later HX4.out hb)
    have HB5 := Lib.hid (HB4.out.trans (hb.mono (by omega)))
    have hz5 := hb.size
    clear ho hb hl5 HB4 HX4 HO34 HO4
    go_wp2_with fail
    refine (HMC.out _ c4 s2 w5 _ HO45.out).mono ?_
    rintro e w6 ⟨A6, n6, c6, rfl, hl6, ho, hb⟩
    have hn6 : n6 = n5 := by rw [← hl6, HRT.out.len]
    subst hn6
    have HA6 := Lib.hid (own_later HA5.out hb)
    have HBB6 := Lib.hid ho
    have HLB := Lib.hid ho.lt
    have HO36 := Lib.hid (HO35.out.later hb)
    have HO46 := Lib.hid (HO45.out.later hb)
    have HX6 := Lib.hid (own_later HX5.out hb)
    have HB6 := Lib.hid (HB5.out.trans (hb.mono (by omega)))
    have hz6 := hb.size
    clear ho hb hl6 HB5 HX5 HO35 HO45 HA5
    go_wp2_with fail
    refine (Kept_any (some ⟨gx, 0, none⟩) A n6 (n6 + 40) c lt w6 w6.heap.size g0 (RB.of_own HX6.out) (HRT.out.below HB6.out) (by omega)).mono ?_
    rintro e w7 ⟨rfl, k7, rfl⟩
    go_wp2_with fail
    refine (Equal_any A5 A n6 n6 c5 c lt lt (w6.drewN k7) w6.heap.size g0 ((RB.of_own HA6.out).drewN k7) ((HRT.out.below HB6.out).drewN k7) (by omega)).mono ?_
    rintro e w8 ⟨rfl, k8, rfl⟩
    rw [show decide (lt = lt) = true by simp]
    have HX8 := Lib.hid (show ((w6.drewN k7).drewN k8).ownsRow w1.heap.size 5 1 (.slice (some ⟨gx, 0, none⟩) (n6 + 40) (n6 + 40)) (n6 + 40) (bv (spared lt)) from HX6.out)
    have HA8 := Lib.hid (show ((w6.drewN k7).drewN k8).ownsRow w4.heap.size 5 1 (.slice A5 n6 c5) n6 (bv lt) from HA6.out)
    have HBB8 := Lib.hid (show ((w6.drewN k7).drewN k8).ownsRow w5.heap.size 5 1 (.slice A6 n6 c6) n6 (bv lt) from HBB6.out)
    have HO38 := Lib.hid (show OP ((w6.drewN k7).drewN k8) w2.heap.size (.slice (some ⟨g3, 0, none⟩) m c3) m qs s1 from HO36.out.later (below_drewN (below_drewN (Below.refl _ _) k7) k8))
    have HO48 := Lib.hid (show OP ((w6.drewN k7).drewN k8) w3.heap.size (.slice (some ⟨g4, 0, none⟩) m c4) m qs s2 from HO46.out.later (below_drewN (below_drewN (Below.refl _ _) k7) k8))
    have HB8 := Lib.hid (below_drewN (below_drewN HB6.out k7) k8)
    have hz8 : w6.heap.size = ((w6.drewN k7).drewN k8).heap.size := rfl
    clear HX6 HA6 HBB6 HO36 HO46 HB6
    generalize (w6.drewN k7).drewN k8 = w8 at *
    obtain ⟨Ai, ni, ci, _, oi, q0, q1, q2, q3, q4⟩ := HO38.out.cells (k := 0) (by omega)
    have q0' : w8.cell? ⟨g3, 0, none⟩ = some (.int .u8 (pat qs 0).k) := q0
    have q1' : w8.cell? ⟨g3, 1, none⟩ = some (.int .u64 (pat qs 0).id) := q1
    have q2' : w8.cell? ⟨g3, 2, none⟩ = some (.int .i64 (pat qs 0).ix) := q2
    have q3' : w8.cell? ⟨g3, 3, none⟩ = some (.int .i64 (pat qs 0).ct) := q3
    have q4' : w8.cell? ⟨g3, 4, none⟩ = some (.slice Ai ni ci) := q4
    have HOI := Lib.hid oi
    have hni : ni ≤ 450 := by have := HD0.out; have h2 := oi.1; rw [length_bv] at h2; omega
    have HFR := Lib.hid (show Calls Try.prog 23 #[.agg #[.int .u8 (pat qs 0).k, .int .u64 (pat qs 0).id, .int .i64 (pat qs 0).ix, .int .i64 (pat qs 0).ct, .slice Ai ni ci]] w8 (RetBE w8 (frmL (pat qs 0)) 0) from by
      have h := Frame_any (pat qs 0) Ai ni ci w8 w8.heap.size HP0.out (RB.of_own oi) (Nat.le_refl _) (by omega)
      rw [HCK0.out, show frmE (pat qs 0) = frmL (pat qs 0) by rw [frmE, if_pos HCK0.out]] at h
      exact h)
    have HFL := Lib.hid (length_frmL (pat qs 0) (by have := HD0.out; omega))
    have HPF := Lib.hid (parse_frm HP0.out HCK0.out)
    clear q0 q1 q2 q3 q4 oi
    generalize pat qs 0 = p0 at *
    go_wp2_with fail
    refine HFR.out.mono ?_
    rintro e w9 ⟨A9, n9, c9, rfl, hl9, ho, hb⟩
    have HF9 := Lib.hid ho
    have HLF := Lib.hid ho.lt
    have hn9 : n9 = 480 := by rw [← hl9]; exact HFL.out
    subst hn9
    have HX9 := Lib.hid (own_later HX8.out hb)
    have HA9 := Lib.hid (own_later HA8.out hb)
    have HBB9 := Lib.hid (own_later HBB8.out hb)
    have HO39 := Lib.hid (HO38.out.later hb)
    have HO49 := Lib.hid (HO48.out.later hb)
    have HB9 := Lib.hid (HB8.out.trans (hb.mono (by omega)))
    have hz9 := hb.size
    clear ho hb hl9 HB8 HX8 HA8 HBB8 HO38 HO48 HOI HFR q0' q1' q2' q3' q4'
    have HPA := Lib.hid (show Calls Try.prog 25 #[.slice A9 480 c9] w9 (RetPt w9 p0 0) from by
      have h := Parse_any A9 480 c9 (frmL p0) w9 w9.heap.size (RB.of_own HF9.out) (Nat.le_refl _) (by omega) (own_cap HF9.out)
      rw [HPF.out.1, HPF.out.2] at h
      exact h)
    go_wp2_with fail
    refine HPA.out.mono ?_
    rintro e w10 ⟨A10, n10, c10, he, ho, hb⟩
    have he' : e = .returned (.tuple #[.agg #[.int .u8 p0.k, .int .u64 p0.id, .int .i64 p0.ix, .int .i64 p0.ct, .slice A10 n10 c10], .int .i64 0]) := he
    subst he'
    clear he
    have HD10 := Lib.hid ho
    have HLD := Lib.hid ho.lt
    have HX10 := Lib.hid (own_later HX9.out hb)
    have HA10 := Lib.hid (own_later HA9.out hb)
    have HBB10 := Lib.hid (own_later HBB9.out hb)
    have HF10 := Lib.hid (own_later HF9.out hb)
    have HO310 := Lib.hid (HO39.out.later hb)
    have HO410 := Lib.hid (HO49.out.later hb)
    have HB10 := Lib.hid (HB9.out.trans (hb.mono (by omega)))
    have hz10 := hb.size
    clear ho hb HB9 HX9 HA9 HBB9 HF9 HO39 HO49 HPA
    go_wp2_with fail
    have hn10 : n10 ≤ 450 := by have h2 := HD10.out.1; have := HD0.out; rw [length_bv] at h2; omega
    obtain ⟨w11, hw11⟩ : ∃ w11, w10.alloc (.cells #[.int .u8 p0.k, .int .u64 p0.id, .int .i64 p0.ix, .int .i64 p0.ct, .slice A10 n10 c10] 47) = w11 := ⟨_, rfl⟩
    have hb11 : Below w10.heap.size w10 w11 := by rw [← hw11]; exact (Below.refl _ _).alloc (Nat.le_refl _) _
    rw [hw11]
    have hz11 := hb11.size
    have HE11 := Lib.hid (show w11.heap.size = w10.heap.size + 1 by rw [← hw11]; simp)
    clear hw11
    obtain ⟨five, h5⟩ : ∃ five : List (Value × List UInt8), five = [(.slice (some ⟨gx, 0, none⟩) (n6 + 40) (n6 + 40), spared lt), (.slice A5 n6 c5, lt), (.slice A6 n6 c6, lt), (.slice A9 480 c9, frmL p0), (.slice A10 n10 c10, p0.d)] := ⟨_, rfl⟩
    have hv12 := World.ownsRow_lit (base := g0) (e := 23) (size := 1) w11 #[.slice (some ⟨gx, 0, none⟩) (n6 + 40) (n6 + 40), .slice A5 n6 c5, .slice A6 n6 c6, .slice A9 480 c9, .slice A10 n10 c10] 5 (by omega) (by decide) rfl
    have hr12 : Rows5 w11 g0 five (.slice (some ⟨g3, 0, none⟩) m c3) (.slice (some ⟨g4, 0, none⟩) m c4) m qs s1 s2 := ⟨fun r hr => by
        rw [h5] at hr
        simp only [List.mem_cons, List.not_mem_nil, or_false] at hr
        rcases hr with rfl | rfl | rfl | rfl | rfl
        · exact ⟨_, _, _, rfl, own_later (own_base HX10.out (by omega)) hb11⟩
        · exact ⟨_, _, _, rfl, own_later (own_base HA10.out (by omega)) hb11⟩
        · exact ⟨_, _, _, rfl, own_later (own_base HBB10.out (by omega)) hb11⟩
        · exact ⟨_, _, _, rfl, own_later (own_base HF10.out (by omega)) hb11⟩
        · exact ⟨_, _, _, rfl, own_later (own_base HD10.out (by omega)) hb11⟩, (HO310.out.base_le (by omega)).later hb11, (HO410.out.base_le (by omega)).later hb11⟩
    have hb12 := (Below.refl w11.heap.size w11).alloc (Nat.le_refl _) (.cells #[.slice (some ⟨gx, 0, none⟩) (n6 + 40) (n6 + 40), .slice A5 n6 c5, .slice A6 n6 c6, .slice A9 480 c9, .slice A10 n10 c10] 23)
    have hx2 := (HX10.out.lt gx rfl)
    have HX2 := Lib.hid (show w1.heap.size ≤ gx ∧ gx < w2.heap.size from HLX.out)
    have HSP5 := Lib.hid (show ∀ s t : Nat → Value, (∀ i, s i = s1.getD i (.slice none 0 0)) → (∀ i, t i = s2.getD i (.slice none 0 0)) → Sh.Sep ((rsK five s t (fun i => (pat qs i).d) m).map Prod.fst) from by
      intro s t hs ht
      have es : ∀ i, i < m → s1[i]? = some (s i) := by
        intro i hi
        rw [hs, List.getD_eq_getElem?_getD, List.getElem?_eq_getElem (by rw [HO310.out.2.1]; exact hi), Option.getD_some]
      have et : ∀ i, i < m → s2[i]? = some (t i) := by
        intro i hi
        rw [ht, List.getD_eq_getElem?_getD, List.getElem?_eq_getElem (by rw [HO410.out.2.1]; exact hi), Option.getD_some]
      have rx : ∀ k, (Value.slice (some ⟨gx, 0, none⟩) (n6 + 40) (n6 + 40)).ownBlock = some k → w1.heap.size ≤ k ∧ k < w2.heap.size := by
        intro k hk
        have : gx = k := by simpa [Value.ownBlock] using hk
        have := HX2.out
        omega
      refine rsK_sep ?_ (fun i j hi hj hij => Sep.dst HS1.out hij (es i hi) (es j hj)) (fun i j hi hj hij => Sep.dst HS2.out hij (et i hi) (et j hj)) (fun i j hi hj q hq he => ?_) (fun r hr i hi => ?_) m (Nat.le_refl _)
      · rw [h5]
        have hris : Rising [⟨.slice (some ⟨gx, 0, none⟩) (n6 + 40) (n6 + 40), [], w1.heap.size, w2.heap.size⟩, ⟨.slice A5 n6 c5, [], w4.heap.size, w5.heap.size⟩, ⟨.slice A6 n6 c6, [], w5.heap.size, w6.heap.size⟩, ⟨.slice A9 480 c9, [], w8.heap.size, w9.heap.size⟩, ⟨.slice A10 n10 c10, [], w9.heap.size, w10.heap.size⟩] :=
          Rising.cons (by simp; omega) (Rising.cons (by simp; omega) (Rising.cons (by simp; omega) (Rising.cons (by simp) (Rising.cons (by simp) Rising.nil))))
        exact Sep.of_rising hris (by
          intro r hr
          simp only [List.mem_cons, List.not_mem_nil, or_false] at hr
          rcases hr with rfl | rfl | rfl | rfl | rfl
          · exact rx
          · exact HLA.out
          · exact HLB.out
          · exact HLF.out
          · exact HLD.out)
      · have a1 := HL1.out i _ (es i hi) q hq
        have a2 := HL2.out j _ (et j hj) q he
        omega
      · rw [h5] at hr
        simp only [List.mem_cons, List.not_mem_nil, or_false] at hr
        have b1 := HL1.out i _ (es i hi)
        have b2 := HL2.out i _ (et i hi)
        rcases hr with rfl | rfl | rfl | rfl | rfl
        · exact ⟨fun q hq he => by have := rx q hq; have := b1 q he; omega, fun q hq he => by have := rx q hq; have := b2 q he; omega⟩
        · exact ⟨fun q hq he => by have := HLA.out q hq; have := b1 q he; omega, fun q hq he => by have := HLA.out q hq; have := b2 q he; omega⟩
        · exact ⟨fun q hq he => by have := HLB.out q hq; have := b1 q he; omega, fun q hq he => by have := HLB.out q hq; have := b2 q he; omega⟩
        · exact ⟨fun q hq he => by have := HLF.out q hq; have := b1 q he; omega, fun q hq he => by have := HLF.out q hq; have := b2 q he; omega⟩
        · exact ⟨fun q hq he => by have := HLD.out q hq; have := b1 q he; omega, fun q hq he => by have := HLD.out q hq; have := b2 q he; omega⟩)
    have HF5 := Lib.hid (show ∀ r ∈ five, r.2.length ≤ 4000 from by
      intro r hr
      rw [h5] at hr
      simp only [List.mem_cons, List.not_mem_nil, or_false] at hr
      have e1 := HRT.out.len
      have e2 := HD0.out
      have e3 := HFL.out
      rcases hr with rfl | rfl | rfl | rfl | rfl
      · show (spared lt).length ≤ 4000
        rw [length_spared]; omega
      · show lt.length ≤ 4000
        omega
      · show lt.length ≤ 4000
        omega
      · show (frmL p0).length ≤ 4000
        omega
      · show p0.d.length ≤ 4000
        omega)
    have HV12 := Lib.hid (show (w11.alloc (.cells #[.slice (some ⟨gx, 0, none⟩) (n6 + 40) (n6 + 40), .slice A5 n6 c5, .slice A6 n6 c6, .slice A9 480 c9, .slice A10 n10 c10] 23)).ownsRow g0 23 1 (.slice (some ⟨w11.heap.size, 0, none⟩) 5 5) 5 (five.map Prod.fst) from by rw [h5]; exact hv12)
    have HFL5 := Lib.hid (show five.length = 5 by rw [h5]; rfl)
    have HR12 := Lib.hid (hr12.later hb12)
    have HB12 := Lib.hid ((HB10.out.trans (hb11.mono (by omega))).trans (hb12.mono (by omega)))
    obtain ⟨w12, hw12⟩ : ∃ w12, w11.alloc (.cells #[.slice (some ⟨gx, 0, none⟩) (n6 + 40) (n6 + 40), .slice A5 n6 c5, .slice A6 n6 c6, .slice A9 480 c9, .slice A10 n10 c10] 23) = w12 := ⟨_, rfl⟩
    rw [hw12] at HV12 HR12 HB12 ⊢
    have hz12 : w11.heap.size ≤ w12.heap.size := by rw [← hw12]; exact hb12.size
    clear hw12 hv12 hr12 hb12 hx2 HX10 HA10 HBB10 HF10 HD10 HO310 HO410 HB10 hb11 HX2 HLX HLA HLB HLF HLD HL1 HL2 HS1 HS2 h5
    obtain ⟨s, hs⟩ : ∃ s : Nat → Value, ∀ i, s i = s1.getD i (.slice none 0 0) := ⟨_, fun _ => rfl⟩
    obtain ⟨t, ht⟩ : ∃ t : Nat → Value, ∀ i, t i = s2.getD i (.slice none 0 0) := ⟨_, fun _ => rfl⟩
    have HSEP := Lib.hid (HSP5.out s t hs ht)
    have HSV := Lib.hid hs
    have HTV := Lib.hid ht
    clear hs ht HSP5
    generalize hd : (fun i => (pat qs i).d) = d at HSEP
    have HDV := Lib.hid hd
    clear hd
    go_loopw [19, 95] (fun v i wr => ∃ (k : Nat) (Ak : Option Addr) (ck : Nat), k ≤ m ∧ i = .int .i64 (k : Int) ∧ v = .slice Ak (5 + 2 * k) ck ∧ wr.ownsRow g0 23 1 (.slice Ak (5 + 2 * k) ck) (5 + 2 * k) ((rsK five s t d k).map Prod.fst) ∧ Rows5 wr g0 five (.slice (some ⟨g3, 0, none⟩) m c3) (.slice (some ⟨g4, 0, none⟩) m c4) m qs s1 s2 ∧ Below g0 w wr) (fun _ i _ => m - (intOf i).toNat)
    case atStart => exact ⟨0, some ⟨w11.heap.size, 0, none⟩, 5, by omega, rfl, by rw [HE11.out], HV12.out, HR12.out, HB12.out⟩
    case round =>
      obtain ⟨k, Ak, ck, hk, rfl, rfl, hv, hr, hb⟩ := hrel
      have HV := Lib.hid hv
      have HRW := Lib.hid hr
      have HB := Lib.hid hb
      have hzr := hb.size
      clear hv hr hb HV12 HR12 HB12
      by_cases hlt : k < m
      · have hlti : (k : Int) < (m : Int) := by omega
        obtain ⟨Aa, na, ca, ea, _, _, _, _, _, a4⟩ := HRW.out.one.cells hlt
        obtain ⟨Ab, nb, cb, eb, _, _, _, _, _, b4⟩ := HRW.out.two.cells hlt
        have hsk : s k = .slice Aa na ca := by rw [HSV.out, List.getD_eq_getElem?_getD, ea, Option.getD_some]
        have htk : t k = .slice Ab nb cb := by rw [HTV.out, List.getD_eq_getElem?_getD, eb, Option.getD_some]
        have hb1 := (Below.refl wr.drew.heap.size wr.drew).alloc (Nat.le_refl _) (.cells #[.slice Aa na ca, .slice Ab nb cb] 23)
        have HV1 := Lib.hid (own_later (show wr.drew.ownsRow g0 23 1 (.slice Ak (5 + 2 * k) ck) (5 + 2 * k) ((rsK five s t d k).map Prod.fst) from HV.out) hb1)
        have HRW1 := Lib.hid ((show Rows5 wr.drew g0 five (.slice (some ⟨g3, 0, none⟩) m c3) (.slice (some ⟨g4, 0, none⟩) m c4) m qs s1 s2 from HRW.out.later ((Below.refl _ _).drew)).later hb1)
        have HB1 := Lib.hid (HB.out.drew.trans (hb1.mono (by show g0 ≤ wr.heap.size; omega)))
        have HSK := Lib.hid (show (rsK five s t d (k + 1)).map Prod.fst = (rsK five s t d k).map Prod.fst ++ [.slice Aa na ca, .slice Ab nb cb] by rw [rsK, List.map_append, ← hsk, ← htk]; rfl)
        have hz1' : g0 ≤ (wr.drew.alloc (.cells #[.slice Aa na ca, .slice Ab nb cb] 23)).heap.size := by
          have h1 : wr.drew.heap.size = wr.heap.size := rfl
          simp [h1]; omega
        clear ea eb hsk htk hb1 HRW HV HB
        go_wp2_with fail
        refine wp_region_noPanic ?_
        refine wp_region_until (S := (fun w' => w'.cell? ⟨g3, k * 5 + 4, none⟩ = some (.slice Aa na ca) ∧ w'.cell? ⟨g4, k * 5 + 4, none⟩ = some (.slice Ab nb cb))) 11 (by kernel_rfl) ?_ (fun hHeld => ?_)
        · (try dsimp only)
          exact ⟨a4, b4⟩
        refine wpAnyU_takeY (i := 0) (v := ?v1) rfl (by kernel_rfl) (fun _ _ _ h => h) (Or.inl ⟨by rfl, ?y1⟩) (by assumption) ?r1
        case y1 => (intro W; first | (go_simp; done) | (go_simp; with_reducible rfl))
        (try simp only [List.getElem_toArray, List.getElem_cons_zero, Act.put, List.setIfInBounds_toArray, List.set_cons_zero, List.set_cons_succ])
        refine wpAnyU_takeY (i := 1) (v := ?v2) rfl (by kernel_rfl) (fun _ _ _ h => h) (Or.inl ⟨by rfl, ?y2⟩) (by assumption) ?r2
        case y2 => (intro W; first | (go_simp; done) | (go_simp; with_reducible rfl))
        (try simp only [List.getElem_toArray, List.getElem_cons_zero, List.getElem_cons_succ, Act.put, List.setIfInBounds_toArray, List.set_cons_zero, List.set_cons_succ])
        refine wpAnyU_takeY (i := 2) (v := ?v3) rfl (by kernel_rfl) (fun _ _ _ h => h) (Or.inl ⟨by rfl, ?y3⟩) (by assumption) ?r3
        case y3 => (intro W; first | (go_simp; done) | (go_simp; with_reducible rfl))
        (try simp only [List.getElem_toArray, List.getElem_cons_zero, List.getElem_cons_succ, Act.put, List.setIfInBounds_toArray, List.set_cons_zero, List.set_cons_succ])
        refine wpAnyU_takeY (i := 3) (v := ?v4) rfl (by kernel_rfl) (fun _ _ _ h => h) (Or.inl ⟨by rfl, ?y4⟩) (by assumption) ?r4
        case y4 => (intro W; first | (go_simp; done) | (go_simp; with_reducible rfl))
        (try simp only [List.getElem_toArray, List.getElem_cons_zero, List.getElem_cons_succ, Act.put, List.setIfInBounds_toArray, List.set_cons_zero, List.set_cons_succ])
        refine wpAnyU_takeY (i := 4) (v := ?v5) rfl (by kernel_rfl) (fun _ _ _ h => h) (Or.inl ⟨by rfl, ?y5⟩) (by assumption) ?r5
        case y5 => (intro W; first | (go_simp; done) | (go_simp; with_reducible rfl))
        (try simp only [List.getElem_toArray, List.getElem_cons_zero, List.getElem_cons_succ, Act.put, List.setIfInBounds_toArray, List.set_cons_zero, List.set_cons_succ])
        refine wpAnyU_takeW (i := 5) (v := ?v6) rfl (by kernel_rfl) (fun _ _ _ h => h) (Or.inl ⟨by rfl, ?y6⟩) (by assumption) ?r6
        case y6 => (intro W hSW; (try dsimp only at hSW); first | (go_simp; done) | (go_simp; with_reducible rfl))
        (try simp only [List.getElem_toArray, List.getElem_cons_zero, List.getElem_cons_succ, Act.put, List.setIfInBounds_toArray, List.set_cons_zero, List.set_cons_succ])
        refine wpAnyU_takeY (i := 6) (v := ?v7) rfl (by kernel_rfl) (fun _ _ _ h => h) (Or.inl ⟨by rfl, ?y7⟩) (by assumption) ?r7
        case y7 => (intro W; first | (go_simp; done) | (go_simp; with_reducible rfl))
        (try simp only [List.getElem_toArray, List.getElem_cons_zero, List.getElem_cons_succ, Act.put, List.setIfInBounds_toArray, List.set_cons_zero, List.set_cons_succ])
        refine wpAnyU_takeY (i := 7) (v := ?v8) rfl (by kernel_rfl) (fun _ _ _ h => h) (Or.inl ⟨by rfl, ?y8⟩) (by assumption) ?r8
        case y8 => (intro W; first | (go_simp; done) | (go_simp; with_reducible rfl))
        (try simp only [List.getElem_toArray, List.getElem_cons_zero, List.getElem_cons_succ, Act.put, List.setIfInBounds_toArray, List.set_cons_zero, List.set_cons_succ])
        refine wpAnyU_takeY (i := 8) (v := ?v9) rfl (by kernel_rfl) (fun _ _ _ h => h) (Or.inl ⟨by rfl, ?y9⟩) (by assumption) ?r9
        case y9 => (intro W; first | (go_simp; done) | (go_simp; with_reducible rfl))
        (try simp only [List.getElem_toArray, List.getElem_cons_zero, List.getElem_cons_succ, Act.put, List.setIfInBounds_toArray, List.set_cons_zero, List.set_cons_succ])
        refine wpAnyU_takeY (i := 9) (v := ?v10) rfl (by kernel_rfl) (fun _ _ _ h => h) (Or.inl ⟨by rfl, ?y10⟩) (by assumption) ?r10
        case y10 => (intro W; first | (go_simp; done) | (go_simp; with_reducible rfl))
        (try simp only [List.getElem_toArray, List.getElem_cons_zero, List.getElem_cons_succ, Act.put, List.setIfInBounds_toArray, List.set_cons_zero, List.set_cons_succ])
        refine wpAnyU_takeW (i := 10) (v := ?v11) rfl (by kernel_rfl) (fun _ _ _ h => h) (Or.inl ⟨by rfl, ?y11⟩) (by assumption) ?r11
        case y11 => (intro W hSW; (try dsimp only at hSW); first | (go_simp; done) | (go_simp; with_reducible rfl))
        (try simp only [List.getElem_toArray, List.getElem_cons_zero, List.getElem_cons_succ, Act.put, List.setIfInBounds_toArray, List.set_cons_zero, List.set_cons_succ])
        refine wpAnyU_at (c := 11) rfl (by kernel_rfl) (by rfl) (fun K hK => ?_)
        have HK := Lib.hid hK
        clear hK
        go_simp
        refine HK.out _ _ ?_
        clear HK K
        (try simp only [List.getElem_toArray, List.getElem_cons_zero, List.getElem_cons_succ, Act.put, List.setIfInBounds_toArray, List.set_cons_zero, List.set_cons_succ])
        refine wpAny_at (c := 12) rfl (by kernel_rfl) (by rfl) (fun K hK => ?_)
        have HK := Lib.hid hK
        clear hK
        refine wp_app TBB _ (.tmp 98) (.tmp 109) rfl (.slice Ak (5 + 2 * k) ck) rfl (some ⟨wr.heap.size, 0, none⟩) 2 2 rfl g0 (5 + 2 * k) _ HV1.out (wr.heap.size + 1) [.slice Aa na ca, .slice Ab nb cb] (Reads.lit wr.drew _ [.slice Aa na ca, .slice Ab nb cb] 2 1 rfl _ rfl) (by intro u hu; simp only [List.mem_cons, List.not_mem_nil, or_false] at hu; rcases hu with rfl | rfl <;> rfl) (by omega) (by omega) hz1' ?_
        intro A2 c2 w2' hown2 hg2 _
        have HV2 := Lib.hid hown2
        have HRW2 := Lib.hid (HRW1.out.kept HV1.out hg2)
        have HB2 := Lib.hid (HB1.out.grown hg2 hz1' (own_drop HV1.out))
        clear hown2 hg2 HV1 HRW1 HB1 hz1'
        refine HK.out _ _ ?_
        clear HK K
        (try simp only [List.getElem_toArray, List.getElem_cons_zero, List.getElem_cons_succ, Act.put, List.setIfInBounds_toArray, List.set_cons_zero, List.set_cons_succ])
        refine wpAny_takeY (i := 13) (v := ?v14) rfl (by kernel_rfl) (fun _ _ _ h => h) (Or.inl ⟨by rfl, ?y14⟩) ?r14
        case y14 => (intro W; first | (go_simp; done) | (go_simp; with_reducible rfl))
        (try simp only [List.getElem_toArray, List.getElem_cons_zero, List.getElem_cons_succ, Act.put, List.setIfInBounds_toArray, List.set_cons_zero, List.set_cons_succ])
        refine wpAny_done (by kernel_rfl) ?_ _
        refine NoPanic.normal ?_
        go_wp2_with fail
        refine ⟨⟨k + 1, A2, c2, by omega, by go_num, rfl, ?_, HRW2.out, HB2.out⟩, by simp [intOf]; omega⟩
        rw [HSK.out]
        exact HV2.out
      · obtain rfl : k = m := by omega
        have HOBV := Lib.hid (obv_of_all (base := g0) (by rw [rsK_len, HFL5.out]) HV.out (fun r hr => by
          rcases rsK_mem hr with h | ⟨i, hi, rfl | rfl⟩
          · exact HRW.out.f r h
          · obtain ⟨A', n', c', e1, e2⟩ := HRW.out.one.2.2.2 i hi
            refine ⟨A', n', c', by show s i = _; rw [HSV.out, List.getD_eq_getElem?_getD, e1, Option.getD_some], ?_⟩
            show wr.ownsRow g0 _ 1 (s i) n' (bv (d i))
            rw [HSV.out, List.getD_eq_getElem?_getD, e1, Option.getD_some, ← HDV.out]
            exact e2
          · obtain ⟨A', n', c', e1, e2⟩ := HRW.out.two.2.2.2 i hi
            refine ⟨A', n', c', by show t i = _; rw [HTV.out, List.getD_eq_getElem?_getD, e1, Option.getD_some], ?_⟩
            show wr.ownsRow g0 _ 1 (t i) n' (bv (d i))
            rw [HTV.out, List.getD_eq_getElem?_getD, e1, Option.getD_some, ← HDV.out]
            exact e2) HSEP.out)
        have HSM := Lib.hid (show ∀ x ∈ (rsK five s t d k).map Prod.snd, x.length ≤ 140737488355288 from by
          intro x hx
          obtain ⟨r, hr, rfl⟩ := List.mem_map.1 hx
          have hdl : ∀ i, i < k → (d i).length ≤ 450 := by
            intro i hi
            rw [← HDV.out]
            exact HQS.out _ (pat_mem (by rw [hpl]; exact hi))
          rcases rsK_mem hr with h | ⟨i, hi, rfl | rfl⟩
          · have := HF5.out r h; omega
          · have := hdl i hi; show (d i).length ≤ _; omega
          · have := hdl i hi; show (d i).length ≤ _; omega)
        clear HRW HV HSEP
        go_wp2_with fail
        refine (Apart_any Ak (5 + 2 * k) ck _ _ wr g0 HOBV.out (by omega) HSM.out (by omega)).mono ?_
        rintro e w20 ⟨rfl, hb⟩
        have HB20 := Lib.hid (HB.out.trans hb)
        clear hb
        go_wp2_with fail
        go_ret
        exact ⟨rfl, by rw [HG.out]; exact HB20.out⟩
  · have HRT := Lib.hid HR.out
    have hc7 : n ≤ c := hc
    have hnt7 : n ≤ 2000 := by omega
    have hbi : ¬ (2000 : Int) < (n : Int) := by omega
    obtain ⟨f1, f2, f3, f4, f5, f6, f7⟩ := splN_facts (n := n) (by omega)
    have HSP := Lib.hid (show ∀ A c w B, RB w B A n l → B ≤ w.heap.size → n ≤ c → Calls Try.prog 10 #[.int .u64 id, .slice A n c] w (RetPS w ((List.range (splN n)).map (splP id l (splN n))) 0) from fun A c w B hr hB hc => by
      have h := Split_sep id A n c l w B hr hB hc (by omega)
      rw [show splE n = 0 by rw [splE, if_neg (by omega)], show splL id l = (List.range (splN n)).map (splP id l (splN n)) by rw [splL, hr.len, if_neg (by omega)]] at h
      exact h)
    have hlm : l.length ≤ splN n * 450 := by rw [HRT.out.len]; exact f6
    have hip := IsPerm.init id l (splN n)
    have HIP := Lib.hid hip
    have hpl : ((List.range (splN n)).map (splP id l (splN n))).length = splN n := by simp
    generalize (List.range (splN n)).map (splP id l (splN n)) = qs at *
    generalize splN n = m at *
    have HMG := Lib.hid (hip.mrg (by omega) (by omega) hlm)
    have HQS := Lib.hid (hip.small)
    have HQO := Lib.hid (hip.ok (by have := HID.out; omega) (by omega))
    have HMC := Lib.hid (show ∀ (A : Option Addr) (c : Nat) (ss : List Value) (w : World) (base : Nat), OP w base (.slice A m c) m qs ss → Calls Try.prog 16 #[.slice A m c] w (RetBE w l 0) from fun A c ss w base o => by
      have h1 := Merge_any A m c qs w w.heap.size (RP.of_own o) (Nat.le_refl _) (by omega) HQO.out (fun p hp => Nat.le_trans (HQS.out p hp) (by omega))
      rw [HMG.out.1, HMG.out.2] at h1
      exact h1)
    have HCK0 := Lib.hid (show (pat qs 0).chk = 0 from by
      obtain ⟨j, hj, e⟩ := hip.at_ (i := 0) (by omega)
      rw [e]
      exact splP_chk (by omega) hj)
    have HP0 := Lib.hid (HQO.out _ (pat_mem (ps := qs) (k := 0) (by omega)))
    have HD0 := Lib.hid (HQS.out _ (pat_mem (ps := qs) (k := 0) (by omega)))
    have dm0 : ((m : Int) == 0) = false := by simp; omega
    have hm0i : (0 : Int) < (m : Int) := by omega
    clear f1 f2 f5 f6 f7 hlm HMG hip HIP
    generalize hgw : w.heap.size = g0 at *
    have HG := Lib.hid hgw
    have hzw : g0 ≤ w.heap.size := by omega
    clear hgw
    go_enter Try.func8, Try.ntmps8
    go_wp2_with fail
    refine (awake_any w).mono ?_
    rintro e w1 ⟨rfl, hb⟩
    rw [HG.out] at hb
    have HB1 := Lib.hid hb
    have hz1 := hb.size
    clear hb
    go_wp2_with fail
    refine (Spare_any A n c l w1 g0 (HRT.out.below HB1.out) (by omega) (by omega)).mono ?_
    rintro e w2 ⟨gx, rfl, ho, hb⟩
    have HX := Lib.hid ho
    have HLX := Lib.hid (ho.lt gx rfl)
    have HRX := Lib.hid (show RB w2 w2.heap.size (some ⟨gx, 0, none⟩) n l from by
      have h := (RB.of_own ho).take (k := n) (by omega)
      rw [show (spared l).take n = l by rw [← HRT.out.len]; simp [spared]] at h
      exact h)
    have HB2 := Lib.hid (HB1.out.trans (hb.mono (by omega)))
    have hz2 := hb.size
    clear ho hb HB1
    go_wp2_with fail
    refine (HSP.out (some ⟨gx, 0, none⟩) (n + 40) w2 w2.heap.size HRX.out (Nat.le_refl _) (by omega)).mono ?_
    rintro e w3 ⟨A3, m3, c3, s1, rfl, ho, hs1, hb⟩
    have hm3 : m = m3 := by rw [← ho.1, hpl]
    subst hm3
    obtain ⟨g3, rfl⟩ := op_some ho (by omega)
    have HO3 := Lib.hid ho
    have HS1 := Lib.hid hs1
    have HL1 := Lib.hid ho.lt
    have HX3 := Lib.hid (own_later HX.out hb)
    have HRX3 := Lib.hid (HRX.out.below hb)
    have HB3 := Lib.hid (HB2.out.trans (hb.mono (by omega)))
    have hz3 := hb.size
    clear ho hb HB2 hs1 HX HRX
    go_wp2_with fail
    refine (HSP.out (some ⟨gx, 0, none⟩) (n + 40) w3 w2.heap.size HRX3.out hz3 (by omega)).mono ?_
    rintro e w4 ⟨A4, m4, c4, s2, rfl, ho, hs2, hb⟩
    have hm4 : m = m4 := by rw [← ho.1, hpl]
    subst hm4
    obtain ⟨g4, rfl⟩ := op_some ho (by omega)
    have HO34 := Lib.hid (HO3.out.later hb)
    have HO4 := Lib.hid ho
    have HS2 := Lib.hid hs2
    have HL2 := Lib.hid ho.lt
    have HX4 := Lib.hid (own_later HX3.out hb)
    have HB4 := Lib.hid (HB3.out.trans (hb.mono (by omega)))
    have hz4 := hb.size
    clear ho hb HB3 hs2 HX3 HRX3 HO3
    go_wp2_with fail
    refine (HMC.out _ c3 s1 w4 _ HO34.out).mono ?_
    rintro e w5 ⟨A5, n5, c5, rfl, hl5, ho, hb⟩
    have hn5 : n5 = n := by rw [← hl5, HRT.out.len]
    subst hn5
    have HA5 := Lib.hid ho
    have HLA := Lib.hid ho.lt
    have HO35 := Lib.hid (HO34.out.later hb)
    have HO45 := Lib.hid (HO4.out.later hb)
    have HX5 := Lib.hid (own_later HX4.out hb)
    have HB5 := Lib.hid (HB4.out.trans (hb.mono (by omega)))
    have hz5 := hb.size
    clear ho hb hl5 HB4 HX4 HO34 HO4
    go_wp2_with fail
    refine (HMC.out _ c4 s2 w5 _ HO45.out).mono ?_
    rintro e w6 ⟨A6, n6, c6, rfl, hl6, ho, hb⟩
    have hn6 : n6 = n5 := by rw [← hl6, HRT.out.len]
    subst hn6
    have HA6 := Lib.hid (own_later HA5.out hb)
    have HBB6 := Lib.hid ho
    have HLB := Lib.hid ho.lt
    have HO36 := Lib.hid (HO35.out.later hb)
    have HO46 := Lib.hid (HO45.out.later hb)
    have HX6 := Lib.hid (own_later HX5.out hb)
    have HB6 := Lib.hid (HB5.out.trans (hb.mono (by omega)))
    have hz6 := hb.size
    clear ho hb hl6 HB5 HX5 HO35 HO45 HA5
    go_wp2_with fail
    refine (Kept_any (some ⟨gx, 0, none⟩) A n6 (n6 + 40) c l w6 w6.heap.size g0 (RB.of_own HX6.out) (HRT.out.below HB6.out) (by omega)).mono ?_
    rintro e w7 ⟨rfl, k7, rfl⟩
    go_wp2_with fail
    refine (Equal_any A5 A n6 n6 c5 c l l (w6.drewN k7) w6.heap.size g0 ((RB.of_own HA6.out).drewN k7) ((HRT.out.below HB6.out).drewN k7) (by omega)).mono ?_
    rintro e w8 ⟨rfl, k8, rfl⟩
    rw [show decide (l = l) = true by simp]
    have HX8 := Lib.hid (show ((w6.drewN k7).drewN k8).ownsRow w1.heap.size 5 1 (.slice (some ⟨gx, 0, none⟩) (n6 + 40) (n6 + 40)) (n6 + 40) (bv (spared l)) from HX6.out)
    have HA8 := Lib.hid (show ((w6.drewN k7).drewN k8).ownsRow w4.heap.size 5 1 (.slice A5 n6 c5) n6 (bv l) from HA6.out)
    have HBB8 := Lib.hid (show ((w6.drewN k7).drewN k8).ownsRow w5.heap.size 5 1 (.slice A6 n6 c6) n6 (bv l) from HBB6.out)
    have HO38 := Lib.hid (show OP ((w6.drewN k7).drewN k8) w2.heap.size (.slice (some ⟨g3, 0, none⟩) m c3) m qs s1 from HO36.out.later (below_drewN (below_drewN (Below.refl _ _) k7) k8))
    have HO48 := Lib.hid (show OP ((w6.drewN k7).drewN k8) w3.heap.size (.slice (some ⟨g4, 0, none⟩) m c4) m qs s2 from HO46.out.later (below_drewN (below_drewN (Below.refl _ _) k7) k8))
    have HB8 := Lib.hid (below_drewN (below_drewN HB6.out k7) k8)
    have hz8 : w6.heap.size = ((w6.drewN k7).drewN k8).heap.size := rfl
    clear HX6 HA6 HBB6 HO36 HO46 HB6
    generalize (w6.drewN k7).drewN k8 = w8 at *
    obtain ⟨Ai, ni, ci, _, oi, q0, q1, q2, q3, q4⟩ := HO38.out.cells (k := 0) (by omega)
    have q0' : w8.cell? ⟨g3, 0, none⟩ = some (.int .u8 (pat qs 0).k) := q0
    have q1' : w8.cell? ⟨g3, 1, none⟩ = some (.int .u64 (pat qs 0).id) := q1
    have q2' : w8.cell? ⟨g3, 2, none⟩ = some (.int .i64 (pat qs 0).ix) := q2
    have q3' : w8.cell? ⟨g3, 3, none⟩ = some (.int .i64 (pat qs 0).ct) := q3
    have q4' : w8.cell? ⟨g3, 4, none⟩ = some (.slice Ai ni ci) := q4
    have HOI := Lib.hid oi
    have hni : ni ≤ 450 := by have := HD0.out; have h2 := oi.1; rw [length_bv] at h2; omega
    have HFR := Lib.hid (show Calls Try.prog 23 #[.agg #[.int .u8 (pat qs 0).k, .int .u64 (pat qs 0).id, .int .i64 (pat qs 0).ix, .int .i64 (pat qs 0).ct, .slice Ai ni ci]] w8 (RetBE w8 (frmL (pat qs 0)) 0) from by
      have h := Frame_any (pat qs 0) Ai ni ci w8 w8.heap.size HP0.out (RB.of_own oi) (Nat.le_refl _) (by omega)
      rw [HCK0.out, show frmE (pat qs 0) = frmL (pat qs 0) by rw [frmE, if_pos HCK0.out]] at h
      exact h)
    have HFL := Lib.hid (length_frmL (pat qs 0) (by have := HD0.out; omega))
    have HPF := Lib.hid (parse_frm HP0.out HCK0.out)
    clear q0 q1 q2 q3 q4 oi
    generalize pat qs 0 = p0 at *
    go_wp2_with fail
    refine HFR.out.mono ?_
    rintro e w9 ⟨A9, n9, c9, rfl, hl9, ho, hb⟩
    have HF9 := Lib.hid ho
    have HLF := Lib.hid ho.lt
    have hn9 : n9 = 480 := by rw [← hl9]; exact HFL.out
    subst hn9
    have HX9 := Lib.hid (own_later HX8.out hb)
    have HA9 := Lib.hid (own_later HA8.out hb)
    have HBB9 := Lib.hid (own_later HBB8.out hb)
    have HO39 := Lib.hid (HO38.out.later hb)
    have HO49 := Lib.hid (HO48.out.later hb)
    have HB9 := Lib.hid (HB8.out.trans (hb.mono (by omega)))
    have hz9 := hb.size
    clear ho hb hl9 HB8 HX8 HA8 HBB8 HO38 HO48 HOI HFR q0' q1' q2' q3' q4'
    have HPA := Lib.hid (show Calls Try.prog 25 #[.slice A9 480 c9] w9 (RetPt w9 p0 0) from by
      have h := Parse_any A9 480 c9 (frmL p0) w9 w9.heap.size (RB.of_own HF9.out) (Nat.le_refl _) (by omega) (own_cap HF9.out)
      rw [HPF.out.1, HPF.out.2] at h
      exact h)
    go_wp2_with fail
    refine HPA.out.mono ?_
    rintro e w10 ⟨A10, n10, c10, he, ho, hb⟩
    have he' : e = .returned (.tuple #[.agg #[.int .u8 p0.k, .int .u64 p0.id, .int .i64 p0.ix, .int .i64 p0.ct, .slice A10 n10 c10], .int .i64 0]) := he
    subst he'
    clear he
    have HD10 := Lib.hid ho
    have HLD := Lib.hid ho.lt
    have HX10 := Lib.hid (own_later HX9.out hb)
    have HA10 := Lib.hid (own_later HA9.out hb)
    have HBB10 := Lib.hid (own_later HBB9.out hb)
    have HF10 := Lib.hid (own_later HF9.out hb)
    have HO310 := Lib.hid (HO39.out.later hb)
    have HO410 := Lib.hid (HO49.out.later hb)
    have HB10 := Lib.hid (HB9.out.trans (hb.mono (by omega)))
    have hz10 := hb.size
    clear ho hb HB9 HX9 HA9 HBB9 HF9 HO39 HO49 HPA
    go_wp2_with fail
    have hn10 : n10 ≤ 450 := by have h2 := HD10.out.1; have := HD0.out; rw [length_bv] at h2; omega
    obtain ⟨w11, hw11⟩ : ∃ w11, w10.alloc (.cells #[.int .u8 p0.k, .int .u64 p0.id, .int .i64 p0.ix, .int .i64 p0.ct, .slice A10 n10 c10] 47) = w11 := ⟨_, rfl⟩
    have hb11 : Below w10.heap.size w10 w11 := by rw [← hw11]; exact (Below.refl _ _).alloc (Nat.le_refl _) _
    rw [hw11]
    have hz11 := hb11.size
    have HE11 := Lib.hid (show w11.heap.size = w10.heap.size + 1 by rw [← hw11]; simp)
    clear hw11
    obtain ⟨five, h5⟩ : ∃ five : List (Value × List UInt8), five = [(.slice (some ⟨gx, 0, none⟩) (n6 + 40) (n6 + 40), spared l), (.slice A5 n6 c5, l), (.slice A6 n6 c6, l), (.slice A9 480 c9, frmL p0), (.slice A10 n10 c10, p0.d)] := ⟨_, rfl⟩
    have hv12 := World.ownsRow_lit (base := g0) (e := 23) (size := 1) w11 #[.slice (some ⟨gx, 0, none⟩) (n6 + 40) (n6 + 40), .slice A5 n6 c5, .slice A6 n6 c6, .slice A9 480 c9, .slice A10 n10 c10] 5 (by omega) (by decide) rfl
    have hr12 : Rows5 w11 g0 five (.slice (some ⟨g3, 0, none⟩) m c3) (.slice (some ⟨g4, 0, none⟩) m c4) m qs s1 s2 := ⟨fun r hr => by
        rw [h5] at hr
        simp only [List.mem_cons, List.not_mem_nil, or_false] at hr
        rcases hr with rfl | rfl | rfl | rfl | rfl
        · exact ⟨_, _, _, rfl, own_later (own_base HX10.out (by omega)) hb11⟩
        · exact ⟨_, _, _, rfl, own_later (own_base HA10.out (by omega)) hb11⟩
        · exact ⟨_, _, _, rfl, own_later (own_base HBB10.out (by omega)) hb11⟩
        · exact ⟨_, _, _, rfl, own_later (own_base HF10.out (by omega)) hb11⟩
        · exact ⟨_, _, _, rfl, own_later (own_base HD10.out (by omega)) hb11⟩, (HO310.out.base_le (by omega)).later hb11, (HO410.out.base_le (by omega)).later hb11⟩
    have hb12 := (Below.refl w11.heap.size w11).alloc (Nat.le_refl _) (.cells #[.slice (some ⟨gx, 0, none⟩) (n6 + 40) (n6 + 40), .slice A5 n6 c5, .slice A6 n6 c6, .slice A9 480 c9, .slice A10 n10 c10] 23)
    have hx2 := (HX10.out.lt gx rfl)
    have HX2 := Lib.hid (show w1.heap.size ≤ gx ∧ gx < w2.heap.size from HLX.out)
    have HSP5 := Lib.hid (show ∀ s t : Nat → Value, (∀ i, s i = s1.getD i (.slice none 0 0)) → (∀ i, t i = s2.getD i (.slice none 0 0)) → Sh.Sep ((rsK five s t (fun i => (pat qs i).d) m).map Prod.fst) from by
      intro s t hs ht
      have es : ∀ i, i < m → s1[i]? = some (s i) := by
        intro i hi
        rw [hs, List.getD_eq_getElem?_getD, List.getElem?_eq_getElem (by rw [HO310.out.2.1]; exact hi), Option.getD_some]
      have et : ∀ i, i < m → s2[i]? = some (t i) := by
        intro i hi
        rw [ht, List.getD_eq_getElem?_getD, List.getElem?_eq_getElem (by rw [HO410.out.2.1]; exact hi), Option.getD_some]
      have rx : ∀ k, (Value.slice (some ⟨gx, 0, none⟩) (n6 + 40) (n6 + 40)).ownBlock = some k → w1.heap.size ≤ k ∧ k < w2.heap.size := by
        intro k hk
        have : gx = k := by simpa [Value.ownBlock] using hk
        have := HX2.out
        omega
      refine rsK_sep ?_ (fun i j hi hj hij => Sep.dst HS1.out hij (es i hi) (es j hj)) (fun i j hi hj hij => Sep.dst HS2.out hij (et i hi) (et j hj)) (fun i j hi hj q hq he => ?_) (fun r hr i hi => ?_) m (Nat.le_refl _)
      · rw [h5]
        have hris : Rising [⟨.slice (some ⟨gx, 0, none⟩) (n6 + 40) (n6 + 40), [], w1.heap.size, w2.heap.size⟩, ⟨.slice A5 n6 c5, [], w4.heap.size, w5.heap.size⟩, ⟨.slice A6 n6 c6, [], w5.heap.size, w6.heap.size⟩, ⟨.slice A9 480 c9, [], w8.heap.size, w9.heap.size⟩, ⟨.slice A10 n10 c10, [], w9.heap.size, w10.heap.size⟩] :=
          Rising.cons (by simp; omega) (Rising.cons (by simp; omega) (Rising.cons (by simp; omega) (Rising.cons (by simp) (Rising.cons (by simp) Rising.nil))))
        exact Sep.of_rising hris (by
          intro r hr
          simp only [List.mem_cons, List.not_mem_nil, or_false] at hr
          rcases hr with rfl | rfl | rfl | rfl | rfl
          · exact rx
          · exact HLA.out
          · exact HLB.out
          · exact HLF.out
          · exact HLD.out)
      · have a1 := HL1.out i _ (es i hi) q hq
        have a2 := HL2.out j _ (et j hj) q he
        omega
      · rw [h5] at hr
        simp only [List.mem_cons, List.not_mem_nil, or_false] at hr
        have b1 := HL1.out i _ (es i hi)
        have b2 := HL2.out i _ (et i hi)
        rcases hr with rfl | rfl | rfl | rfl | rfl
        · exact ⟨fun q hq he => by have := rx q hq; have := b1 q he; omega, fun q hq he => by have := rx q hq; have := b2 q he; omega⟩
        · exact ⟨fun q hq he => by have := HLA.out q hq; have := b1 q he; omega, fun q hq he => by have := HLA.out q hq; have := b2 q he; omega⟩
        · exact ⟨fun q hq he => by have := HLB.out q hq; have := b1 q he; omega, fun q hq he => by have := HLB.out q hq; have := b2 q he; omega⟩
        · exact ⟨fun q hq he => by have := HLF.out q hq; have := b1 q he; omega, fun q hq he => by have := HLF.out q hq; have := b2 q he; omega⟩
        · exact ⟨fun q hq he => by have := HLD.out q hq; have := b1 q he; omega, fun q hq he => by have := HLD.out q hq; have := b2 q he; omega⟩)
    have HF5 := Lib.hid (show ∀ r ∈ five, r.2.length ≤ 4000 from by
      intro r hr
      rw [h5] at hr
      simp only [List.mem_cons, List.not_mem_nil, or_false] at hr
      have e1 := HRT.out.len
      have e2 := HD0.out
      have e3 := HFL.out
      rcases hr with rfl | rfl | rfl | rfl | rfl
      · show (spared l).length ≤ 4000
        rw [length_spared]; omega
      · show l.length ≤ 4000
        omega
      · show l.length ≤ 4000
        omega
      · show (frmL p0).length ≤ 4000
        omega
      · show p0.d.length ≤ 4000
        omega)
    have HV12 := Lib.hid (show (w11.alloc (.cells #[.slice (some ⟨gx, 0, none⟩) (n6 + 40) (n6 + 40), .slice A5 n6 c5, .slice A6 n6 c6, .slice A9 480 c9, .slice A10 n10 c10] 23)).ownsRow g0 23 1 (.slice (some ⟨w11.heap.size, 0, none⟩) 5 5) 5 (five.map Prod.fst) from by rw [h5]; exact hv12)
    have HFL5 := Lib.hid (show five.length = 5 by rw [h5]; rfl)
    have HR12 := Lib.hid (hr12.later hb12)
    have HB12 := Lib.hid ((HB10.out.trans (hb11.mono (by omega))).trans (hb12.mono (by omega)))
    obtain ⟨w12, hw12⟩ : ∃ w12, w11.alloc (.cells #[.slice (some ⟨gx, 0, none⟩) (n6 + 40) (n6 + 40), .slice A5 n6 c5, .slice A6 n6 c6, .slice A9 480 c9, .slice A10 n10 c10] 23) = w12 := ⟨_, rfl⟩
    rw [hw12] at HV12 HR12 HB12 ⊢
    have hz12 : w11.heap.size ≤ w12.heap.size := by rw [← hw12]; exact hb12.size
    clear hw12 hv12 hr12 hb12 hx2 HX10 HA10 HBB10 HF10 HD10 HO310 HO410 HB10 hb11 HX2 HLX HLA HLB HLF HLD HL1 HL2 HS1 HS2 h5
    obtain ⟨s, hs⟩ : ∃ s : Nat → Value, ∀ i, s i = s1.getD i (.slice none 0 0) := ⟨_, fun _ => rfl⟩
    obtain ⟨t, ht⟩ : ∃ t : Nat → Value, ∀ i, t i = s2.getD i (.slice none 0 0) := ⟨_, fun _ => rfl⟩
    have HSEP := Lib.hid (HSP5.out s t hs ht)
    have HSV := Lib.hid hs
    have HTV := Lib.hid ht
    clear hs ht HSP5
    generalize hd : (fun i => (pat qs i).d) = d at HSEP
    have HDV := Lib.hid hd
    clear hd
    go_loopw [19, 95] (fun v i wr => ∃ (k : Nat) (Ak : Option Addr) (ck : Nat), k ≤ m ∧ i = .int .i64 (k : Int) ∧ v = .slice Ak (5 + 2 * k) ck ∧ wr.ownsRow g0 23 1 (.slice Ak (5 + 2 * k) ck) (5 + 2 * k) ((rsK five s t d k).map Prod.fst) ∧ Rows5 wr g0 five (.slice (some ⟨g3, 0, none⟩) m c3) (.slice (some ⟨g4, 0, none⟩) m c4) m qs s1 s2 ∧ Below g0 w wr) (fun _ i _ => m - (intOf i).toNat)
    case atStart => exact ⟨0, some ⟨w11.heap.size, 0, none⟩, 5, by omega, rfl, by rw [HE11.out], HV12.out, HR12.out, HB12.out⟩
    case round =>
      obtain ⟨k, Ak, ck, hk, rfl, rfl, hv, hr, hb⟩ := hrel
      have HV := Lib.hid hv
      have HRW := Lib.hid hr
      have HB := Lib.hid hb
      have hzr := hb.size
      clear hv hr hb HV12 HR12 HB12
      by_cases hlt : k < m
      · have hlti : (k : Int) < (m : Int) := by omega
        obtain ⟨Aa, na, ca, ea, _, _, _, _, _, a4⟩ := HRW.out.one.cells hlt
        obtain ⟨Ab, nb, cb, eb, _, _, _, _, _, b4⟩ := HRW.out.two.cells hlt
        have hsk : s k = .slice Aa na ca := by rw [HSV.out, List.getD_eq_getElem?_getD, ea, Option.getD_some]
        have htk : t k = .slice Ab nb cb := by rw [HTV.out, List.getD_eq_getElem?_getD, eb, Option.getD_some]
        have hb1 := (Below.refl wr.drew.heap.size wr.drew).alloc (Nat.le_refl _) (.cells #[.slice Aa na ca, .slice Ab nb cb] 23)
        have HV1 := Lib.hid (own_later (show wr.drew.ownsRow g0 23 1 (.slice Ak (5 + 2 * k) ck) (5 + 2 * k) ((rsK five s t d k).map Prod.fst) from HV.out) hb1)
        have HRW1 := Lib.hid ((show Rows5 wr.drew g0 five (.slice (some ⟨g3, 0, none⟩) m c3) (.slice (some ⟨g4, 0, none⟩) m c4) m qs s1 s2 from HRW.out.later ((Below.refl _ _).drew)).later hb1)
        have HB1 := Lib.hid (HB.out.drew.trans (hb1.mono (by show g0 ≤ wr.heap.size; omega)))
        have HSK := Lib.hid (show (rsK five s t d (k + 1)).map Prod.fst = (rsK five s t d k).map Prod.fst ++ [.slice Aa na ca, .slice Ab nb cb] by rw [rsK, List.map_append, ← hsk, ← htk]; rfl)
        have hz1' : g0 ≤ (wr.drew.alloc (.cells #[.slice Aa na ca, .slice Ab nb cb] 23)).heap.size := by
          have h1 : wr.drew.heap.size = wr.heap.size := rfl
          simp [h1]; omega
        clear ea eb hsk htk hb1 HRW HV HB
        go_wp2_with fail
        refine wp_region_noPanic ?_
        refine wp_region_until (S := (fun w' => w'.cell? ⟨g3, k * 5 + 4, none⟩ = some (.slice Aa na ca) ∧ w'.cell? ⟨g4, k * 5 + 4, none⟩ = some (.slice Ab nb cb))) 11 (by kernel_rfl) ?_ (fun hHeld => ?_)
        · (try dsimp only)
          exact ⟨a4, b4⟩
        refine wpAnyU_takeY (i := 0) (v := ?v15) rfl (by kernel_rfl) (fun _ _ _ h => h) (Or.inl ⟨by rfl, ?y15⟩) (by assumption) ?r15
        case y15 => (intro W; first | (go_simp; done) | (go_simp; with_reducible rfl))
        (try simp only [List.getElem_toArray, List.getElem_cons_zero, Act.put, List.setIfInBounds_toArray, List.set_cons_zero, List.set_cons_succ])
        refine wpAnyU_takeY (i := 1) (v := ?v16) rfl (by kernel_rfl) (fun _ _ _ h => h) (Or.inl ⟨by rfl, ?y16⟩) (by assumption) ?r16
        case y16 => (intro W; first | (go_simp; done) | (go_simp; with_reducible rfl))
        (try simp only [List.getElem_toArray, List.getElem_cons_zero, List.getElem_cons_succ, Act.put, List.setIfInBounds_toArray, List.set_cons_zero, List.set_cons_succ])
        refine wpAnyU_takeY (i := 2) (v := ?v17) rfl (by kernel_rfl) (fun _ _ _ h => h) (Or.inl ⟨by rfl, ?y17⟩) (by assumption) ?r17
        case y17 => (intro W; first | (go_simp; done) | (go_simp; with_reducible rfl))
        (try simp only [List.getElem_toArray, List.getElem_cons_zero, List.getElem_cons_succ, Act.put, List.setIfInBounds_toArray, List.set_cons_zero, List.set_cons_succ])
        refine wpAnyU_takeY (i := 3) (v := ?v18) rfl (by kernel_rfl) (fun _ _ _ h => h) (Or.inl ⟨by rfl, ?y18⟩) (by assumption) ?r18
        case y18 => (intro W; first | (go_simp; done) | (go_simp; with_reducible rfl))
        (try simp only [List.getElem_toArray, List.getElem_cons_zero, List.getElem_cons_succ, Act.put, List.setIfInBounds_toArray, List.set_cons_zero, List.set_cons_succ])
        refine wpAnyU_takeY (i := 4) (v := ?v19) rfl (by kernel_rfl) (fun _ _ _ h => h) (Or.inl ⟨by rfl, ?y19⟩) (by assumption) ?r19
        case y19 => (intro W; first | (go_simp; done) | (go_simp; with_reducible rfl))
        (try simp only [List.getElem_toArray, List.getElem_cons_zero, List.getElem_cons_succ, Act.put, List.setIfInBounds_toArray, List.set_cons_zero, List.set_cons_succ])
        refine wpAnyU_takeW (i := 5) (v := ?v20) rfl (by kernel_rfl) (fun _ _ _ h => h) (Or.inl ⟨by rfl, ?y20⟩) (by assumption) ?r20
        case y20 => (intro W hSW; (try dsimp only at hSW); first | (go_simp; done) | (go_simp; with_reducible rfl))
        (try simp only [List.getElem_toArray, List.getElem_cons_zero, List.getElem_cons_succ, Act.put, List.setIfInBounds_toArray, List.set_cons_zero, List.set_cons_succ])
        refine wpAnyU_takeY (i := 6) (v := ?v21) rfl (by kernel_rfl) (fun _ _ _ h => h) (Or.inl ⟨by rfl, ?y21⟩) (by assumption) ?r21
        case y21 => (intro W; first | (go_simp; done) | (go_simp; with_reducible rfl))
        (try simp only [List.getElem_toArray, List.getElem_cons_zero, List.getElem_cons_succ, Act.put, List.setIfInBounds_toArray, List.set_cons_zero, List.set_cons_succ])
        refine wpAnyU_takeY (i := 7) (v := ?v22) rfl (by kernel_rfl) (fun _ _ _ h => h) (Or.inl ⟨by rfl, ?y22⟩) (by assumption) ?r22
        case y22 => (intro W; first | (go_simp; done) | (go_simp; with_reducible rfl))
        (try simp only [List.getElem_toArray, List.getElem_cons_zero, List.getElem_cons_succ, Act.put, List.setIfInBounds_toArray, List.set_cons_zero, List.set_cons_succ])
        refine wpAnyU_takeY (i := 8) (v := ?v23) rfl (by kernel_rfl) (fun _ _ _ h => h) (Or.inl ⟨by rfl, ?y23⟩) (by assumption) ?r23
        case y23 => (intro W; first | (go_simp; done) | (go_simp; with_reducible rfl))
        (try simp only [List.getElem_toArray, List.getElem_cons_zero, List.getElem_cons_succ, Act.put, List.setIfInBounds_toArray, List.set_cons_zero, List.set_cons_succ])
        refine wpAnyU_takeY (i := 9) (v := ?v24) rfl (by kernel_rfl) (fun _ _ _ h => h) (Or.inl ⟨by rfl, ?y24⟩) (by assumption) ?r24
        case y24 => (intro W; first | (go_simp; done) | (go_simp; with_reducible rfl))
        (try simp only [List.getElem_toArray, List.getElem_cons_zero, List.getElem_cons_succ, Act.put, List.setIfInBounds_toArray, List.set_cons_zero, List.set_cons_succ])
        refine wpAnyU_takeW (i := 10) (v := ?v25) rfl (by kernel_rfl) (fun _ _ _ h => h) (Or.inl ⟨by rfl, ?y25⟩) (by assumption) ?r25
        case y25 => (intro W hSW; (try dsimp only at hSW); first | (go_simp; done) | (go_simp; with_reducible rfl))
        (try simp only [List.getElem_toArray, List.getElem_cons_zero, List.getElem_cons_succ, Act.put, List.setIfInBounds_toArray, List.set_cons_zero, List.set_cons_succ])
        refine wpAnyU_at (c := 11) rfl (by kernel_rfl) (by rfl) (fun K hK => ?_)
        have HK := Lib.hid hK
        clear hK
        go_simp
        refine HK.out _ _ ?_
        clear HK K
        (try simp only [List.getElem_toArray, List.getElem_cons_zero, List.getElem_cons_succ, Act.put, List.setIfInBounds_toArray, List.set_cons_zero, List.set_cons_succ])
        refine wpAny_at (c := 12) rfl (by kernel_rfl) (by rfl) (fun K hK => ?_)
        have HK := Lib.hid hK
        clear hK
        refine wp_app TBB _ (.tmp 98) (.tmp 109) rfl (.slice Ak (5 + 2 * k) ck) rfl (some ⟨wr.heap.size, 0, none⟩) 2 2 rfl g0 (5 + 2 * k) _ HV1.out (wr.heap.size + 1) [.slice Aa na ca, .slice Ab nb cb] (Reads.lit wr.drew _ [.slice Aa na ca, .slice Ab nb cb] 2 1 rfl _ rfl) (by intro u hu; simp only [List.mem_cons, List.not_mem_nil, or_false] at hu; rcases hu with rfl | rfl <;> rfl) (by omega) (by omega) hz1' ?_
        intro A2 c2 w2' hown2 hg2 _
        have HV2 := Lib.hid hown2
        have HRW2 := Lib.hid (HRW1.out.kept HV1.out hg2)
        have HB2 := Lib.hid (HB1.out.grown hg2 hz1' (own_drop HV1.out))
        clear hown2 hg2 HV1 HRW1 HB1 hz1'
        refine HK.out _ _ ?_
        clear HK K
        (try simp only [List.getElem_toArray, List.getElem_cons_zero, List.getElem_cons_succ, Act.put, List.setIfInBounds_toArray, List.set_cons_zero, List.set_cons_succ])
        refine wpAny_takeY (i := 13) (v := ?v28) rfl (by kernel_rfl) (fun _ _ _ h => h) (Or.inl ⟨by rfl, ?y28⟩) ?r28
        case y28 => (intro W; first | (go_simp; done) | (go_simp; with_reducible rfl))
        (try simp only [List.getElem_toArray, List.getElem_cons_zero, List.getElem_cons_succ, Act.put, List.setIfInBounds_toArray, List.set_cons_zero, List.set_cons_succ])
        refine wpAny_done (by kernel_rfl) ?_ _
        refine NoPanic.normal ?_
        go_wp2_with fail
        refine ⟨⟨k + 1, A2, c2, by omega, by go_num, rfl, ?_, HRW2.out, HB2.out⟩, by simp [intOf]; omega⟩
        rw [HSK.out]
        exact HV2.out
      · obtain rfl : k = m := by omega
        have HOBV := Lib.hid (obv_of_all (base := g0) (by rw [rsK_len, HFL5.out]) HV.out (fun r hr => by
          rcases rsK_mem hr with h | ⟨i, hi, rfl | rfl⟩
          · exact HRW.out.f r h
          · obtain ⟨A', n', c', e1, e2⟩ := HRW.out.one.2.2.2 i hi
            refine ⟨A', n', c', by show s i = _; rw [HSV.out, List.getD_eq_getElem?_getD, e1, Option.getD_some], ?_⟩
            show wr.ownsRow g0 _ 1 (s i) n' (bv (d i))
            rw [HSV.out, List.getD_eq_getElem?_getD, e1, Option.getD_some, ← HDV.out]
            exact e2
          · obtain ⟨A', n', c', e1, e2⟩ := HRW.out.two.2.2.2 i hi
            refine ⟨A', n', c', by show t i = _; rw [HTV.out, List.getD_eq_getElem?_getD, e1, Option.getD_some], ?_⟩
            show wr.ownsRow g0 _ 1 (t i) n' (bv (d i))
            rw [HTV.out, List.getD_eq_getElem?_getD, e1, Option.getD_some, ← HDV.out]
            exact e2) HSEP.out)
        have HSM := Lib.hid (show ∀ x ∈ (rsK five s t d k).map Prod.snd, x.length ≤ 140737488355288 from by
          intro x hx
          obtain ⟨r, hr, rfl⟩ := List.mem_map.1 hx
          have hdl : ∀ i, i < k → (d i).length ≤ 450 := by
            intro i hi
            rw [← HDV.out]
            exact HQS.out _ (pat_mem (by rw [hpl]; exact hi))
          rcases rsK_mem hr with h | ⟨i, hi, rfl | rfl⟩
          · have := HF5.out r h; omega
          · have := hdl i hi; show (d i).length ≤ _; omega
          · have := hdl i hi; show (d i).length ≤ _; omega)
        clear HRW HV HSEP
        go_wp2_with fail
        refine (Apart_any Ak (5 + 2 * k) ck _ _ wr g0 HOBV.out (by omega) HSM.out (by omega)).mono ?_
        rintro e w20 ⟨rfl, hb⟩
        have HB20 := Lib.hid (HB.out.trans hb)
        clear hb
        go_wp2_with fail
        go_ret
        exact ⟨rfl, by rw [HG.out]; exact HB20.out⟩
end Go.Proofs.Ytgdelilanackhaa
