/-
  Contracts of shallottop.fewInts, shallottop.place and shallottop.swappedParts. Conditions: the sizes that slices can have.
-/
import Derived.Test.YtobmopjfbgkfbaaOrdersWords
import Derived.Test.YtobmopjfbgkfbaaUntil
namespace Go.Proofs.Ytobmopjfbgkfbaa
open Go Go.RowKit Go.Sh

theorem TIs : STy Try.prog 23 3 (.int .i64 0) 1 8 := ⟨Try.underlying23, by kernel_rfl, rfl, by decide⟩
theorem iv_take (zs : List Int) (k : Nat) : iv (zs.take k) = (iv zs).take k := by simp [iv, List.map_take]
/-- numbers in new memory are handed back -/
def RetI (w : World) (zs : List Int) (e : Ending) (w' : World) : Prop :=
  ∃ A n c, e = .returned (.slice A n c) ∧ zs.length = n ∧ w'.ownsRow w.heap.size 3 1 (.slice A n c) n (iv zs) ∧ Below w.heap.size w w'
theorem fewInts_any (A : Option Addr) (m c k : Nat) (zs : List Int) (w : World) (B : Nat) (hz : RI w B A m zs) (hB : B ≤ w.heap.size) (hc : m ≤ c) (hk : k ≤ 1000000) (hm : m ≤ 140737488355328) :
    Calls Try.prog 15 #[.slice A m c, .int .i64 (k : Int)] w (RetI w (zs.take k)) := by
  have HZ := Lib.hid hz
  by_cases hlt : k < m
  · have hi : (k : Int) < (m : Int) := by omega
    have hsl : ∀ W, (Instr.slice 23 (.slice A m c) none (some (.int .i64 (k : Int))) none).run Try.prog W = .ok (.slice A k c) W := fun W => run_sl_hi TIs W A m c .i64 k (by omega)
    have HT := Lib.hid (show Reads w B 1 A k (iv (zs.take k)) from by
      have h := hz.1.take (k := k) (by omega)
      rw [Nat.mul_one] at h
      rw [iv_take]
      exact h)
    have HL := Lib.hid (show (zs.take k).length = k by rw [List.length_take, hz.len]; omega)
    clear hz
    generalize zs.take k = zt at *
    go_enter Try.func15, Try.ntmps15
    go_wp2_with (at_builtin; refine wl_app TIs rfl (.tmp 12) (.tmp 13) rfl (.slice (some ⟨w.heap.size, 0, none⟩) 0 0) rfl A k c rfl w.heap.size 0 [] ?h1 B (iv zt) ?h2 (iv_one _) (by omega) (by omega) (by simp) ?h6)
    case h1 => exact World.ownsRow_lit w #[] 0 (Nat.le_refl _) (by simp) rfl
    case h2 => exact HT.out.alloc hB _
    case h6 =>
      intro A1 c1 w1 hown hg _
      try simp only [Nat.zero_add, List.nil_append] at hown ⊢
      go_wp2_with fail
      go_ret
      exact ⟨_, _, _, rfl, HL.out, hown, ((Below.refl _ _).alloc (Nat.le_refl _) _).grown hg (by simp) (by simp [Value.ownBlock])⟩
  · have hi : ¬ (k : Int) < (m : Int) := by omega
    have HL := Lib.hid (show (zs.take k).length = m by rw [List.length_take, hz.len]; omega)
    have HT := Lib.hid (show Reads w B 1 A m (iv (zs.take k)) from by
      rw [List.take_of_length_le (by rw [hz.len]; omega)]
      exact hz.1)
    clear hz
    generalize zs.take k = zt at *
    have hmb : (0 + m) * 8 ≤ 140737488355328 := by omega
    go_enter Try.func15, Try.ntmps15
    go_wp2_with (at_builtin; refine wl_app TIs rfl (.tmp 12) (.tmp 13) rfl (.slice (some ⟨w.heap.size, 0, none⟩) 0 0) rfl A m c rfl w.heap.size 0 [] ?h1 B (iv zt) ?h2 (iv_one _) hmb (by omega) (by simp) ?h6)
    case h1 => exact World.ownsRow_lit w #[] 0 (Nat.le_refl _) (by simp) rfl
    case h2 => exact HT.out.alloc hB _
    case h6 =>
      intro A1 c1 w1 hown hg _
      try simp only [Nat.zero_add, List.nil_append] at hown ⊢
      go_wp2_with fail
      go_ret
      exact ⟨_, _, _, rfl, HL.out, hown, ((Below.refl _ _).alloc (Nat.le_refl _) _).grown hg (by simp) (by simp [Value.ownBlock])⟩

/-- a swap's two places -/
def plA (k : Nat) (z : Int) (m : Nat) : Nat := if z < 0 then 0 else k % m
def plB (z : Int) (m : Nat) : Nat := if z < 0 then 0 else z.toNat % m
theorem plA_lt (k : Nat) (z : Int) {m : Nat} (h : 0 < m) : plA k z m < m := by
  unfold plA
  split
  · exact h
  · exact Nat.mod_lt _ h
theorem plB_lt (z : Int) {m : Nat} (h : 0 < m) : plB z m < m := by
  unfold plB
  split
  · exact h
  · exact Nat.mod_lt _ h
theorem place_any (k : Nat) (z : Int) (m : Nat) (w : World) (hm : 0 < m) (hk : k ≤ 140737488355328) (hm2 : m ≤ 140737488355328) :
    Calls Try.prog 61 #[.int .i64 (k : Int), .int .i64 z, .int .i64 (m : Int)] w (fun e w' => e = .returned (.tuple #[.int .i64 (plA k z m : Nat), .int .i64 (plB z m : Nat)]) ∧ ∃ d, w' = w.drewN d) := by
  by_cases hz : z < 0
  · have e1 : plA k z m = 0 := by rw [plA, if_pos hz]
    have e2 : plB z m = 0 := by rw [plB, if_pos hz]
    rw [e1, e2]
    go_enter Try.func61, Try.ntmps61
    go_wp2_with fail
    go_ret2
    exact ⟨rfl, 0, rfl⟩
  · have hra : (k : Int).tmod (m : Int) = ((plA k z m : Nat) : Int) := by rw [plA, if_neg hz, Int.tmod_eq_emod_of_nonneg (by omega)]; simp
    have hrb : z.tmod (m : Int) = ((plB z m : Nat) : Int) := by rw [plB, if_neg hz, Int.tmod_eq_emod_of_nonneg (by omega), Int.natCast_emod, Int.toNat_of_nonneg (by omega)]
    have hm0 : ¬ (m : Int) = 0 := by omega
    have ha := plA_lt k z hm
    have hb := plB_lt z hm
    generalize plA k z m = a at *
    generalize plB z m = b at *
    have wa : IntKind.i64.wrap (a : Int) = (a : Int) := by rw [IntKind.wrap_i64]; omega
    have wb : IntKind.i64.wrap (b : Int) = (b : Int) := by rw [IntKind.wrap_i64]; omega
    go_enter Try.func61, Try.ntmps61
    go_wp2_with fail
    go_quiet (fail)
    go_wp2_with fail
    go_ret2
    exact ⟨rfl, nq, rfl⟩

set_option maxHeartbeats 4000000 in
set_option maxRecDepth 100000 in
theorem swappedParts_any (id : Int) (l : List UInt8) (A : Option Addr) (m c : Nat) (qs0 : List Pt) (ss0 : List Value) (A2 : Option Addr) (n2 c2 : Nat) (zz : List Int) (w : World) (base B : Nat) (ho : OP w base (.slice A m c) m qs0 ss0) (hp : IsPerm id l m qs0) (hz : RI w B A2 n2 zz)
    (hbase : base ≤ w.heap.size) (hB : B ≤ w.heap.size) (hm : 0 < m) (hm2 : m ≤ 16) (hn2 : n2 ≤ 140737488355328) :
    Calls Try.prog 24 #[.slice A m c, .slice A2 n2 c2] w (fun e w' => ∃ A' c' qs ss, e = .returned (.slice A' m c') ∧ IsPerm id l m qs ∧ OP w' base (.slice A' m c') m qs ss ∧ Below w.heap.size w w') := by
  have HO0 := Lib.hid ho
  have HP0 := Lib.hid hp
  have HZ := Lib.hid hz
  clear ho hp hz
  generalize hgw : w.heap.size = g0 at *
  have HG := Lib.hid hgw
  clear hgw
  have dm0 : (0 : Int) < (m : Int) := by omega
  go_enter Try.func24, Try.ntmps24
  have HR0 := Lib.hid (Reads.of_own HO0.out.2.2.1)
  go_wp2_with (at_builtin; refine wl_app TP rfl (.tmp 10) (.tmp 11) rfl (.slice (some ⟨w.heap.size, 0, none⟩) 0 0) rfl A m c rfl g0 0 [] ?h1 w.heap.size (pcells qs0 ss0) ?h2 (pcells_one _ _ HO0.out.sl) (by omega) (by omega) ?h5 ?h6)
  case h1 => exact World.ownsRow_lit w #[] 0 (by rw [HG.out]; exact Nat.le_refl _) (by simp) rfl
  case h2 => exact HR0.out.alloc (Nat.le_refl _) _
  case h5 => simp; have := HG.out; omega
  case h6 =>
    intro A1 c1 w1 hown hg hat
    try simp only [Nat.zero_add, List.nil_append] at hown hg hat ⊢
    have hbw : Below g0 w w1 := ((Below.refl g0 w).alloc (by rw [HG.out]; exact Nat.le_refl _) _).grown hg (by simp; have := HG.out; omega) (fun q hq => by simp [Value.ownBlock, HG.out] at hq; omega)
    have ho1 : OP w1 base (.slice A1 m c1) m qs0 ss0 := by
      refine ⟨HO0.out.1, HO0.out.2.1, own_base hown hbase, fun i hi => ?_⟩
      obtain ⟨Ai, ni, ci, h5, h6⟩ := HO0.out.2.2.2 i hi
      exact ⟨Ai, ni, ci, h5, own_later h6 (hbw.mono (by rw [HG.out]; exact Nat.le_refl _))⟩
    obtain ⟨g1, rfl⟩ := op_some ho1 hm
    have hg1 : g0 ≤ g1 := (hown.lt g1 rfl).1
    have HO1 := Lib.hid ho1
    have HB1 := Lib.hid hbw
    clear hown hg hat hbw ho1 HR0
    go_wp2_with fail
    go_loopw [15] (fun i wr => ∃ (k : Nat) (qs : List Pt) (ss : List Value), k ≤ n2 ∧ i = .int .i64 (k : Int) ∧ IsPerm id l m qs ∧ OP wr base (.slice (some ⟨g1, 0, none⟩) m c1) m qs ss ∧ Below g0 w wr) (fun i _ => n2 - (intOf i).toNat)
    case atStart => exact ⟨0, qs0, ss0, by omega, rfl, HP0.out, HO1.out, HB1.out⟩
    case round =>
      obtain ⟨k, qs, ss, hk, rfl, hp, ho, hb⟩ := hrel
      have HP := Lib.hid hp
      have HO := Lib.hid ho
      have HB := Lib.hid hb
      have hzr := hb.size
      clear hp ho hb HO1 HB1 HP0
      by_cases hlt : k < n2
      · obtain ⟨ad2, rfl, hab2, hzc, hz1', hz2'⟩ := (RI.below HZ.out (HB.out.mono hB)).at_ hlt
        generalize it zz k = z at *
        have hpl := place_any k z m wr hm (by omega) (by omega)
        have ha := plA_lt k z hm
        have hb := plB_lt z hm
        generalize plA k z m = a at *
        generalize plB z m = b at *
        have HPL := Lib.hid hpl
        clear hpl
        go_wp2_with fail
        refine HPL.out.mono ?_
        rintro e w5 ⟨rfl, d5, rfl⟩
        have HO5' := Lib.hid (show OP (wr.drewN d5) base (.slice (some ⟨g1, 0, none⟩) m c1) m qs ss from HO.out.later (below_drewN (Below.refl _ _) d5))
        have HB5' := Lib.hid (below_drewN HB.out d5)
        clear HO HB HPL hzc
        generalize wr.drewN d5 = w5 at *
        have HO := HO5'
        have HB := HB5'
        clear HO5' HB5'
        obtain ⟨Aa, na, ca, ea, oa, a0, a1, a2, a3, a4⟩ := HO.out.cells ha
        obtain ⟨Ab, nb, cb, eb, ob, b0, b1, b2, b3, b4⟩ := HO.out.cells hb
        obtain ⟨cur, hcur, d1, d2, d3, c4, c5⟩ := own_blk HO.out.2.2.1
        have hz0 : 0 < m := by omega
        have hia : (a : Int) < (m : Int) := by omega
        have hib : (b : Int) < (m : Int) := by omega
        have HPS := Lib.hid (HP.out.swap ha hb)
        have HCUR := Lib.hid hcur
        have HPA := Lib.hid (show ∃ x, x = pat qs a from ⟨_, rfl⟩)
        have hO5 := HO.out.put ha (show w5.drew.heap[g1]? = some (.cells cur 56 (0, 0)) from hcur) (p := pat qs b) (show w5.drew.ownsRow base 5 1 (.slice Ab nb cb) nb (bv (pat qs b).d) from ob)
        have hob5 : (w5.drew.setRow g1 (cur.toList.take (a * 5) ++ pcell (pat qs b) (.slice Ab nb cb) ++ cur.toList.drop (a * 5 + 5)).toArray).ownsRow base 5 1 (.slice Aa na ca) na (bv (pat qs a).d) := (show w5.drew.ownsRow base 5 1 (.slice Aa na ca) na (bv (pat qs a).d) from oa).kept (grown_setRow _ g1 _) (by rcases own_ne oa HO.out.2.2.1 (by decide) with h | h; exact .inl h; exact .inr h)
        have hcur5 : (w5.drew.setRow g1 (cur.toList.take (a * 5) ++ pcell (pat qs b) (.slice Ab nb cb) ++ cur.toList.drop (a * 5 + 5)).toArray).heap[g1]? = some (.cells (cur.toList.take (a * 5) ++ pcell (pat qs b) (.slice Ab nb cb) ++ cur.toList.drop (a * 5 + 5)).toArray 56 (0, 0)) := setRow_heap _ g1 _ _ _ _ hcur
        have hO6 := hO5.put hb hcur5 (p := pat qs a) hob5
        have HO6 := Lib.hid hO6
        have HCUR5 := Lib.hid hcur5
        have HSZ5 := Lib.hid (show (cur.toList.take (a * 5) ++ pcell (pat qs b) (.slice Ab nb cb) ++ cur.toList.drop (a * 5 + 5)).length = c1 * 5 by
          simp only [List.length_append, List.length_take, List.length_drop, Array.length_toList, length_pcell, c4]
          omega)
        clear ea eb oa ob hcur c5 hO5 hO6 hob5 hcur5 HPA
        generalize pat qs a = pa at *
        generalize pat qs b = pb at *
        go_wp2_with fail
        refine wp_region_noPanic ?_
        refine wp_region_until (S := (fun w' => w'.cell? ⟨g1, a * 5, none⟩ = some (.int .u8 pa.k) ∧ w'.cell? ⟨g1, a * 5 + 1, none⟩ = some (.int .u64 pa.id) ∧ w'.cell? ⟨g1, a * 5 + 2, none⟩ = some (.int .i64 pa.ix) ∧ w'.cell? ⟨g1, a * 5 + 3, none⟩ = some (.int .i64 pa.ct) ∧ w'.cell? ⟨g1, a * 5 + 4, none⟩ = some (.slice Aa na ca) ∧ w'.cell? ⟨g1, b * 5, none⟩ = some (.int .u8 pb.k) ∧ w'.cell? ⟨g1, b * 5 + 1, none⟩ = some (.int .u64 pb.id) ∧ w'.cell? ⟨g1, b * 5 + 2, none⟩ = some (.int .i64 pb.ix) ∧ w'.cell? ⟨g1, b * 5 + 3, none⟩ = some (.int .i64 pb.ct) ∧ w'.cell? ⟨g1, b * 5 + 4, none⟩ = some (.slice Ab nb cb))) 13 (by kernel_rfl) ?_ (fun hHeld => ?_)
        · (try dsimp only)
          exact ⟨a0, a1, a2, a3, a4, b0, b1, b2, b3, b4⟩
        refine wpAnyU_takeY (i := 0) (v := ?v1) rfl (by kernel_rfl) (fun _ _ _ h => h) (Or.inl ⟨by rfl, ?y1⟩) (by assumption) ?r1
        case y1 => (intro W; first | (go_simp; done) | (go_simp; with_reducible rfl))
        (try simp only [List.getElem_toArray, List.getElem_cons_zero, Act.put, List.setIfInBounds_toArray, List.set_cons_zero, List.set_cons_succ])
        refine wpAnyU_takeY (i := 1) (v := ?v2) rfl (by kernel_rfl) (fun _ _ _ h => h) (Or.inl ⟨by rfl, ?y2⟩) (by assumption) ?r2
        case y2 => (intro W; first | (go_simp; done) | (go_simp; with_reducible rfl))
        (try simp only [List.getElem_toArray, List.getElem_cons_zero, List.getElem_cons_succ, Act.put, List.setIfInBounds_toArray, List.set_cons_zero, List.set_cons_succ])
        refine wpAnyU_takeY (i := 2) (v := ?v3) rfl (by kernel_rfl) (fun _ _ _ h => h) (Or.inl ⟨by rfl, ?y3⟩) (by assumption) ?r3
        case y3 => (intro W; first | (go_simp; done) | (go_simp; with_reducible rfl))
        (try simp only [List.getElem_toArray, List.getElem_cons_zero, List.getElem_cons_succ, Act.put, List.setIfInBounds_toArray, List.set_cons_zero, List.set_cons_succ])
        refine wpAnyU_takeY (i := 3) (v := ?v4) rfl (by kernel_rfl) (fun _ _ _ h => h) (Or.inl ⟨by rfl, ?y4⟩) (by assumption) ?r4
        case y4 => (intro W; first | (go_simp; done) | (go_simp; with_reducible rfl))
        (try simp only [List.getElem_toArray, List.getElem_cons_zero, List.getElem_cons_succ, Act.put, List.setIfInBounds_toArray, List.set_cons_zero, List.set_cons_succ])
        refine wpAnyU_takeY (i := 4) (v := ?v5) rfl (by kernel_rfl) (fun _ _ _ h => h) (Or.inl ⟨by rfl, ?y5⟩) (by assumption) ?r5
        case y5 => (intro W; first | (go_simp; done) | (go_simp; with_reducible rfl))
        (try simp only [List.getElem_toArray, List.getElem_cons_zero, List.getElem_cons_succ, Act.put, List.setIfInBounds_toArray, List.set_cons_zero, List.set_cons_succ])
        refine wpAnyU_takeY (i := 5) (v := ?v6) rfl (by kernel_rfl) (fun _ _ _ h => h) (Or.inl ⟨by rfl, ?y6⟩) (by assumption) ?r6
        case y6 => (intro W; first | (go_simp; done) | (go_simp; with_reducible rfl))
        (try simp only [List.getElem_toArray, List.getElem_cons_zero, List.getElem_cons_succ, Act.put, List.setIfInBounds_toArray, List.set_cons_zero, List.set_cons_succ])
        refine wpAnyU_takeY (i := 6) (v := ?v7) rfl (by kernel_rfl) (fun _ _ _ h => h) (Or.inl ⟨by rfl, ?y7⟩) (by assumption) ?r7
        case y7 => (intro W; first | (go_simp; done) | (go_simp; with_reducible rfl))
        (try simp only [List.getElem_toArray, List.getElem_cons_zero, List.getElem_cons_succ, Act.put, List.setIfInBounds_toArray, List.set_cons_zero, List.set_cons_succ])
        refine wpAnyU_takeW (i := 7) (v := ?v8) rfl (by kernel_rfl) (fun _ _ _ h => h) (Or.inl ⟨by rfl, ?y8⟩) (by assumption) ?r8
        case y8 => (intro W hSW; (try dsimp only at hSW); first | (go_simp; done) | (go_simp; with_reducible rfl))
        (try simp only [List.getElem_toArray, List.getElem_cons_zero, List.getElem_cons_succ, Act.put, List.setIfInBounds_toArray, List.set_cons_zero, List.set_cons_succ])
        refine wpAnyU_takeY (i := 8) (v := ?v9) rfl (by kernel_rfl) (fun _ _ _ h => h) (Or.inl ⟨by rfl, ?y9⟩) (by assumption) ?r9
        case y9 => (intro W; first | (go_simp; done) | (go_simp; with_reducible rfl))
        (try simp only [List.getElem_toArray, List.getElem_cons_zero, List.getElem_cons_succ, Act.put, List.setIfInBounds_toArray, List.set_cons_zero, List.set_cons_succ])
        refine wpAnyU_takeY (i := 9) (v := ?v10) rfl (by kernel_rfl) (fun _ _ _ h => h) (Or.inl ⟨by rfl, ?y10⟩) (by assumption) ?r10
        case y10 => (intro W; first | (go_simp; done) | (go_simp; with_reducible rfl))
        (try simp only [List.getElem_toArray, List.getElem_cons_zero, List.getElem_cons_succ, Act.put, List.setIfInBounds_toArray, List.set_cons_zero, List.set_cons_succ])
        refine wpAnyU_takeY (i := 10) (v := ?v11) rfl (by kernel_rfl) (fun _ _ _ h => h) (Or.inl ⟨by rfl, ?y11⟩) (by assumption) ?r11
        case y11 => (intro W; first | (go_simp; done) | (go_simp; with_reducible rfl))
        (try simp only [List.getElem_toArray, List.getElem_cons_zero, List.getElem_cons_succ, Act.put, List.setIfInBounds_toArray, List.set_cons_zero, List.set_cons_succ])
        refine wpAnyU_takeW (i := 11) (v := ?v12) rfl (by kernel_rfl) (fun _ _ _ h => h) (Or.inl ⟨by rfl, ?y12⟩) (by assumption) ?r12
        case y12 => (intro W hSW; (try dsimp only at hSW); first | (go_simp; done) | (go_simp; with_reducible rfl))
        (try simp only [List.getElem_toArray, List.getElem_cons_zero, List.getElem_cons_succ, Act.put, List.setIfInBounds_toArray, List.set_cons_zero, List.set_cons_succ])
        refine wpAnyU_takeY (i := 12) (v := ?v13) rfl (by kernel_rfl) (fun _ _ _ h => h) (Or.inl ⟨by rfl, ?y13⟩) (by assumption) ?r13
        case y13 => (intro W; first | (go_simp; done) | (go_simp; with_reducible rfl))
        (try simp only [List.getElem_toArray, List.getElem_cons_zero, List.getElem_cons_succ, Act.put, List.setIfInBounds_toArray, List.set_cons_zero, List.set_cons_succ])
        refine wpAnyU_at (c := 13) rfl (by kernel_rfl) (by rfl) (fun K hK => ?_)
        have HK := Lib.hid hK
        clear hK
        refine wp_store_blk 56 (.tmp 43) (.tmp 38) rfl g1 (a * 5) (pcell pb (.slice Ab nb cb)).toArray rfl rfl cur 56 HCUR.out (by rw [c4]; show a * 5 + 5 ≤ c1 * 5; omega) infoP (pcell_one _ _ _ _) ?_
        refine HK.out _ _ ?_
        clear HK K
        (try simp only [List.getElem_toArray, List.getElem_cons_zero, List.getElem_cons_succ, Act.put])
        refine wpAny_takeY (i := 14) (v := ?v15) rfl (by kernel_rfl) (fun _ _ _ h => h) (Or.inl ⟨by rfl, ?y15⟩) ?r15
        case y15 => (intro W; first | (go_simp; done) | (go_simp; with_reducible rfl))
        (try simp only [List.getElem_toArray, List.getElem_cons_zero, List.getElem_cons_succ, Act.put, List.setIfInBounds_toArray, List.set_cons_zero, List.set_cons_succ])
        refine wpAny_at (c := 15) rfl (by kernel_rfl) (by rfl) (fun K hK => ?_)
        have HK := Lib.hid hK
        clear hK
        refine wp_store_blk 56 (.tmp 44) (.tmp 42) rfl g1 (b * 5) (pcell pa (.slice Aa na ca)).toArray rfl rfl _ 56 HCUR5.out (by have h := HSZ5.out; simp only [List.size_toArray, h, length_pcell]; omega) infoP (pcell_one _ _ _ _) ?_
        refine HK.out _ _ ?_
        clear HK K
        (try simp only [List.getElem_toArray, List.getElem_cons_zero, List.getElem_cons_succ, Act.put])
        refine wpAny_done (by kernel_rfl) ?_ _
        refine NoPanic.normal ?_
        go_wp2_with fail
        refine ⟨⟨k + 1, (qs.set a pb).set b pa, (ss.set a (.slice Ab nb cb)).set b (.slice Aa na ca), by omega, by go_num, HPS.out, ?_, ?_⟩, by simp [intOf]; omega⟩
        · have h := HO6.out
          simp only [List.append_assoc] at h ⊢
          exact h
        · exact below_setRow (below_setRow HB.out.drew hg1 _) hg1 _
      · obtain rfl : k = n2 := by omega
        go_wp2_with fail
        go_ret
        exact ⟨_, c1, qs, ss, rfl, HP.out, HO.out, HB.out⟩
end Go.Proofs.Ytobmopjfbgkfbaa
