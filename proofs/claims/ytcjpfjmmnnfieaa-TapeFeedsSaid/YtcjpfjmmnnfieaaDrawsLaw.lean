/-
  The walk of shallotlaw08.TapeDraws: for every list of bytes and every list of lists of sizes the law returns true and writes nothing that was there. Conditions: each length is at most 1048576.
-/
import Derived.Test.YtcjpfjmmnnfieaaTapeAwake
import Derived.Test.YtcjpfjmmnnfieaaDraws
import Derived.Test.YtcjpfjmmnnfieaaOpen
namespace Go.Proofs.Ytcjpfjmmnnfieaa
open Go Go.RowKit Go.Sh Go.ChangeShapes Go.WideShapes Go.ChangeAt

theorem TI : STy Try.prog 72 3 (.int .i64 0) 1 8 := ⟨Try.underlying72, by kernel_rfl, rfl, by decide⟩

/-- list k of zss (a plain definition: the walk leaves it standing) -/
def ilat (zss : List (List Int)) (k : Nat) : List Int := zss.getD k []
/-- '.slice A m c' holds m slices that read as the lists of ints zss; all lies below block B -/
def RII (w : World) (B : Nat) (A : Option Addr) (m : Nat) (zss : List (List Int)) : Prop :=
  zss.length = m ∧ ∃ vs, Reads w B 1 A m vs ∧ ∀ i, i < m → ∃ Ai ni ci, vs[i]? = some (.slice Ai ni ci) ∧ RI w B Ai ni (ilat zss i)
theorem RII.at_ {w : World} {B m : Nat} {A : Option Addr} {zss : List (List Int)} {k : Nat} (h : RII w B A m zss) (hk : k < m) : ∃ ad Ai ni ci, A = some ad ∧ ad.block < B ∧ w.cell? (ad.add k) = some (.slice Ai ni ci) ∧ RI w B Ai ni (ilat zss k) := by
  obtain ⟨_, vs, hr, hi⟩ := h
  obtain ⟨ad, u, e, hb, hx, hc⟩ := hr.at_ hk
  obtain ⟨Ai, ni, ci, hv, hrb⟩ := hi k hk
  rw [hx] at hv
  obtain rfl := Option.some.inj hv
  exact ⟨ad, Ai, ni, ci, e, hb, hc, hrb⟩
def HasIL {H : Type} (d : DataW H) (zss : List (List Int)) : Prop :=
  (d = .nil ∧ zss = []) ∨ ∃ es sp, d = .slice es sp ∧ es.length = zss.length ∧ ∀ i, i < zss.length → ∃ di, es[i]? = some di ∧ HasLen di (ilat zss i).length

/-- a [][]int argument -/
theorem openII {H : Type} {enc : TypeId × Value → H} {P : Program} {W : World} {b0 : Nat} {r : Reach} {t e u : TypeId} {v : Value} {d : DataW H} {p : List MemPlace} (ht : P.underlying t = some (.slice e)) (hc : P.cellsOf e = 1) (he : P.underlying e = some (.slice u)) (hu : P.underlying u = some (.int .i64)) (hcu : P.cellsOf u = 1)
    (hok : Value.okWide P W r b0 t v) (h : DataW.Trod enc P W 0 (fun _ => true) true t v d p) :
    ∃ A m c zss, v = .slice A m c ∧ RII W W.heap.size A m zss ∧ HasIL d zss := by
  obtain ⟨A, n, c, rfl⟩ := okWide_slice ht hok
  obtain ⟨fuel, hf⟩ := h
  rcases Go.Deep.open_slice1 ht hc hf with ⟨hcs, hx⟩ | ⟨a, n', c', m, q, V, D, Pl, hcs, _, hl, _, hm, hx, hi⟩
  · simp [Value.cells] at hcs
    obtain ⟨rfl, rfl, rfl⟩ := hcs
    injection hx with hd _
    exact ⟨none, 0, 0, [], rfl, ⟨rfl, [], Reads.none_, fun i hi => absurd hi (by omega)⟩, .inl ⟨hd, rfl⟩⟩
  · simp [Value.cells] at hcs
    obtain ⟨rfl, rfl, rfl⟩ := hcs
    injection hx with hd _
    simp only [if_true] at hm
    subst hm
    have key : ∀ i, i < n → ∃ x : List Int, ∃ Ai ni ci, V i = .slice Ai ni ci ∧ RI W W.heap.size Ai ni x ∧ HasLen (D i) ni := by
      intro i hin
      obtain ⟨_, hti⟩ := hi i (by omega)
      rcases open_ints he hu hcu hti with ⟨hcs, hx⟩ | ⟨x, l, cc, zs, hcs, _, hll, hmm, hz, hx, hcell, hwz⟩
      · have hv : V i = .slice none 0 0 := by simpa using hcs
        injection hx with hd' _
        exact ⟨[], none, 0, 0, hv, ⟨Reads.none_, fun z hz => by cases hz⟩, .inl ⟨hd', rfl⟩⟩
      · have hv : V i = .slice (some x) l cc := by simpa using hcs
        injection hx with hd' _
        simp only [if_true] at hz
        refine ⟨zs.take l, some x, l, cc, hv, ⟨⟨by rw [length_iv, List.length_take]; omega, ?_⟩, fun z hm => bounds_i64 (hwz z (List.mem_of_mem_take hm))⟩, .inr ⟨_, _, hd', by simp [lits]; omega⟩⟩
        rcases Nat.eq_zero_or_pos l with h0 | h0
        · left
          rw [h0]
          rfl
        refine .inr ⟨x, rfl, ?_, fun j hj => ?_⟩
        · have := hcell 0 (by omega)
          have hb := World.block_lt_of_cell? W _ this
          rw [block_of_add] at hb
          exact hb
        · rw [length_iv, List.length_take] at hj
          rw [iv_at _ _ (by rw [List.length_take]; exact hj), hcell j (by omega)]
          congr 2
          simp [it, show j < l by omega]
    obtain ⟨f, hfn⟩ := Go.Deep.choose_lt key
    have hlat : ∀ i, i < n → ilat ((List.range n).map f) i = f i := fun i hin => by simp [ilat, hin]
    refine ⟨some a, n, m, (List.range n).map f, rfl, ⟨by simp, (List.range n).map V, ⟨by simp, ?_⟩, fun i hin => ?_⟩, .inr ⟨_, _, hd, by simp, fun i hin => ?_⟩⟩
    · rcases Nat.eq_zero_or_pos n with h0 | h0
      · left
        rw [h0]
        rfl
      refine .inr ⟨a, rfl, ?_, fun j hj => ?_⟩
      · have hb := World.block_lt_of_cell? W _ (hi 0 (by omega)).1
        rw [block_of_add] at hb
        exact hb
      · have hjn : j < n := by simpa using hj
        rw [(hi j (by omega)).1]
        simp [hjn]
    · obtain ⟨Ai, ni, ci, hv, hrb, _⟩ := hfn i hin
      refine ⟨Ai, ni, ci, by simp [hin, hv], ?_⟩
      rw [hlat i hin]
      exact hrb
    · have hin' : i < n := by simpa using hin
      obtain ⟨Ai, ni, ci, hv, hrb, hh⟩ := hfn i hin'
      refine ⟨D i, by simp [hin'], ?_⟩
      rw [hlat i hin', hrb.len]
      exact hh

theorem OBB_kept {w w' : World} {base e t m p : Nat} {v : Value} {ls : List (List UInt8)} (h : OBB w base e t v m ls) (hg : w.grownBy w' (some p)) (hp : p < base) : OBB w' base e t v m ls := by
  obtain ⟨h1, vs, ho, hi⟩ := h
  refine ⟨h1, vs, ho.kept hg (far_own ho hp), fun i hin => ?_⟩
  obtain ⟨Ai, ni, ci, hv, hrow⟩ := hi i hin
  exact ⟨Ai, ni, ci, hv, hrow.kept hg (far_own hrow hp)⟩

/-- Over, the row nil or not -/
theorem Over_own (A : Option Addr) (n c base : Nat) (l : List UInt8) (w : World) (h : w.ownsRow base 5 1 (.slice A n c) n (bv l)) (hn : n ≤ 140737488355328) :
    Calls Try.prog 26 #[.slice A n c] w (fun e w' => e = .returned (.tuple #[]) ∧ w'.ownsRow base 5 1 (.slice A n c) n (bv (turn l)) ∧ w.grownBy w' (Value.slice A n c).ownBlock) := by
  rcases h.2 with ⟨hv, h0⟩ | ⟨g, cap, cur, hv, _⟩
  · simp only [Value.slice.injEq] at hv
    obtain ⟨rfl, rfl, rfl⟩ := hv
    have hl : l = [] := by
      have := h.1
      rw [length_bv] at this
      exact List.eq_nil_of_length_eq_zero (by omega)
    subst hl
    have HO := Lib.hid h
    clear h h0
    go_enter Try.func26, Try.ntmps26
    go_wp2
    go_loopw [2] (fun i wr => i = .int .i64 0 ∧ wr = w) (fun _ _ => 0)
    case atStart => exact ⟨rfl, rfl⟩
    case round =>
      obtain ⟨rfl, rfl⟩ := hrel
      go_wp2
      go_end0
      exact ⟨rfl, HO.out, World.grownBy.refl _ _⟩
  · injection hv with hA _ hc
    subst hA
    exact (Over_any g n c base l w h hn).mono fun e w' hh => hh

/-- one size alone: a plain draw -/
theorem one_draw {l : List UInt8} {a : Nat} {zs : List Int} (h : zs.length = 1) (ha : a ≤ l.length) :
    drE l.length a zs = drwE l.length a (it zs 0) ∧ drN l.length a zs = takN l.length a (it zs 0) ∧ (takE l.length a (it zs 0) = 0 → drL l a zs = [takL l a (it zs 0)]) := by
  match zs, h with
  | [z], _ =>
    have e0 : it [z] 0 = z := rfl
    have ep : pre [z] 1 = z.toNat := by simp [pre]
    rw [e0]
    by_cases h1 : z < 0
    · have hn : negB [z] = true := by simp [negB, h1]
      have t1 : takE l.length a z = 1 := by simp [takE, h1]
      refine ⟨?_, ?_, fun h => absurd h (by omega)⟩
      · simp [drE, hn, drwE, t1]
      · simp [drN, drE, hn, takN, t1]
    · have hn : negB [z] = false := by simp [negB]; omega
      by_cases h2 : ((l.length - a : Nat) : Int) < z
      · have t1 : takE l.length a z = 2 := by simp only [takE]; rw [if_neg h1, if_pos h2]
        have d1 : drE l.length a [z] = 8 := by
          simp only [drE, hn, List.length_singleton, ep]
          rw [if_neg (by decide), if_pos (by omega)]
        refine ⟨?_, ?_, fun h => absurd h (by omega)⟩
        · rw [d1]; simp [drwE, t1]
        · simp [drN, d1, takN, t1]
      · have t1 : takE l.length a z = 0 := by simp only [takE]; rw [if_neg h1, if_neg h2]
        have d1 : drE l.length a [z] = 0 := by
          simp only [drE, hn, List.length_singleton, ep]
          rw [if_neg (by decide), if_neg (by omega)]
        refine ⟨?_, ?_, fun _ => ?_⟩
        · rw [d1]; simp [drwE, t1]
        · simp [drN, d1, takN, t1, ep]
        · simp [drL, d1, takL, t1, cutP, pce, e0, show pre [z] 0 = 0 from rfl, List.range_succ]
theorem drN_le {l : List UInt8} {a : Nat} {zs : List Int} (ha : a ≤ l.length) : drN l.length a zs ≤ l.length := by
  by_cases h : drE l.length a zs = 0
  · rw [drN, if_pos h]
    unfold drE at h
    split at h
    · exact absurd h (by decide)
    · split at h
      · exact absurd h (by decide)
      · omega
  · rw [drN, if_neg h]
    exact ha
theorem drL_le (l : List UInt8) (a : Nat) (zs : List Int) : ∀ x ∈ drL l a zs, x.length ≤ l.length := by
  intro x hx
  unfold drL at hx
  split at hx
  · simp only [cutP, List.mem_map, List.mem_range] at hx
    obtain ⟨k, _, rfl⟩ := hx
    simp [pce]
    omega
  · cases hx
theorem drL_len (l : List UInt8) (a : Nat) (zs : List Int) : (drL l a zs).length ≤ zs.length := by
  unfold drL
  split
  · simp [cutP]
  · simp

set_option maxRecDepth 100000 in
set_option maxHeartbeats 4000000 in
theorem TapeDraws_walk (A : Option Addr) (n c : Nat) (l : List UInt8) (A' : Option Addr) (m c' : Nat) (zss : List (List Int)) (w : World) (hr : RB w w.heap.size A n l) (hn : n ≤ 1048576) (hf : RII w w.heap.size A' m zss) (hm : m ≤ 1048576) (hin : ∀ i, i < m → (ilat zss i).length ≤ 1048576) (hc : n ≤ c) :
    Calls Try.prog 5 #[.slice A n c, .slice A' m c'] w (LawPost w) := by
  have HL := Lib.hid hr.len
  have HR := Lib.hid hr
  have HF := Lib.hid hf
  have HIN := Lib.hid hin
  clear hr hf hin
  go_enter Try.func5, Try.ntmps5
  go_wp2_with fail
  refine (awake_any _).mono ?_
  rintro e w1 ⟨rfl, hb1⟩
  have HB1 := Lib.hid hb1
  have hz1 := hb1.size
  clear hb1
  go_wp2_with fail
  refine (Left_any 67 [] (.slice none 0 0) w1.heap.size w1.heap.size [] 0 _ ⟨Nat.le_refl _, by simp, none, 0, 0, rfl, heap_alloc_new w1 _, World.ownsRow_nil _ _ _ _⟩ (by simp)).mono ?_
  rintro e w2 ⟨rfl, nd, rfl⟩
  have HB2 := Lib.hid (below_drewN (HB1.out.alloc hz1 (.cells #[.slice none 0 0, .int .i64 0] 67)) nd)
  clear HB1
  generalize (w1.alloc (.cells #[.slice none 0 0, .int .i64 0] 67)).drewN nd = w2 at *
  have hz2 := HB2.out.size
  go_wp2_with fail
  refine (Copy_any _ _ _ l _ w.heap.size (HR.out.below HB2.out) hz2 (by omega)).mono ?_
  rintro e w3 ⟨g3, c3, rfl, hown3, hb3⟩
  have HO3 := Lib.hid hown3
  have HB3 := Lib.hid (below_up HB2.out hb3 (Nat.le_refl _))
  have hz3 : w2.heap.size ≤ w3.heap.size := hb3.size
  have hg3 : w2.heap.size ≤ g3 ∧ g3 < w3.heap.size := hown3.lt g3 rfl
  clear hown3 hb3 HB2
  go_wp2_with fail
  refine (NewTape_any _ _ _ l _ w3.heap.size (RB.of_own HO3.out) (Nat.le_refl _) (by omega)).mono ?_
  rintro e w4 ⟨p, S, rfl, hc4, hb4⟩
  have HC4 := Lib.hid hc4
  have HO4 := Lib.hid (own_later HO3.out hb4)
  have HB4 := Lib.hid (below_up HB3.out hb4 (Nat.le_refl _))
  have hz4 : w3.heap.size ≤ w4.heap.size := hb4.size
  clear hc4 hb4 HO3 HB3
  go_wp2_with fail
  refine (Over_any g3 n c3 _ l _ HO4.out (by omega)).mono ?_
  rintro e w5 ⟨rfl, hown5, hg5⟩
  have HT := Lib.hid HC4.out.top.2
  have HC5 := Lib.hid (HC4.out.under hg5 hg3.2)
  have HB5 := Lib.hid (HB4.out.grown hg5 (by omega) (fun g e => by injection e with e; omega))
  have hz5 : w4.heap.size ≤ w5.heap.size := hg5.size
  have hpw : w3.heap.size ≤ p := HC4.out.1
  clear hown5 hg5 HO4 HB4 HC4
  obtain ⟨T, hT⟩ : ∃ T, w4.heap.size = T := ⟨_, rfl⟩
  obtain ⟨bs, hbs⟩ : ∃ bs, w3.heap.size = bs := ⟨_, rfl⟩
  rw [hT] at HT hz5
  rw [hbs] at HC5 hpw
  have hbw : w.heap.size ≤ bs := by omega
  clear hT hbs hz4 hz3 hg3 hz2 hz1
  have hpT : p < T := HT.out.1
  go_wp2_with fail
  go_loopw [8, 10, 11, 12, 13, 14, 15, 16, 17, 18, 32] (fun x _ _ _ _ _ _ _ _ _ i wr => ∃ (k a : Nat), k ≤ m ∧ i = .int .i64 k ∧ x = .int .i64 (a : Int) ∧ CurG 67 [] S wr bs p l a ∧ Below w.heap.size w wr ∧ T ≤ wr.heap.size) (fun _ _ _ _ _ _ _ _ _ _ i _ => m - (intOf i).toNat)
  case atStart => exact ⟨0, 0, by omega, rfl, rfl, HC5.out, HB5.out, hz5⟩
  case round =>
    obtain ⟨k, a, hk, rfl, rfl, hcur, hb, hTw⟩ := hrel
    have ha : a ≤ n := by rw [← HL.out]; exact hcur.len
    have HC := Lib.hid hcur
    have HB := Lib.hid hb
    have hzw : w.heap.size ≤ wr.heap.size := hb.size
    clear hcur hb HB5 HC5
    by_cases hlt : k < m
    · obtain ⟨ad, Ai, ni, ci, rfl, hab, hcl, hri⟩ := HF.out.at_ hlt
      rw [← HB.out.cell (by rw [block_of_add]; exact hab)] at hcl
      have hlen := HIN.out k hlt
      obtain ⟨zs, hzs⟩ : ∃ zs, ilat zss k = zs := ⟨_, rfl⟩
      rw [hzs] at hri hlen
      have hzl := hri.len
      have HZL := Lib.hid hzl
      rw [hzl] at hlen
      have HRI := Lib.hid hri
      clear hzs hri hzl
      obtain ⟨wo, rfl⟩ : ∃ wo : World, wo = wr := ⟨_, rfl⟩
      go_wp2_with fail
      refine (RefDraws_any A Ai n ni c ci l a zs _ w.heap.size w.heap.size (HR.out.below HB.out) (HRI.out.below HB.out) hzw hzw hc (by omega) (by omega) ha).mono ?_
      rintro e w6 ⟨A6, m6, c6, rfl, ho6, hb6⟩
      rw [HL.out]
      have HO6 := Lib.hid ho6
      have HC6 := Lib.hid (HC.out.later hb6)
      have HB6 := Lib.hid (below_up HB.out hb6 (Nat.le_refl _))
      have hz6 : wo.heap.size ≤ w6.heap.size := hb6.size
      have HNX := Lib.hid (show drN l.length a zs ≤ n by rw [← HL.out]; exact drN_le (by rw [HL.out]; exact ha))
      clear ho6 hb6 HC
      by_cases hone : ni = 1
      · have hb1 : ((ni : Int) == 1) = true := by rw [hone]; rfl
        obtain ⟨ad1, hA1, hab1, hc1, z1, z2⟩ := HRI.out.at_ (k := 0) (by omega)
        subst hA1
        rw [add_zero] at hc1
        have hc1' : w6.cell? ad1 = some (.int .i64 (it zs 0)) := by rw [HB6.out.cell hab1]; exact hc1
        obtain ⟨D1, D2, D3⟩ := one_draw (l := l) (a := a) (zs := zs) (by rw [HZL.out]; exact hone) (by rw [HL.out]; exact ha)
        rw [HL.out] at D1 D2 D3
        have HD1 := Lib.hid D1
        have HD2 := Lib.hid D2
        have HD3 := Lib.hid D3
        have hni : 0 < ni := by omega
        clear hone hc1 D1 D2 D3
        generalize it zs 0 = z at *
        go_wp2_with fail
        refine (Draw_any _ _ _ (by decide) p bs l a z _ HC6.out (by rw [HL.out]; omega)).mono ?_
        rintro e w7 ⟨A7, n7, c7, rfl, hn7, hown7, hg7, hc7, hgr7⟩
        rw [HL.out] at hg7 hc7 ⊢
        have HN7 := Lib.hid hn7
        have HO7 := Lib.hid hown7
        have HC7 := Lib.hid hc7
        have HW7 := Lib.hid (RBB.of_own ((OBB_kept HO6.out hgr7 (show p < wo.heap.size by omega))))
        have HB7 := Lib.hid (HB6.out.grown hgr7 (by omega) (fun g e => by injection e with e; omega))
        have hz7 : w6.heap.size ≤ w7.heap.size := hgr7.size
        clear hn7 hown7 hc7 hgr7 hg7 HO6 HC6 HB6 hc1'
        rw [HD1.out] at *
        rw [HD2.out] at *
        by_cases hok : takE n a z = 0
        · have HE := Lib.hid (show drwE n a z = 0 by simp [drwE, hok])
          rw [HE.out]
          have HW7' := HW7.out
          rw [HD3.out hok] at HW7'
          have hm6 : m6 = 1 := by have := HW7'.len; simpa using this.symm
          subst hm6
          obtain ⟨ad6, B6, n6, c66, hA6, hab6, hcell6, _, hrb6⟩ := HW7'.at_ (k := 0) (by omega)
          subst hA6
          rw [add_zero] at hcell6
          have e6 : lat [takL l a z] 0 = takL l a z := rfl
          rw [e6] at hrb6
          have hn7 : n7 ≤ 1048576 := by
            rw [← HN7.out]
            have : (takL l a z).length ≤ l.length := by
              unfold takL
              split
              · simp
                omega
              · simp
            rw [HL.out] at this
            omega
          have HRB6 := Lib.hid hrb6
          clear HW7' hrb6 HW7 e6 hok
          go_wp2_with fail
          refine (Equal_any _ _ _ _ _ _ (takL l a z) (takL l a z) _ w7.heap.size w7.heap.size (RB.of_own HO7.out) HRB6.out (by omega)).mono fun e w8 h => ?_
          obtain ⟨rfl, nd8, rfl⟩ := h
          rw [show decide (takL l a z = takL l a z) = true by simp]
          have HC8 := Lib.hid (HC7.out.drewN nd8)
          have HB8 := Lib.hid (below_drewN HB7.out nd8)
          have hz8 : w7.heap.size ≤ (w7.drewN nd8).heap.size := Nat.le_refl _
          clear HO7 HRB6 HC7 HB7 hcell6
          generalize w7.drewN nd8 = w8 at *
          go_wp2_with fail
          refine (Done_any _ _ _ p bs l (takN n a z) _ HC8.out).mono ?_
          rintro e wd ⟨rfl, rfl⟩
          have q1 : ((((takN n a z) : Nat) : Int) != (((takN n a z) : Nat) : Int)) = false := by simp
          have hle : (takN n a z) ≤ n := by have := HC8.out.len; rw [HL.out] at this; exact this
          have HQ := Lib.hid (show ((l.length - (takN n a z) : Nat) : Int) = (n : Int) - (((takN n a z) : Nat) : Int) by rw [HL.out]; omega)
          have q2 : (((n : Int) - (((takN n a z) : Nat) : Int)) != ((n : Int) - (((takN n a z) : Nat) : Int))) = false := by simp
          generalize (takN n a z) = an at *
          go_wp2_with fail
          refine (Left_any _ _ _ p bs l an _ HC8.out (by rw [HL.out]; omega)).mono ?_
          rintro e we ⟨rfl, nde, rfl⟩
          rw [HQ.out]
          go_wp2
          exact ⟨⟨k + 1, an, by omega, by go_num, rfl, HC8.out.drewN nde, below_drewN HB8.out nde, show T ≤ w8.heap.size by omega⟩, by simp [intOf]; omega⟩
        · have HX := Lib.hid (show takL l a z = [] by simp only [takL]; rw [HL.out, if_neg hok])
          have hE : drwE n a z ≠ 0 := by unfold drwE; split <;> omega
          have h0 : n7 = 0 := by rw [← HN7.out, HX.out]; rfl
          subst h0
          have y1 : (drwE n a z != drwE n a z) = false := by simp
          have y2 : (drwE n a z == 0) = false := by simpa using hE
          have y3 : (drwE n a z != 0) = true := by simpa using hE
          clear hE hok HO7 HW7 HN7 HX
          generalize drwE n a z = E at *
          go_wp2_with fail
          refine (Done_any _ _ _ p bs l (takN n a z) _ HC7.out).mono ?_
          rintro e wd ⟨rfl, rfl⟩
          have q1 : ((((takN n a z) : Nat) : Int) != (((takN n a z) : Nat) : Int)) = false := by simp
          have hle : (takN n a z) ≤ n := by have := HC7.out.len; rw [HL.out] at this; exact this
          have HQ := Lib.hid (show ((l.length - (takN n a z) : Nat) : Int) = (n : Int) - (((takN n a z) : Nat) : Int) by rw [HL.out]; omega)
          have q2 : (((n : Int) - (((takN n a z) : Nat) : Int)) != ((n : Int) - (((takN n a z) : Nat) : Int))) = false := by simp
          generalize (takN n a z) = an at *
          go_wp2_with fail
          refine (Left_any _ _ _ p bs l an _ HC7.out (by rw [HL.out]; omega)).mono ?_
          rintro e we ⟨rfl, nde, rfl⟩
          rw [HQ.out]
          go_wp2
          exact ⟨⟨k + 1, an, by omega, by go_num, rfl, HC7.out.drewN nde, below_drewN HB7.out nde, show T ≤ w7.heap.size by omega⟩, by simp [intOf]; omega⟩
      · have hb1 : ((ni : Int) == 1) = false := beq_eq_false_iff_ne.2 (by omega)
        clear hone
        go_wp2_with (at_builtin; refine wl_app TI rfl (.tmp 81) (.tmp 82) rfl _ rfl Ai ni ci rfl w6.heap.size 0 [] ?a1 w.heap.size (iv zs) ?a2 (iv_one zs) ?a3 ?a4 ?a5 ?a6)
        case a1 => exact World.ownsRow_lit w6 #[] 0 (Nat.le_refl _) (by simp) rfl
        case a2 => exact ((HRI.out.below HB6.out).alloc (by omega) _).1
        case a3 => omega
        case a4 => omega
        case a5 => simp
        case a6 =>
          intro A7 c7 w7 hown7 hg7 hat7
          try simp only [Nat.zero_add, List.nil_append] at hown7 ⊢
          have hgb := (Below.refl _ w6).alloc (Nat.le_refl _) (.cells #[] 3)
          have hb7 : Below w6.heap.size w6 w7 := hgb.grown hg7 (by simp) (by simp [Value.ownBlock])
          have HO7 := Lib.hid (HO6.out.later hb7)
          have HC7 := Lib.hid (HC6.out.later hb7)
          have HB7 := Lib.hid (below_up HB6.out hb7 (Nat.le_refl _))
          have HI7 := Lib.hid (RI.of_own hown7 HRI.out.2)
          have HNE := Lib.hid (show ∀ ad, A7 = some ad → ad.block ≠ p from fun ad he => by
            subst he
            rcases hown7.2 with ⟨hh, _⟩ | ⟨g, cap, cur, hh, hbg, _⟩
            · cases hh
            · injection hh with hh
              injection hh with hh
              subst hh
              intro e
              have e' : g = p := e
              omega)
          have hz7 : w6.heap.size ≤ w7.heap.size := hb7.size
          clear hown7 hg7 hat7 hgb hb7 HO6 HC6 HB6
          go_wp2_with fail
          refine (Draws_any _ _ _ (by decide) p bs l a A7 ni c7 zs _ w7.heap.size HC7.out HI7.out (Nat.le_refl _) HNE.out (by rw [HL.out]; omega) (by omega)).mono ?_
          rintro e w8 ⟨A8, m8, c8, vs, rfl, ho8, hc8, hgr8⟩
          rw [HL.out] at hc8 ⊢
          have HW8 := Lib.hid (RBB.of_own (OBB_kept HO7.out hgr8 (show p < wo.heap.size by omega)))
          have HO8 := Lib.hid ho8
          have HC8 := Lib.hid hc8
          have HB8 := Lib.hid (HB7.out.grown hgr8 (by omega) (fun g e => by injection e with e; omega))
          have hz8 : w7.heap.size ≤ w8.heap.size := hgr8.size
          have HLL := Lib.hid (drL_le l a zs)
          have hm8 : m8 ≤ 1048576 := by
            rw [← ho8.1]
            have := drL_len l a zs
            rw [HZL.out] at this
            omega
          clear ho8 hc8 hgr8 HO7 HC7 HB7 HI7 HNE
          have y1 : (drE n a zs != drE n a zs) = false := by simp
          generalize drE n a zs = E at *
          go_wp2_with fail
          refine (Equals_any _ _ _ _ _ _ (drL l a zs) (drL l a zs) _ w8.heap.size w8.heap.size (RBB.of_own HO8.out.obb) HW8.out (by omega) (fun x hx => by have := HLL.out x hx; rw [HL.out] at this; omega)).mono fun e w9 h => ?_
          obtain ⟨rfl, nd9, rfl⟩ := h
          rw [show decide (drL l a zs = drL l a zs) = true by simp]
          have HC9 := Lib.hid (HC8.out.drewN nd9)
          have HB9 := Lib.hid (below_drewN HB8.out nd9)
          have HO9 := Lib.hid (HO8.out.drewN nd9)
          have hz9 : w7.heap.size ≤ (w8.drewN nd9).heap.size := hz8
          have HNn := Lib.hid (show ∀ x ∈ drL l a zs, x.length ≤ 1048576 from fun x hx => by have := HLL.out x hx; rw [HL.out] at this; omega)
          clear HW8 HO8 HC8 HB8 hz8
          generalize w8.drewN nd9 = w9 at *
          go_wp2_with fail
          go_loopw [18, 98] (fun _ i wr => ∃ (j : Nat) (ls : List (List UInt8)), j ≤ m8 ∧ i = .int .i64 j ∧ OBV wr w7.heap.size 5 62 (.slice A8 m8 c8) m8 ls vs ∧ (∀ x ∈ ls, x.length ≤ 1048576) ∧ CurG 67 [] S wr bs p l (drN n a zs) ∧ Below w.heap.size w wr ∧ w7.heap.size ≤ wr.heap.size) (fun _ i _ => m8 - (intOf i).toNat)
          case atStart => exact ⟨0, drL l a zs, by omega, rfl, HO9.out, HNn.out, HC9.out, HB9.out, hz9⟩
          case round =>
            obtain ⟨j, ls, hj, rfl, hov, hls, hcj, hbj, hzj⟩ := hrel
            have HOj := Lib.hid hov
            have HCj := Lib.hid hcj
            have HBj := Lib.hid hbj
            have HLj := Lib.hid hls
            clear hov hcj hbj hls HO9 HC9 HB9
            by_cases hjl : j < m8
            · obtain ⟨Aj, nj, cj, hvj, hrj⟩ := HOj.out.2.2.1 j hjl
              obtain ⟨adv, u, hA8, _, hx, hcv⟩ := (Reads.of_own HOj.out.2.1).at_ hjl
              rw [hvj] at hx
              have hu := Option.some.inj hx
              subst hu
              subst hA8
              have hnj : nj ≤ 1048576 := by
                have h1 := hrj.1
                rw [length_bv] at h1
                have h2 := HLj.out (lat ls j) (lat_mem (by rw [HOj.out.1]; exact hjl))
                omega
              have HRj := Lib.hid hrj
              have HVj := Lib.hid hvj
              clear hrj hvj hx
              go_wp2_with fail
              refine (Over_own Aj nj cj _ (lat ls j) _ HRj.out (by omega)).mono ?_
              rintro e wx ⟨rfl, hownx, hgx⟩
              have hrow : ∀ g, (Value.slice Aj nj cj).ownBlock = some g → w7.heap.size ≤ g := fun g hg => (HRj.out.lt g hg).1
              have HOx := Lib.hid (HOj.out.put hjl HVj.out hownx hgx (by decide))
              have HCx := Lib.hid (HCj.out.far (T := w7.heap.size) hgx hrow (by omega) (fun k hk => by have := HT.out.2 k hk; omega))
              have HBx := Lib.hid (HBj.out.grown hgx (by omega) (fun g hg => by have := hrow g hg; omega))
              have hzx : w7.heap.size ≤ wx.heap.size := by have := hgx.size; omega
              have HLx := Lib.hid (show ∀ x ∈ ls.set j (turn (lat ls j)), x.length ≤ 1048576 from fun x hx => by
                rcases List.mem_or_eq_of_mem_set hx with h | h
                · exact HLj.out x h
                · rw [h]
                  have := HLj.out (lat ls j) (lat_mem (by rw [HOj.out.1]; exact hjl))
                  simpa [turn] using this)
              clear hownx hgx hrow HOj HCj HBj HLj hcv
              go_wp2
              exact ⟨⟨j + 1, _, by omega, by go_num, HOx.out, HLx.out, HCx.out, HBx.out, hzx⟩, by simp [intOf]; omega⟩
            · clear HOj HLj
              go_wp2_with fail
              refine (Done_any _ _ _ p bs l (drN n a zs) _ HCj.out).mono ?_
              rintro e wd ⟨rfl, rfl⟩
              have q1 : ((((drN n a zs) : Nat) : Int) != (((drN n a zs) : Nat) : Int)) = false := by simp
              have hle : (drN n a zs) ≤ n := by have := HCj.out.len; rw [HL.out] at this; exact this
              have HQ := Lib.hid (show ((l.length - (drN n a zs) : Nat) : Int) = (n : Int) - (((drN n a zs) : Nat) : Int) by rw [HL.out]; omega)
              have q2 : (((n : Int) - (((drN n a zs) : Nat) : Int)) != ((n : Int) - (((drN n a zs) : Nat) : Int))) = false := by simp
              generalize (drN n a zs) = an at *
              go_wp2_with fail
              refine (Left_any _ _ _ p bs l an _ HCj.out (by rw [HL.out]; omega)).mono ?_
              rintro e we ⟨rfl, nde, rfl⟩
              rw [HQ.out]
              go_wp2
              exact ⟨⟨k + 1, an, by omega, by go_num, rfl, HCj.out.drewN nde, below_drewN HBj.out nde, show T ≤ wr.heap.size by omega⟩, by simp [intOf]; omega⟩
    · go_wp2
      go_ret
      exact ⟨rfl, HB.out⟩
end Go.Proofs.Ytcjpfjmmnnfieaa
