/-
  The walk of shallottop.ShallotLayers: for all lists of bytes and every number the law returns true and writes nothing that was there. Conditions: the sizes that slices can have.
-/
import Derived.Test.YtkaakgabhhkggaaWideSeal
import Derived.Test.YtkaakgabhhkggaaDraws
import Derived.Test.YtkaakgabhhkggaaTopSame
namespace Go.Proofs.Ytkaakgabhhkggaa
open Go Go.RowKit Go.Sh

set_option maxRecDepth 100000 in
theorem TIL : STy Try.prog 57 3 (.int .i64 0) 1 8 := ⟨Try.underlying57, by kernel_rfl, rfl, by decide⟩
def fillI (q j : Nat) : List Int := List.replicate j 32 ++ List.replicate (q - j) 0
theorem made_ints (n : Nat) : (madeCells (Value.cells (.int .i64 0)) (n * 1)).toList = iv (fillI n 0) := by
  apply List.ext_getElem
  · simp [madeCells, iv, fillI]
  · intro i h1 h2
    simp [madeCells, iv, Value.cells, fillI, Nat.mod_one]
theorem fill_set {q j : Nat} (h : j < q) : (iv (fillI q j)).set j (.int .i64 32) = iv (fillI q (j + 1)) := by
  have e : q - j = (q - (j + 1)) + 1 := by omega
  unfold fillI iv
  rw [e, List.replicate_succ, List.map_append, List.set_append_right _ _ (by simp), List.length_map, List.length_replicate, Nat.sub_self, List.map_cons, List.set_cons_zero, List.replicate_succ' (n := j)]
  simp
theorem fill_all (q : Nat) : fillI q q = List.replicate q 32 := by simp [fillI]
theorem it_rep {q k : Nat} (h : k < q) : it (List.replicate q 32) k = 32 := by
  simp [it, h]
theorem pre_rep {q k : Nat} (h : k ≤ q) : pre (List.replicate q 32) k = k * 32 := by
  induction k with
  | zero => simp [pre]
  | succ k ih =>
    rw [pre_succ (by rw [List.length_replicate]; omega), ih (by omega), it_rep (by omega)]
    omega
theorem drE_rep (n q : Nat) : drE n 0 (List.replicate q 32) = if n < q * 32 then 8 else 0 := by
  have h1 : negB (List.replicate q 32) = false := neg_none fun k hk => by rw [it_rep (by rwa [List.length_replicate] at hk)]; decide
  unfold drE
  rw [h1, List.length_replicate, pre_rep (Nat.le_refl _), if_neg (by decide), Nat.zero_add]
theorem drL_short {l : List UInt8} {q : Nat} (h : l.length < q * 32) : drL l 0 (List.replicate q 32) = [] := by
  unfold drL
  rw [drE_rep, if_pos h, if_neg (by decide)]
theorem drL_len {l : List UInt8} {q : Nat} (h : q * 32 ≤ l.length) : (drL l 0 (List.replicate q 32)).length = q := by
  unfold drL
  rw [drE_rep, if_neg (show ¬ l.length < q * 32 by omega), if_pos rfl, List.length_replicate]
  simp [cutP]
theorem drL_each {l : List UInt8} {q : Nat} (h : q * 32 ≤ l.length) : ∀ k ∈ drL l 0 (List.replicate q 32), k.length = 32 := by
  unfold drL
  rw [drE_rep, if_neg (show ¬ l.length < q * 32 by omega), if_pos rfl, List.length_replicate]
  intro k hk
  unfold cutP at hk
  rw [List.mem_map] at hk
  obtain ⟨i, hi, rfl⟩ := hk
  rw [List.mem_range] at hi
  unfold pce
  rw [pre_rep (by omega), it_rep hi, List.length_take, List.length_drop, List.length_drop]
  have : (32 : Int).toNat = 32 := rfl
  omega
theorem drN_short {n q : Nat} (h : n < q * 32) : drN n 0 (List.replicate q 32) = 0 := by
  unfold drN
  rw [drE_rep, if_pos h, if_neg (by decide)]
theorem drN_all {n q : Nat} (h : q * 32 ≤ n) : drN n 0 (List.replicate q 32) = q * 32 := by
  unfold drN
  rw [drE_rep, if_neg (show ¬ n < q * 32 by omega), if_pos rfl, List.length_replicate, pre_rep (Nat.le_refl _), Nat.zero_add]
theorem RBB.of_obv {w : World} {base e t m c : Nat} {A : Option Addr} {ls : List (List UInt8)} {vs : List Value} (h : OBV w base e t (.slice A m c) m ls vs) : RBB w w.heap.size A m ls := by
  obtain ⟨hl, ho, hi, _⟩ := h
  refine RBB.of_list (Reads.of_own ho) hl fun i him => ?_
  obtain ⟨Ai, ni, ci, hv, hrow⟩ := hi i him
  exact ⟨Ai, ni, ci, hv, own_cap hrow, RB.of_own hrow⟩
theorem sealsF_nil (l : List UInt8) : sealsF [] l = l := rfl
theorem openF_step {keys : List (List UInt8)} {l : List UInt8} {k : Nat} (hk : k < keys.length) (hl : 32 ≤ l.length) : openF (lat keys k) (sealsF (keys.take (k + 1)) l) = sealsF (keys.take k) l := by
  rw [sealsF_succ keys l k hk, openF_sealF _ _ (by rw [length_sealsF]; exact hl)]

set_option maxRecDepth 100000 in
set_option maxHeartbeats 8000000 in
theorem ShallotLayers_walk (A0 : Option Addr) (n0 c0 : Nat) (l0 : List UInt8) (A1 : Option Addr) (n1 c1 : Nat) (l1 : List UInt8) (z : Int) (w : World) (hr0 : RB w w.heap.size A0 n0 l0) (hr1 : RB w w.heap.size A1 n1 l1) (hn0 : n0 ≤ 140737488355328) (hn1 : n1 ≤ 140737488355328) (hc1 : n1 ≤ c1) (hz1 : -9223372036854775808 ≤ z) (hz2 : z ≤ 9223372036854775807) :
    Calls Try.prog 4 #[.slice A0 n0 c0, .slice A1 n1 c1, .int .i64 z] w (LawPost w) := by
  have HR0 := Lib.hid hr0
  have HL0 := Lib.hid hr0.len
  have HR1 := Lib.hid hr1
  have HL1 := Lib.hid hr1.len
  have hrl := RB.lit w 5 [1, 2] [.int .u8 1, .int .u8 2] rfl 2 rfl
  have hbl := (Below.refl w.heap.size w).alloc (Nat.le_refl _) (.cells #[.int .u8 1, .int .u8 2] 5)
  have hzl : (w.alloc (.cells #[.int .u8 1, .int .u8 2] 5)).heap.size = w.heap.size + 1 := by simp
  have HRL := Lib.hid hrl
  have HBL := Lib.hid hbl
  clear hr0 hr1 hrl hbl
  go_enter Try.func4, Try.ntmps4
  go_wp2_with fail
  generalize w.alloc (.cells #[.int .u8 1, .int .u8 2] 5) = w1 at *
  refine (NewTape_any _ 2 2 [1, 2] w1 _ HRL.out (by omega) (by decide)).mono ?_
  rintro e w2 ⟨p, S, rfl, hc2, hb2⟩
  have HC2 := Lib.hid hc2
  have HB2 := Lib.hid (HBL.out.trans (hb2.mono (by omega)))
  have hz2' := hb2.size
  clear hc2 hb2 HBL HRL
  go_wp2_with fail
  refine (Left_any _ _ _ p _ [1, 2] 0 w2 HC2.out (by decide)).mono ?_
  rintro e w3 ⟨rfl, nd, rfl⟩
  have HB3 := Lib.hid (below_drewN HB2.out nd)
  have hz3 : (w2.drewN nd).heap.size = w2.heap.size := rfl
  clear HB2 HC2
  generalize w2.drewN nd = w3 at *
  simp only [List.length_cons, List.length_nil]
  by_cases ok : 0 ≤ z ∧ z ≤ 5 ∧ 32 ≤ n1 ∧ n1 ≤ 4096
  case neg =>
    have OK := Lib.hid ok
    clear ok
    go_wp2_with fail
    all_goals first
      | (exfalso; have := OK.out; omega)
      | (go_ret; exact ⟨rfl, HB3.out⟩)
  case pos =>
    obtain ⟨ok1, ok2, ok3, ok4⟩ := ok
    obtain ⟨q, rfl⟩ : ∃ q : Nat, z = (q : Int) := ⟨z.toNat, by omega⟩
    have e1 : decide ((q : Int) < 0) = false := by rw [decide_eq_false_iff_not]; omega
    have e2 : decide ((q : Int) > 5) = false := by rw [decide_eq_false_iff_not]; omega
    have e3 : decide ((n1 : Int) < 32) = false := by rw [decide_eq_false_iff_not]; omega
    have e4 : decide ((n1 : Int) > 4096) = false := by rw [decide_eq_false_iff_not]; omega
    have hq5 : q ≤ 5 := by omega
    clear ok1 ok2 hz1 hz2
    go_wp2_with fail
    refine (NewTape_any A0 n0 c0 l0 w3 w.heap.size (HR0.out.below HB3.out) (by omega) hn0).mono ?_
    rintro e w4 ⟨p, S, rfl, hc4, hb4⟩
    have hz4 := hb4.size
    have HC4 := Lib.hid hc4
    have HB4 := Lib.hid (HB3.out.trans (hb4.mono (by omega)))
    clear hc4 hb4 HB3
    have HMI := Lib.hid (made_ints q)
    go_wp2_with (at_make; refine wl_make TIL rfl (.tmp 46) (.tmp 46) rfl .i64 .i64 _ _ rfl rfl q ?m1 ?m2 ?m3 ?m4 w4.heap.size ?m5 ?m6)
    case m1 => rfl
    case m2 => rfl
    case m3 => omega
    case m4 => omega
    case m5 => omega
    case m6 =>
      intro w5 hown hgr _
      rw [show (madeCells #[Value.int .i64 0] q).toList = iv (fillI q 0) from by have := HMI.out; rwa [Nat.mul_one] at this] at hown
      have HO5 := Lib.hid hown
      have HB5 := Lib.hid (HB4.out.trans (((Below.refl _ _).grown hgr (Nat.le_refl _) (by simp)).mono (by omega)))
      have HC5 := Lib.hid (HC4.out.far (T := w4.heap.size) hgr (by simp) HC4.out.lt HC4.out.top.2.2)
      have HT := Lib.hid HC4.out.top.2
      have hz5 := hgr.size
      clear hown hgr HC4 HB4
      go_wp2_with fail
      go_loopw [9, 50] (fun _ i wr => ∃ j : Nat, j ≤ q ∧ i = .int .i64 j ∧ wr.ownsRow w4.heap.size 3 1 (.slice (some ⟨w4.heap.size, 0, none⟩) q q) q (iv (fillI q j)) ∧ w5.grownBy wr (some w4.heap.size)) (fun _ i _ => q - (intOf i).toNat)
      case atStart => exact ⟨0, Nat.zero_le _, rfl, HO5.out, World.grownBy.refl _ _⟩
      case round =>
        obtain ⟨j, hj, rfl, hown, hg⟩ := hrel
        by_cases hlt : j < q
        · have hd : decide ((j : Int) < (q : Int)) = true := by rw [decide_eq_true_eq]; omega
          have hfr := hown.frozenAt j
          have hcr := hown.cellAt j (by omega)
          rw [iv_at _ _ (by unfold fillI; simp; omega)] at hcr
          have hst := hown.stored j (.int .i64 32)
          rw [fill_set hlt] at hst
          have HST := Lib.hid hst.1
          have HG := Lib.hid (hg.trans hst.2)
          clear hown hg hst
          go_wp2_with fail
          exact ⟨⟨j + 1, by omega, rfl, HST.out, HG.out⟩, by simp only [intOf]; omega⟩
        · obtain rfl : j = q := by omega
          have hd : decide ((j : Int) < (j : Int)) = false := by rw [decide_eq_false_iff_not]; omega
          rw [fill_all] at hown
          have HG := Lib.hid hg
          have hsz := hg.size
          have HI6 := Lib.hid (RI.of_own hown (fun z hz => by obtain ⟨_, rfl⟩ := List.mem_replicate.1 hz; decide))
          have HC6 := Lib.hid (HC5.out.far (T := w4.heap.size) hg (fun g hg => by injection hg with hg; omega) HT.out.1 HT.out.2)
          have HB6 := Lib.hid (HB5.out.grown hg (by omega) (fun g hg => by injection hg with hg; omega))
          have hpw := HC6.out.1
          clear hown hg HG HC5 HB5 HO5 HMI
          obtain ⟨zs, hzs⟩ : ∃ zs, List.replicate j (32 : Int) = zs := ⟨_, rfl⟩
          rw [hzs] at HI6
          have HE : Hid (drE l0.length 0 zs = if l0.length < j * 32 then 8 else 0) := Lib.hid (by rw [← hzs]; exact drE_rep _ _)
          go_wp2_with fail
          refine (Draws_any _ _ _ (by decide) p _ l0 0 _ j j zs wr _ HC6.out HI6.out (Nat.le_refl _) (by rintro ad had; injection had with had; subst had; have := HT.out.1; show w4.heap.size ≠ p; omega) (by rw [HL0.out]; exact hn0) (by omega)).mono ?_
          rintro e w7 ⟨A7, m7, c7, vs, rfl, hobv, hc7, hg7⟩
          have hlen7 := hobv.1
          have HB7 := Lib.hid (HB6.out.grown hg7 (by omega) (fun g hg => by injection hg with hg; omega))
          have hz7 := hg7.size
          by_cases hs : l0.length < j * 32
          · have E8 : drE l0.length 0 zs = 8 := by rw [HE.out, if_pos hs]
            rw [E8]
            rw [← hzs, drL_short hs] at hlen7
            rw [← hzs, drN_short hs] at hc7
            obtain rfl : 0 = m7 := hlen7
            have HC7 := Lib.hid hc7
            have hd3 : decide ((j : Int) * 32 > (n0 : Int)) = true := by rw [decide_eq_true_eq, ← HL0.out]; omega
            clear hobv hc7 hg7 hs HB6 HC6 HI6 E8 HE hzs
            go_wp2_with fail
            refine (Done_any _ _ _ p _ l0 0 w7 HC7.out).mono ?_
            rintro e w8 ⟨rfl, rfl⟩
            go_wp2_with fail
            go_ret
            exact ⟨rfl, HB7.out⟩
          · have hs' : j * 32 ≤ l0.length := by omega
            have E0 : drE l0.length 0 zs = 0 := by rw [HE.out, if_neg hs]
            rw [E0]
            rw [← hzs] at hobv
            rw [← hzs, drL_len hs'] at hlen7
            rw [← hzs, drN_all hs'] at hc7
            obtain rfl : j = m7 := hlen7
            have HC7 := Lib.hid hc7
            have HKL := Lib.hid (drL_each hs')
            have HKS := Lib.hid (RBB.of_obv hobv)
            have HKN := Lib.hid (drL_len hs')
            have hd3 : decide ((j : Int) * 32 > (n0 : Int)) = false := by rw [decide_eq_false_iff_not, ← HL0.out]; omega
            have hc3 : ((j * 32 : Nat) : Int) = (j : Int) * 32 := by omega
            rw [hzs] at HKL HKS HKN
            clear hobv hc7 hg7 hs hs' HB6 HC6 HI6 E0 HE hzs
            obtain ⟨keys, hkeys⟩ : ∃ keys, drL l0 0 zs = keys := ⟨_, rfl⟩
            rw [hkeys] at HKL HKS HKN
            clear hkeys
            go_wp2_with fail
            refine (Done_any _ _ _ p _ l0 _ w7 HC7.out).mono ?_
            rintro e w8 ⟨rfl, rfl⟩
            rw [hc3]
            go_wp2_with fail
            have HR7 := Lib.hid ((HR1.out.below HB7.out).more (show w.heap.size ≤ w7.heap.size by omega))
            have hw7 : w.heap.size ≤ w7.heap.size := by omega
            clear HC7
            go_loopw [11, 12, 14, 102] (fun _ v _ i wq => ∃ (t : Nat) (A : Option Addr) (c : Nat), t ≤ j ∧ i = .int .i64 t ∧ v = .slice A n1 c ∧ n1 ≤ c ∧ RB wq wq.heap.size A n1 (sealsF (keys.take t) l1) ∧ Below w7.heap.size w7 wq) (fun _ _ _ i _ => j - (intOf i).toNat)
            case atStart => exact ⟨0, _, _, Nat.zero_le _, rfl, rfl, hc1, HR7.out, Below.refl _ _⟩
            case round =>
              obtain ⟨t, A, c, ht, rfl, rfl, hc, hr, hb⟩ := hrel
              have hsz7 := hb.size
              have HB := Lib.hid hb
              have HRt := Lib.hid hr
              clear hb hr
              by_cases hlt : t < j
              · have hd : decide ((t : Int) < (j : Int)) = true := by rw [decide_eq_true_eq]; omega
                obtain ⟨ad, Ai, ni, ci, hA, hadB, hcell, hni, hrb⟩ := (HKS.out.below HB.out).at_ hlt
                subst hA
                have h32' := HKL.out _ (lat_mem (ls := keys) (k := t) (by rw [HKN.out]; exact hlt))
                obtain rfl : ni = 32 := by rw [← hrb.len, h32']
                have HSU := Lib.hid (sealsF_succ keys l1 t (by rw [HKN.out]; exact hlt))
                have HRB := Lib.hid hrb
                clear hrb
                go_wp2_with fail
                refine (Seal_any Ai ci (lat keys t) A n1 c (sealsF (keys.take t) l1) _ w7.heap.size _ HRB.out hsz7 hni HRt.out (Nat.le_refl _) hc ok3 ok4).mono ?_
                rintro e wx ⟨A6, n6, c6, rfl, hn6, ho6, hb6⟩
                obtain rfl : n1 = n6 := by rw [← hn6, length_sealF, length_sealsF]; exact HL1.out.symm
                rw [← HSU.out] at ho6
                have hc6 := own_cap ho6
                have HO6 := Lib.hid (RB.of_own ho6)
                have HB6 := Lib.hid (HB.out.trans (hb6.mono hsz7))
                clear hn6 ho6 hb6 HRt HB
                go_wp2_with fail
                exact ⟨⟨t + 1, A6, c6, by omega, rfl, rfl, hc6, HO6.out, HB6.out⟩, by simp only [intOf]; omega⟩
              · obtain rfl : t = j := by omega
                have hd : decide ((t : Int) < (t : Int)) = false := by rw [decide_eq_false_iff_not]; omega
                rw [show keys.take t = keys from List.take_of_length_le (by rw [HKN.out]; exact Nat.le_refl _)] at HRt
                go_wp2_with fail
                refine (SealAll_any A1 n1 c1 l1 A7 t c7 keys _ w.heap.size w7.heap.size ((HR1.out.below HB7.out).below (HB.out.mono hw7)) (by omega) hc1 ok3 ok4 (HKS.out.below HB.out) hsz7 HKL.out (by omega)).mono ?_
                rintro e wx ⟨A6, n6, c6, rfl, hn6, ho6, hb6⟩
                have HO6 := Lib.hid (RB.of_own ho6)
                have HB6 := Lib.hid (HB.out.trans (hb6.mono hsz7))
                have HRx := Lib.hid ((HRt.out.below hb6).more hb6.size)
                have hszx : w7.heap.size ≤ wx.heap.size := HB6.out.size
                clear hn6 ho6 hb6 HRt HB
                obtain ⟨sl, hsl⟩ : ∃ sl, sealsF keys l1 = sl := ⟨_, rfl⟩
                have HSL := Lib.hid hsl
                rw [hsl] at HO6 HRx
                clear hsl
                go_wp2_with fail
                refine (sameBytes_any A6 A n6 n1 c6 c sl sl wx _ _ HO6.out HRx.out).mono ?_
                rintro e wy ⟨rfl, rfl⟩
                rw [show decide (sl = sl) = true from decide_eq_true rfl]
                have e9 : IntKind.i64.wrap ((t : Int) - 1) = (t : Int) - 1 := Go.IntWalk.i64_in _ (by omega)
                clear HO6
                go_wp2_with fail
                go_loopw [11, 12, 16] (fun _ v i wq => ∃ (u : Nat) (A : Option Addr) (c : Nat), u ≤ t ∧ i = .int .i64 ((u : Int) - 1) ∧ v = .slice A n1 c ∧ n1 ≤ c ∧ RB wq wq.heap.size A n1 (sealsF (keys.take u) l1) ∧ Below w7.heap.size w7 wq) (fun _ _ i _ => (intOf i + 1).toNat)
                case atStart => exact ⟨t, _, _, Nat.le_refl _, rfl, rfl, hc, by rw [show keys.take t = keys from List.take_of_length_le (by rw [HKN.out]; exact Nat.le_refl _), HSL.out]; exact HRx.out, HB6.out⟩
                case round =>
                  obtain ⟨u, A, c, hu, rfl, rfl, hc, hr, hb⟩ := hrel
                  have hszq := hb.size
                  have HB := Lib.hid hb
                  have HRt := Lib.hid hr
                  clear hb hr HB6 HRx
                  rcases Nat.eq_zero_or_pos u with hu0 | hu0
                  · subst hu0
                    rw [show keys.take 0 = [] from rfl, sealsF_nil] at HRt
                    go_wp2_with fail
                    refine (sameBytes_any A A1 n1 n1 c c1 l1 l1 wr _ _ HRt.out (((HR1.out.below HB7.out).below (HB.out.mono hw7)).more (show w.heap.size ≤ w.heap.size from Nat.le_refl _))).mono ?_
                    rintro e wz ⟨rfl, rfl⟩
                    rw [show decide (l1 = l1) = true from decide_eq_true rfl]
                    go_wp2_with fail
                    go_ret
                    exact ⟨rfl, HB7.out.trans (HB.out.mono hw7)⟩
                  · obtain ⟨k, rfl⟩ : ∃ k, u = k + 1 := ⟨u - 1, by omega⟩
                    rw [show ((k + 1 : Nat) : Int) - 1 = (k : Int) by omega]
                    have hd5 : decide ((k : Int) ≥ 0) = true := by rw [decide_eq_true_eq]; omega
                    obtain ⟨ad, Ai, ni, ci, hA, hadB, hcell, hni, hrb⟩ := (HKS.out.below HB.out).at_ (show k < t by omega)
                    subst hA
                    have h32' := HKL.out _ (lat_mem (ls := keys) (k := k) (by rw [HKN.out]; omega))
                    obtain rfl : ni = 32 := by rw [← hrb.len, h32']
                    have HSU := Lib.hid (openF_step (keys := keys) (l := l1) (k := k) (by rw [HKN.out]; omega) (by rw [HL1.out]; exact ok3))
                    have HRB := Lib.hid hrb
                    clear hrb
                    go_wp2_with fail
                    refine (Open_any Ai ci (lat keys k) A n1 c (sealsF (keys.take (k + 1)) l1) _ w7.heap.size _ HRB.out hszq hni HRt.out (Nat.le_refl _) hc ok3 ok4).mono ?_
                    rintro e wx ⟨A6, n6, c6, rfl, hn6, ho6, hb6⟩
                    obtain rfl : n1 = n6 := by rw [← hn6, length_openF, length_sealsF]; exact HL1.out.symm
                    rw [HSU.out] at ho6
                    have hc6 := own_cap ho6
                    have HO6 := Lib.hid (RB.of_own ho6)
                    have HB6 := Lib.hid (HB.out.trans (hb6.mono hszq))
                    clear hn6 ho6 hb6 HRt HB
                    go_wp2_with fail
                    exact ⟨⟨k, A6, c6, by omega, rfl, rfl, hc6, HO6.out, HB6.out⟩, by simp only [intOf]; omega⟩
end Go.Proofs.Ytkaakgabhhkggaa
