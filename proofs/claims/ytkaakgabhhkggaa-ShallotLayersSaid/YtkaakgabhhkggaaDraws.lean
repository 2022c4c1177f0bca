/-
  Contracts of shallotref08.Draws and Tape.Draws: pieces of a tape, all or none. Conditions: the sizes that slices can have.
-/
import Derived.Test.YtkaakgabhhkggaaEquals
import Derived.Test.YtkaakgabhhkggaaTape
import Derived.Test.YtkaakgabhhkggaaRowsOf
namespace Go.Proofs.Ytkaakgabhhkggaa
open Go Go.RowKit Go.Sh

/-- the first k sizes together -/
def pre (zs : List Int) (k : Nat) : Nat := ((zs.take k).map Int.toNat).sum
theorem pre_succ {zs : List Int} {k : Nat} (h : k < zs.length) : pre zs (k + 1) = pre zs k + (it zs k).toNat := by
  unfold pre
  rw [List.take_succ_eq_append_getElem h, List.map_append, List.sum_append]
  simp [it, h]
theorem pre_le {zs : List Int} {k j : Nat} (h : k ≤ j) : pre zs k ≤ pre zs j := by
  unfold pre
  have e : zs.take j = zs.take k ++ (zs.take j).drop k := by
    have := List.take_append_drop k (zs.take j)
    rw [List.take_take, Nat.min_eq_left h] at this
    exact this.symm
  rw [e, List.map_append, List.sum_append]
  omega
/-- piece k -/
def pce (l : List UInt8) (zs : List Int) (k : Nat) : List UInt8 := (l.drop (pre zs k)).take (it zs k).toNat
def cutP (l : List UInt8) (zs : List Int) (m : Nat) : List (List UInt8) := (List.range m).map (pce l zs)
theorem cutP_succ (l : List UInt8) (zs : List Int) (m : Nat) : cutP l zs (m + 1) = cutP l zs m ++ [pce l zs m] := by simp [cutP, List.range_succ]
def negB (zs : List Int) : Bool := zs.any fun z => decide (z < 0)
set_option maxRecDepth 100000 in
theorem neg_of {zs : List Int} {k : Nat} (hk : k < zs.length) (h : it zs k < 0) : negB zs = true := by
  rw [negB, List.any_eq_true]
  exact ⟨_, it_mem hk, by simpa using h⟩
set_option maxRecDepth 100000 in
theorem neg_none {zs : List Int} (h : ∀ k, k < zs.length → 0 ≤ it zs k) : negB zs = false := by
  rw [negB, List.any_eq_false]
  intro z hz
  obtain ⟨i, hi, rfl⟩ := List.getElem_of_mem hz
  have := h i hi
  simp [it, hi] at this
  simpa using this


/-- what draws of the sizes zs from place a on give: the error's number, the pieces, the next place -/
def drE (n a : Nat) (zs : List Int) : Int := if negB zs = true then 1 else if n < a + pre zs zs.length then 8 else 0
def drL (l : List UInt8) (a : Nat) (zs : List Int) : List (List UInt8) := if drE l.length a zs = 0 then cutP (l.drop a) zs zs.length else []
def drN (n a : Nat) (zs : List Int) : Nat := if drE n a zs = 0 then a + pre zs zs.length else a
def RefDrawsPost (w : World) (l : List UInt8) (a : Nat) (zs : List Int) (e : Ending) (w' : World) : Prop :=
  ∃ A m c, e = .returned (.tuple #[.slice A m c, .int .i64 (drN l.length a zs : Nat), .int .i64 (drE l.length a zs)]) ∧ OBB w' w.heap.size 5 22 (.slice A m c) m (drL l a zs) ∧ Below w.heap.size w w'

/-- what Draws of the program leaves -/
def DrawsPost (t : TypeId) (suf : List Value) (S : Value) (w : World) (base p : Nat) (l : List UInt8) (a : Nat) (zs : List Int) (e : Ending) (w' : World) : Prop :=
  ∃ A m c vs, e = .returned (.tuple #[.slice A m c, .int .i64 (drE l.length a zs)]) ∧ OBV w' w.heap.size 5 22 (.slice A m c) m (drL l a zs) vs ∧ CurG t suf S w' base p l (drN l.length a zs) ∧ w.grownBy w' (some p)

theorem CurG.far {t : TypeId} {suf : List Value} {S : Value} {w w' : World} {base p T : Nat} {l : List UInt8} {a : Nat} {row : Option Nat} (h : CurG t suf S w base p l a) (hg : w.grownBy w' row) (hr : ∀ g, row = some g → T ≤ g) (hp : p < T) (hS : ∀ k, S.ownBlock = some k → k < T) : CurG t suf S w' base p l a := by
  refine h.grown hg (fun e => by have := hr p e; omega) ?_
  rcases ho : S.ownBlock with _ | k
  · exact .inl rfl
  · refine .inr fun e => ?_
    have h1 := hS k ho
    have h2 := hr k e.symm
    omega

set_option maxRecDepth 100000 in
set_option maxHeartbeats 1000000 in
theorem Draws_any (t : TypeId) (suf : List Value) (S : Value) (ht : 5 ≠ t) (p base : Nat) (l : List UInt8) (a : Nat) (A' : Option Addr) (m c' : Nat) (zs : List Int) (w : World) (B' : Nat) (h : CurG t suf S w base p l a) (hz : RI w B' A' m zs) (hB' : B' ≤ w.heap.size) (hne : ∀ ad, A' = some ad → ad.block ≠ p) (hl : l.length ≤ 140737488355328) (hm : m * 24 ≤ 140737488355328) :
    Calls Try.prog 18 #[.pointer (some ⟨p, 0, none⟩), .slice A' m c'] w (DrawsPost t suf S w base p l a zs) := by
  have HZ := Lib.hid hz
  have HZL := Lib.hid hz.len
  have HC := Lib.hid h
  have HTOP := Lib.hid h.top.2
  have HNE := Lib.hid hne
  have ha := h.len
  obtain ⟨n, hn⟩ : ∃ n, l.length = n := ⟨_, rfl⟩
  rw [hn] at hl ha
  have HL := Lib.hid hn
  clear hz h hne hn
  go_enter Try.func18, Try.ntmps18
  go_wp2
  go_loop [7, 18] (fun _ i => ∃ k : Nat, k ≤ m ∧ i = .int .i64 k ∧ ∀ j, j < k → 0 ≤ it zs j) (fun _ i => m - (intOf i).toNat)
  case atStart => exact ⟨0, by omega, rfl, fun j hj => absurd hj (by omega)⟩
  case round =>
    obtain ⟨k, hk, rfl, hpos⟩ := hrel
    have HP := Lib.hid hpos
    clear hpos
    by_cases hlt : k < m
    · obtain ⟨ad, rfl, hab, hcell, b1, b2⟩ := HZ.out.at_ hlt
      by_cases hneg : it zs k < 0
      · have h1 := neg_of (by rw [HZL.out]; exact hlt) hneg
        have E2 := Lib.hid (show drE l.length a zs = 1 by simp [drE, h1])
        have E1 := Lib.hid (show drL l a zs = [] by simp [drL, E2.out])
        have E3 := Lib.hid (show drN l.length a zs = a by simp [drN, E2.out])
        clear h1
        go_wp2
        go_ret2
        unfold DrawsPost
        rw [E1.out, E2.out, E3.out]
        exact ⟨none, 0, 0, [], rfl, OBV.nil _ _ _ _, HC.out, World.grownBy.refl _ _⟩
      · have hge : 0 ≤ it zs k := by omega
        clear hneg
        go_wp2
        refine ⟨⟨k + 1, by omega, by go_num, fun j hj => ?_⟩, by simp [intOf]; omega⟩
        by_cases hjk : j < k
        · exact HP.out j hjk
        · obtain rfl : j = k := by omega
          exact hge
    · obtain rfl : k = m := by omega
      have HNEG := Lib.hid (neg_none (zs := zs) (fun j hj => HP.out j (by rw [← HZL.out]; exact hj)))
      clear hlt
      go_wp2_with fail
      refine (Left_any t suf S p base l a _ HC.out (by rw [HL.out]; exact hl)).mono ?_
      rintro e w1 ⟨rfl, nd, rfl⟩
      rw [HL.out]
      have HC1 := Lib.hid (HC.out.drewN nd)
      have HZ1 := Lib.hid (show RI (w.drewN nd) B' A' k zs from HZ.out)
      have HG1 := Lib.hid (grown_drewN w nd (some p))
      have HTOP1 := Lib.hid (show p < (w.drewN nd).heap.size ∧ ∀ k, S.ownBlock = some k → k < (w.drewN nd).heap.size from HTOP.out)
      have HB1 : B' ≤ (w.drewN nd).heap.size := hB'
      have hz1 : (w.drewN nd).heap.size = w.heap.size := rfl
      have HZS := Lib.hid hz1
      clear HC HZ HTOP hz1
      generalize w.drewN nd = w1 at *
      go_wp2
      go_loop [8, 10, 31] (fun x _ i => ∃ q : Nat, q ≤ k ∧ i = .int .i64 q ∧ a + pre zs q ≤ n ∧ x = .int .i64 ((n - (a + pre zs q) : Nat) : Int)) (fun _ _ i => k - (intOf i).toNat)
      case atStart => exact ⟨0, by omega, rfl, by simp [pre]; exact ha, by simp [pre]⟩
      case round =>
        obtain ⟨q, hq, rfl, hpre, rfl⟩ := hrel
        by_cases hlt : q < k
        · obtain ⟨ad, rfl, hab, hcell, b1, b2⟩ := HZ1.out.at_ hlt
          have hge := HP.out q hlt
          have HS := Lib.hid (pre_succ (zs := zs) (k := q) (by rw [HZL.out]; exact hlt))
          by_cases hbig : ((n - (a + pre zs q) : Nat) : Int) < it zs q
          · have hmono : pre zs (q + 1) ≤ pre zs zs.length := pre_le (by rw [HZL.out]; omega)
            have hsum := HS.out
            have E2 := Lib.hid (show drE l.length a zs = 8 by
              unfold drE
              rw [if_neg (by rw [HNEG.out]; decide), HL.out, if_pos (by omega)])
            have E1 := Lib.hid (show drL l a zs = [] by simp [drL, E2.out])
            have E3 := Lib.hid (show drN l.length a zs = a by simp [drN, E2.out])
            clear hmono hsum
            generalize a + pre zs q = pq at *
            go_wp2
            go_ret2
            unfold DrawsPost
            rw [E1.out, E2.out, E3.out]
            exact ⟨none, 0, 0, [], rfl, OBV.nil _ _ _ _, HC1.out, HG1.out⟩
          · have HS' : a + pre zs (q + 1) ≤ n := by rw [HS.out]; omega
            have HV := Lib.hid (show (((n - (a + pre zs q) : Nat) : Int) - it zs q) = ((n - (a + pre zs (q + 1)) : Nat) : Int) by rw [HS.out]; omega)
            clear HS
            generalize a + pre zs q = pq at *
            have HSn := Lib.hid HS'
            clear HS'
            go_wp2
            refine ⟨⟨q + 1, by omega, by go_num, HSn.out, ?_⟩, by simp [intOf]; omega⟩
            rw [← HV.out]
        · obtain rfl : q = k := by omega
          have E2 := Lib.hid (show drE l.length a zs = 0 by
            unfold drE
            rw [if_neg (by rw [HNEG.out]; decide), HZL.out, HL.out, if_neg (by omega)])
          have E1 := Lib.hid (show drL l a zs = cutP (l.drop a) zs q by
            unfold drL
            rw [if_pos E2.out, HZL.out])
          have E3 := Lib.hid (show drN l.length a zs = a + pre zs q by
            unfold drN
            rw [if_pos E2.out, HZL.out])
          have HSUM := Lib.hid hpre
          clear hpre
          generalize ((n - (a + pre zs q) : Nat) : Int) = z at *
          go_wp2_with (at_make; refine wl_make0 TBB rfl (.const (.int .i64 0)) (.tmp 43) rfl .i64 .i64 _ rfl rfl q ?m1 ?m2 ?m3 w.heap.size (by rw [HZS.out]; exact Nat.le_refl _) ?m4)
          case m1 => rfl
          case m2 => omega
          case m3 => omega
          case m4 =>
            intro w2 hown hg _
            have HO2 := Lib.hid (OBV.made (e := 5) hown)
            have HC2 := Lib.hid (HC1.out.grown hg (by simp) (by cases h : S.ownBlock <;> simp))
            have HG2 := Lib.hid (HG1.out.trans ⟨hg.os, hg.tape, hg.output, hg.size, fun i hi _ => hg.block i hi (by simp)⟩)
            have HT := Lib.hid (show p < w.heap.size ∧ ∀ k, S.ownBlock = some k → k < w.heap.size by rw [← HZS.out]; exact HTOP1.out)
            have HZ0 := Lib.hid (show RI w1 B' A' q zs from HZ1.out)
            have HGz := Lib.hid (show w1.grownBy w2 (some p) from ⟨hg.os, hg.tape, hg.output, hg.size, fun i hi _ => hg.block i hi (by simp)⟩)
            clear hown hg HC1 HG1 HTOP1
            go_wp2
            go_loopw [11, 13, 14, 15, 47] (fun v _ _ _ i wr => ∃ (j g c2 : Nat) (vs : List Value), j ≤ q ∧ i = .int .i64 j ∧ v = .slice (some ⟨g, 0, none⟩) j c2 ∧ OBV wr w.heap.size 5 22 (.slice (some ⟨g, 0, none⟩) j c2) j (cutP (l.drop a) zs j) vs ∧ CurG t suf S wr base p l (a + pre zs j) ∧ w.grownBy wr (some p) ∧ w1.grownBy wr (some p)) (fun _ _ _ _ i _ => q - (intOf i).toNat)
            case atStart => exact ⟨0, _, _, [], by omega, rfl, rfl, HO2.out, HC2.out, HG2.out, HGz.out⟩
            case round =>
              obtain ⟨j, g, c2, vs, hj, rfl, rfl, hown, hcur, hgw, hgz⟩ := hrel
              have HO := Lib.hid hown
              have HC := Lib.hid hcur
              have HG := Lib.hid hgw
              have HGW := Lib.hid hgz
              have hszw : w.heap.size ≤ wr.heap.size := hgw.size
              clear hown hcur hgw hgz
              by_cases hlt : j < q
              · obtain ⟨ad, rfl, hab, hcell, b1, b2⟩ := HZ1.out.at_ hlt
                have hge := HP.out j hlt
                have hadp : ad.block ≠ p := HNE.out ad rfl
                have hcell : wr.cell? (ad.add j) = some (.int .i64 (it zs j)) := by
                  rw [World.cell?_of_block (HGW.out.block (ad.add j).block (by rw [block_of_add]; omega) (by rw [block_of_add]; intro e; injection e with e; exact hadp e))]
                  exact hcell
                have hp1 : a + pre zs (j + 1) ≤ n := by
                  have h1 : pre zs (j + 1) ≤ pre zs q := pre_le (by omega)
                  have h2 := HSUM.out
                  omega
                have HS := Lib.hid (pre_succ (zs := zs) (k := j) (by rw [HZL.out]; exact hlt))
                obtain ⟨sz, hsz⟩ := Int.eq_ofNat_of_zero_le hge
                have hpn : a + pre zs j + sz ≤ n := by have := HS.out; rw [hsz, Int.toNat_natCast] at this; omega
                have HPS := Lib.hid (show a + pre zs (j + 1) = a + pre zs j + sz by rw [HS.out, hsz, Int.toNat_natCast]; omega)
                have HPC := Lib.hid (show pce (l.drop a) zs j = (l.drop (a + pre zs j)).take sz by unfold pce; rw [hsz, List.drop_drop]; rfl)
                rw [hsz] at hcell
                clear hp1 hsz HS b1 b2 hge hadp
                generalize a + pre zs j = pj at *
                have T1 := Lib.hid (show takE l.length pj (sz : Int) = 0 by simp only [takE]; rw [if_neg (by omega), HL.out, if_neg (by omega)])
                have T2 := Lib.hid (show takL l pj (sz : Int) = (l.drop pj).take sz by simp [takL, T1.out])
                have T3 := Lib.hid (show takN l.length pj (sz : Int) = pj + sz by simp [takN, T1.out])
                go_wp2_with fail
                refine (Draw_any t suf S ht p base l pj sz _ HC.out (by rw [HL.out]; exact hl)).mono ?_
                rintro e w3 ⟨A3, n3, c3, rfl, hn3, hown3, hg3, hc3, hgr3⟩
                rw [T2.out] at hn3 hown3
                rw [T3.out] at hc3
                rw [show drwE l.length pj (sz : Int) = 0 by simp [drwE, T1.out]]
                obtain rfl : n3 = sz := by rw [← hn3, List.length_take, List.length_drop, HL.out]; omega
                have HX := Lib.hid ((own_base hown3 hszw).alloc (.cells #[.slice A3 n3 c3] 22))
                have HVT := Lib.hid (fun u hu k hk => (HO.out.lt u hu k hk).2)
                have HXT := Lib.hid (fun k hk => (hown3.lt k hk).1)
                have HO3 := Lib.hid ((HO.out.kept hgr3 HT.out.1).later (OBB_alloc_help (.cells #[.slice A3 n3 c3] 22) (Nat.le_refl _)))
                have HC3 := Lib.hid (hc3.later ((Below.refl _ _).alloc (Nat.le_refl _) (.cells #[.slice A3 n3 c3] 22)))
                have ga : ∀ (x y : World) (o : Obj), x.grownBy y (some p) → x.grownBy (y.alloc o) (some p) := fun x y o h => ⟨h.os, h.tape, h.output, Nat.le_trans h.size (by simp), fun i hi hne => (Below.heap_alloc y o i (Nat.lt_of_lt_of_le hi h.size)).trans (h.block i hi hne)⟩
                have HG3 := Lib.hid (ga _ _ (.cells #[.slice A3 n3 c3] 22) (HG.out.trans hgr3))
                have HGW3 := Lib.hid (ga _ _ (.cells #[.slice A3 n3 c3] 22) (HGW.out.trans hgr3))
                have hsz3 : w.heap.size ≤ w3.heap.size := by have := hgr3.size; omega
                have HV := Lib.hid HO3.out.2.1
                clear hn3 hown3 hg3 hc3 hgr3 hcell HO HC HG HGW T1 T2 T3 ga
                go_wp2_with (at_builtin; refine wl_app TBB rfl (.tmp 60) (.tmp 62) rfl (.slice (some ⟨g, 0, none⟩) j c2) rfl (some ⟨w3.heap.size, 0, none⟩) 1 1 rfl w.heap.size j vs HV.out (w3.heap.size + 1) [.slice A3 n3 c3] ?c1 ?c2 ?c3 ?c4 ?c6 ?c5)
                case c1 => exact Reads.lit w3 _ [.slice A3 n3 c3] 1 1 rfl _ rfl
                case c2 => simp [Value.oneCell']
                case c3 => omega
                case c4 => omega
                case c6 => simp; omega
                case c5 =>
                  intro A4 c4 w4 hown4 hg4 hat
                  have hA : ∃ g, A4 = some ⟨g, 0, none⟩ := by
                    rcases hat with h | h <;> exact ⟨_, own_some hown4 (h.trans rfl)⟩
                  obtain ⟨g4, rfl⟩ := hA
                  have hrow := own_drop HV.out
                  have HO4 := Lib.hid (HO3.out.snoc HX.out HVT.out HXT.out (by decide) hg4 hown4)
                  have HC4 := Lib.hid (HC3.out.far hg4 hrow HT.out.1 HT.out.2)
                  have gb : ∀ (x : World), x.heap.size = w.heap.size → x.grownBy (w3.alloc (.cells #[.slice A3 n3 c3] 22)) (some p) → x.grownBy w4 (some p) := fun x hx h => ⟨hg4.os.trans h.os, hg4.tape.trans h.tape, hg4.output.trans h.output, Nat.le_trans h.size hg4.size, fun i hi hne => (hg4.block i (Nat.lt_of_lt_of_le hi h.size) (fun e => by have := hrow i e.symm; omega)).trans (h.block i hi hne)⟩
                  have HG4 := Lib.hid (gb w rfl HG3.out)
                  have HGW4 := Lib.hid (gb w1 HZS.out HGW3.out)
                  clear hown4 hg4 hat hrow gb
                  go_wp2
                  refine ⟨⟨j + 1, g4, c4, vs ++ [.slice A3 n3 c3], by omega, by go_num, rfl, ?_, ?_, HG4.out, HGW4.out⟩, by simp [intOf]; omega⟩
                  · rw [cutP_succ, HPC.out]
                    exact HO4.out
                  · rw [HPS.out]
                    exact HC4.out
              · obtain rfl : j = q := by omega
                go_wp2
                go_ret2
                unfold DrawsPost
                rw [E1.out, E2.out, E3.out]
                exact ⟨_, _, _, _, rfl, HO.out, HC.out, HG.out⟩
end Go.Proofs.Ytkaakgabhhkggaa
