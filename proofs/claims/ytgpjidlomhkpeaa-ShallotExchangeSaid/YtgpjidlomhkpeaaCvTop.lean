/-
  shallottop.ShallotExchange returns true, and nothing that was there turns. Conditions: the sizes that slices can have.
-/
import Derived.Test.YtgpjidlomhkpeaaCvTw
namespace Go.Proofs.Ytgpjidlomhkpeaa
open Go Go.RowKit Go.Sh

/-- both chains come to one answer -/
theorem chain_two (A0 : Option Addr) (n0 c0 j : Nat) (l0 : List UInt8) (lt : List (List UInt8)) (h32 : ∀ t, t < j → (lat lt t).length = 32) (hl : lt.length = j) (hj : j ≤ 3) (hlen : l0.length = n0) :
    ∃ (V : List UInt8) (er : Int), V.length = 32 ∧ (∀ (W : World) (A : Option Addr) (c : Nat) (ls : List (List UInt8)), RB W W.heap.size A0 n0 l0 → RBB W W.heap.size A j ls → ls.Perm lt →
      Calls Try.prog 4 #[.slice A0 n0 c0, .slice A j c] W fun e w' => e = .returned (.tuple #[arr V, .int .i64 er]) ∧ Below W.heap.size W w') ∧
      (er ≠ 0 → V = z32 ∧ ∃ b, ((n0 : Int) != 32) = b ∧ (er == 2) = b) ∧ (er = 0 → n0 = 32 ∧ ∃ y, y < pF ∧ V = toLe 32 y ∧ (j ≠ 0 → sc z32 (uN l0) ≠ 0)) := by
  have hmem : ∀ k ∈ lt, k.length = 32 := fun k hk => by
    obtain ⟨i, hi, rfl⟩ := List.getElem_of_mem hk
    have := h32 i (by omega)
    rwa [lat, List.getD_eq_getElem?_getD, List.getElem?_eq_getElem hi] at this
  by_cases hn : n0 = 32
  · subst hn
    cases ho : chN (uN l0) lt with
    | none =>
      refine ⟨z32, 5, rfl, fun W A c ls h1 h2 h3 => ?_, fun _ => ⟨rfl, false, by decide, by decide⟩, fun h => by cases h⟩
      have h := Chain_any A0 A c0 c j l0 ls W h1 h2 (fun k hk => hmem k (h3.mem_iff.1 hk)) (by omega)
      rw [← chN_perm h3.symm hmem, ho, chV] at h
      exact h
    | some y =>
      refine ⟨toLe 32 y, 0, toLe_len _ _, fun W A c ls h1 h2 h3 => ?_, fun h => absurd rfl h, fun _ => ⟨rfl, y, chN_lt (uN_lt _) ho, rfl, fun hj0 => chN_low hmem (by intro e; subst e; simp at hl; omega) ho⟩⟩
      have h := Chain_any A0 A c0 c j l0 ls W h1 h2 (fun k hk => hmem k (h3.mem_iff.1 hk)) (by omega)
      rw [← chN_perm h3.symm hmem, ho, chV] at h
      exact h
  · exact ⟨z32, 2, rfl, fun W A c ls _ _ _ => ChainBad_any A0 A n0 c0 c j W hn, fun _ => ⟨rfl, true, by simp only [bne_iff_ne, ne_eq]; omega, by decide⟩, fun h => by cases h⟩
set_option maxHeartbeats 8000000 in
set_option maxRecDepth 100000 in
theorem ShallotExchange_walk (A0 : Option Addr) (n0 c0 : Nat) (l0 : List UInt8) (A1 : Option Addr) (n1 c1 : Nat) (l1 : List (List UInt8)) (A2 : Option Addr) (n2 c2 : Nat) (l2 : List Int) (w : World)
    (hu : RB w w.heap.size A0 n0 l0) (hn0 : n0 ≤ 140737488355328) (hs : RBB w w.heap.size A1 n1 l1) (hm : n1 * 24 ≤ 140737488351232) (_ : ∀ l ∈ l1, l.length ≤ 140737488351232) (hz : RI w w.heap.size A2 n2 l2) (hn2 : n2 ≤ 140737488355328) (hc1 : n1 ≤ c1) :
    Calls Try.prog 3 #[.slice A0 n0 c0, .slice A1 n1 c1, .slice A2 n2 c2] w (LawPost w) := by
  have HU := Lib.hid hu
  have HS := Lib.hid hs
  have HZ := Lib.hid hz
  clear hu hs hz
  obtain ⟨g0, hg0⟩ : ∃ g, w.heap.size = g := ⟨_, rfl⟩
  rw [hg0] at HU HS HZ
  unfold LawPost
  rw [hg0]
  have hlit : (w.alloc (.cells #[.int .u8 9] 5)).ownsRow g0 5 1 (.slice (some ⟨g0, 0, none⟩) 1 1) 1 (bv [9]) := by
    have := World.ownsRow_lit (base := g0) (e := 5) (size := 1) w #[.int .u8 9] 1 (by omega) (by decide) rfl
    rw [hg0] at this
    exact this
  have HLIT := Lib.hid hlit
  have HBL := Lib.hid ((Below.refl g0 w).alloc (by omega) (.cells #[.int .u8 9] 5))
  have hsl : (w.alloc (.cells #[.int .u8 9] 5)).heap.size = g0 + 1 := by simp [hg0]
  clear hlit
  have HG0 := Lib.hid hg0
  go_enter Try.func3, Try.ntmps3
  go_wp2_with (at_builtin; refine wl_app0 TB rfl rfl Try.underlying3 rfl (.tmp 18) (.const (.int .i64 31)) rfl (.slice (some ⟨g0, 0, none⟩) 1 1) rfl .i64 _ rfl g0 1 (bv [9]) HLIT.out 31 rfl (by decide) (by decide) (by omega) (by intro h; cases h) ?c4)
  case c4 =>
    intro A3 c3 w1 hown hg hat
    have HN1 := Lib.hid (show RB w1 w1.heap.size A3 32 n9 from RB.of_own (l := n9) hown)
    have hb1 := HBL.out.grown hg (by omega) (fun k hk => by simp [Value.ownBlock] at hk; omega)
    have HB1 := Lib.hid hb1
    clear hown hg hat hb1 HLIT HBL hsl
    have hC9 := Chain_any A3 none c3 0 0 n9 [] w1 HN1.out ⟨rfl, [], Reads.none_, fun i hi => absurd hi (by omega)⟩ (fun k hk => by cases hk) (by omega)
    rw [chN_nil, uN_9, chV, toLe_9] at hC9
    have HC9 := Lib.hid hC9
    clear hC9
    go_wp2_with fail
    refine HC9.out.mono ?_
    rintro e w2 ⟨rfl, hb2⟩
    have hB2 := HB1.out.trans (hb2.mono (by have := HB1.out.size; omega))
    have hg2 := hB2.size
    rw [HG0.out] at hg2
    obtain ⟨q1, hq1⟩ : ∃ q, w2.heap.size = q := ⟨_, rfl⟩
    rw [hq1] at hg2
    have hal := (Below.refl q1 w2).alloc (by rw [hq1]; exact Nat.le_refl _) (.cells (bv z32).toArray 25)
    have hy3 := Arr.new w2 (l := z32) rfl
    rw [hq1] at hy3
    have HY3 := Lib.hid hy3
    have hy4 := hy3.row (r := n9) rfl
    have hc9 : ((w2.alloc (.cells (bv z32).toArray 25)).setRow q1 (bv n9).toArray).cell? ⟨q1, 0, none⟩ = some (.int .u8 9) := hy4.cell (k := 0) (by decide)
    have HB4 := Lib.hid (hB2.trans ((below_setRow hal (Nat.le_refl q1) (bv n9).toArray).mono hg2))
    have HS4 := Lib.hid (show ((w2.alloc (.cells (bv z32).toArray 25)).setRow q1 (bv n9).toArray).heap.size = q1 + 1 by rw [size_setRow]; simp [hq1])
    clear hB2 hal hy3 hy4 hb2 HN1 HB1 HC9
    go_upto_region 2 with (first | (refine wl_allocA (by rfl) (by rfl) q1 hq1 ?_; go_simp) | (refine wl_storeA (.tmp 7) (.tmp 21) HY3.out (by rfl) (by rfl) (by rfl) (by rfl) (show n9.length = 32 from rfl) ?_; go_simp))
    clear HY3
    generalize (w2.alloc (.cells (bv z32).toArray 25)).setRow q1 (bv n9).toArray = w4 at *
    have HFEW := Lib.hid (few_any A1 n1 c1 3 l1 w4 g0 (HS.out.below HB4.out) (by have := HB4.out.size; omega) hc1 (by decide) (by omega))
    rw [show ((3 : Nat) : Int) = 3 from rfl] at HFEW
    go_wp2_with fail
    clear hc9
    refine HFEW.out.mono ?_
    rintro e w5 ⟨A5, c5, rfl, ho5, hb5⟩
    have hkl := ho5.1
    have hk3 : Nat.min 3 n1 ≤ 3 := Nat.min_le_left _ _
    generalize Nat.min 3 n1 = kk at *
    generalize l1.take 3 = lt at *
    rw [HS4.out] at ho5 hb5
    have HO5 := Lib.hid ho5
    have HB5 := Lib.hid (HB4.out.trans (hb5.mono (by omega)))
    have hq5 := hb5.size
    rw [HS4.out] at hq5
    have HR5 := Lib.hid (ho5.rbb (by omega))
    clear ho5 hb5 HB4 HFEW HS4
    go_wp2_with fail
    go_loopw [34, 11] (fun i _ wr => ∃ j : Nat, j ≤ kk ∧ i = .int .i64 (j : Int) ∧ wr = w5 ∧ ∀ t, t < j → (lat lt t).length = 32) (fun i _ _ => kk - (intOf i).toNat)
    case' atStart => exact ⟨0, by omega, rfl, rfl, fun t ht => absurd ht (by omega)⟩
    case' round =>
      obtain ⟨j, hj, rfl, rfl, h32⟩ := hrel
      have H32 := Lib.hid h32
      clear h32
      by_cases hlt : j < kk
      · obtain ⟨ad, Ai, ni, ci, rfl, hab, hc, hle, hrb⟩ := HR5.out.at_ hlt
        have HNL := Lib.hid hrb.len
        clear hle hrb
        by_cases hn : ni = 32
        · subst hn
          go_wp2_with fail
          exact ⟨⟨j + 1, by omega, by go_num, trivial, fun t ht => by
            by_cases e : t = j
            · rw [e]; exact HNL.out
            · exact H32.out t (by omega)⟩, by simp [intOf]; omega⟩
        · have hni : ((ni : Int) != 32) = true := by simp only [bne_iff_ne, ne_eq]; omega
          clear hn
          go_wp2_with fail
          go_ret
          exact ⟨rfl, HB5.out⟩
      · obtain rfl : j = kk := by omega
        obtain ⟨V, er, hVl, hCH, hE1, hE2⟩ := chain_two A0 n0 c0 j l0 lt H32.out hkl hk3 HU.out.len
        have HCH := Lib.hid hCH
        have HE1 := Lib.hid hE1
        have HE2 := Lib.hid hE2
        have HC1 := Lib.hid (hCH wr A5 c5 lt ((HU.out.below HB5.out).more (by omega)) HR5.out (List.Perm.refl _))
        clear hCH hE1 hE2 H32
        go_wp2_with fail
        refine HC1.out.mono ?_
        rintro e w6 ⟨rfl, hb6⟩
        have hB6 := HB5.out.trans (hb6.mono (by omega))
        have ho6 := HO5.out.later hb6 (by omega)
        have hs6 := hb6.size
        obtain ⟨q3, hq3⟩ : ∃ q, w6.heap.size = q := ⟨_, rfl⟩
        rw [hq3] at hs6
        have hal := (Below.refl q3 w6).alloc (by rw [hq3]; exact Nat.le_refl _) (.cells (bv z32).toArray 25)
        have hy3 := Arr.new w6 (l := z32) rfl
        rw [hq3] at hy3
        have HY3 := Lib.hid hy3
        have hb7 := below_setRow hal (Nat.le_refl q3) (bv V).toArray
        have HY7 := Lib.hid (hy3.row (r := V) hVl)
        have HO7 := Lib.hid (ho6.later (hb7.mono (by omega)) (by omega))
        have HB7 := Lib.hid (hB6.trans (hb7.mono (by omega)))
        have hs7 : ((w6.alloc (.cells (bv z32).toArray 25)).setRow q3 (bv V).toArray).heap.size = q3 + 1 := by rw [size_setRow]; simp [hq3]
        clear hB6 ho6 hal hy3 hb6 hb7 HC1 HO5 HB5 HR5
        go_upto_region 12 with (first | (refine wl_allocA (by rfl) (by rfl) q3 hq3 ?_; go_simp) | (refine wl_storeA (.tmp 12) (.tmp 46) HY3.out (by rfl) (by rfl) (by rfl) (by rfl) hVl ?_; go_simp))
        clear HY3
        generalize (w6.alloc (.cells (bv z32).toArray 25)).setRow q3 (bv V).toArray = w7 at *
        have HSW := Lib.hid (swapped_any A5 j c5 lt A2 n2 c2 l2 w7 (q1 + 1) g0 g0 HO7.out (HZ.out.below HB7.out) (by omega) (by omega) (by omega) (by omega) hn2)
        rw [hs7] at HSW
        go_wp2_with fail
        refine HSW.out.mono ?_
        rintro e w8 ⟨A8, c8, ls8, rfl, hp8, ho8, hb8⟩
        have hB8 := HB7.out.trans (hb8.mono (by omega))
        have hs8 := hb8.size
        rw [hs7] at hs8
        have hy8 := HY7.out.below hb8 (by omega)
        have HC2 := Lib.hid (HCH.out w8 A8 c8 ls8 ((HU.out.below hB8).more (by omega)) (ho8.rbb (by omega)) hp8)
        have HY8 := Lib.hid hy8
        have HB8 := Lib.hid hB8
        clear hp8 ho8 hb8 hB8 hy8 HSW HO7 HB7 HY7 HCH hs7
        go_wp2_with fail
        refine HC2.out.mono ?_
        rintro e w9 ⟨rfl, hb9⟩
        have hs9 := hb9.size
        have hy9 := HY8.out.below hb9 (by omega)
        have hB9 := HB8.out.trans (hb9.mono (by omega))
        obtain ⟨q4, hq4⟩ : ∃ q, w9.heap.size = q := ⟨_, rfl⟩
        rw [hq4] at hs9
        have hal := (Below.refl q4 w9).alloc (by rw [hq4]; exact Nat.le_refl _) (.cells (bv z32).toArray 25)
        have hy3 := Arr.new w9 (l := z32) rfl
        rw [hq4] at hy3
        have HY3 := Lib.hid hy3
        have hb10 := below_setRow hal (Nat.le_refl q4) (bv V).toArray
        have HYa := Lib.hid (hy9.below hb10 (by omega))
        have HYb := Lib.hid (hy3.row (r := V) hVl)
        have HBa := Lib.hid (hB9.trans (hb10.mono (by omega)))
        have hs10 : ((w9.alloc (.cells (bv z32).toArray 25)).setRow q4 (bv V).toArray).heap.size = q4 + 1 := by rw [size_setRow]; simp [hq4]
        have hq34 : q3 < q4 := by omega
        have hgq : g0 ≤ q3 := by omega
        clear hal hy3 hb10 hy9 hB9 hb9 HC2 HY8 HB8 hs8 hs9
        go_upto_region 13 with (first | (refine wl_allocA (by rfl) (by rfl) q4 hq4 ?_; go_simp) | (refine wl_storeA (.tmp 13) (.tmp 54) HY3.out (by rfl) (by rfl) (by rfl) (by rfl) hVl ?_; go_simp))
        clear HY3
        generalize (w9.alloc (.cells (bv z32).toArray 25)).setRow q4 (bv V).toArray = wa at *
        have HVV := Lib.hid (show (!decide (V = V)) = false by simp)
        go_upto_region 15 with (first | (refine wl_loadA (.tmp 12) HYa.out (by rfl) (by rfl) (by rfl) ?_; go_simp) | (refine wl_loadA (.tmp 13) HYb.out (by rfl) (by rfl) (by rfl) ?_; go_simp) | (refine wl_neA (.tmp 60) (.tmp 61) hVl hVl (by rfl) (by rfl) (by rfl) (by rfl) ?_; rw [HVV.out]; go_simp))
        by_cases her : er = 0
        · subst her
          obtain ⟨rfl, y, hyp, hVy, hlow⟩ := HE2.out rfl
          have hRD := Read_any (some ⟨q3, 0, none⟩) 32 V wa (HYa.out.rb HYa.out.lt)
          rw [show le V % 57896044618658097711785492504343953926634992332820282019728792003956564819968 % pF = y by rw [hVy]; exact le_back hyp, el_is y] at hRD
          have HRD := Lib.hid hRD
          have hBY := Bytes_any y (Nat.lt_trans hyp (by decide))
          have hNO := Norm_any y (Nat.lt_trans hyp (by decide))
          rw [Nat.mod_eq_of_lt hyp, el_is y] at hBY hNO
          rw [← hVy] at hBY
          have hLO := Low_any A0 c0 l0
          have HLOW := Lib.hid hlow
          have HUX := Lib.hid HU.out
          clear hRD hVy hlow HE1 HE2
          obtain ⟨EC, hEC⟩ : ∃ EC, elL y = EC := ⟨_, rfl⟩
          obtain ⟨VB, hVB⟩ : ∃ VB, bv V = VB := ⟨_, rfl⟩
          have hey : elc y = EC.toArray := by rw [← hEC]; rfl
          have hav : arr V = .agg VB.toArray := by rw [← hVB]; rfl
          have HNE := Lib.hid (show ∀ (o : Oper) (a : Act) (W : World) (x z : Operand) (t : TypeId), o.op = .binOp .neq 33 x z t → a.eval x = .agg EC.toArray → a.eval z = .agg EC.toArray → (execOp a.eval o).run Try.prog W = .ok (.value (.bool false)) W from fun o a W x z t h1 h2 h3 => run_opNeE x z h1 (v := y) (by rw [hey]; exact h2) (by rw [hey]; exact h3))
          have HNA := Lib.hid (show ∀ (o : Oper) (a : Act) (W : World) (x z : Operand) (t : TypeId), o.op = .binOp .neq 25 x z t → a.eval x = .agg VB.toArray → a.eval z = .agg VB.toArray → (execOp a.eval o).run Try.prog W = .ok (.value (.bool false)) W from fun o a W x z t h1 h2 h3 => run_opNeA x z h1 hVl (by rw [hav]; exact h2) (by rw [hav]; exact h3))
          have HIE := Lib.hid (show (Try.prog.info? 33).map (·.size) = some EC.length by rw [← hEC]; exact info4)
          have HIV := Lib.hid (show (Try.prog.info? 25).map (·.size) = some VB.length by rw [← hVB, length_bv, hVl]; exact info32)
          have HBY := Lib.hid (show ∀ W, Calls Try.prog 8 #[.agg EC.toArray] W fun e w' => e = .returned (.agg VB.toArray) ∧ Below W.heap.size W w' by rw [← hey, ← hav]; exact hBY)
          have HNO := Lib.hid (show ∀ W, Calls Try.prog 9 #[.agg EC.toArray] W fun e w' => e = .returned (.agg EC.toArray) ∧ Below W.heap.size W w' by rw [← hey]; exact hNO)
          have HLO := Lib.hid hLO
          have HEY := Lib.hid hey
          clear hBY hNO hLO hey hav
          go_wp2_with fail
          refine HRD.out.mono ?_
          rintro e wb ⟨rfl, hbb⟩
          have hsb := hbb.size
          rw [hs10] at hsb
          have hyb := HYa.out.below hbb (by omega)
          have hBb := HBa.out.trans (hbb.mono (by omega))
          obtain ⟨q5, hq5'⟩ : ∃ q, wb.heap.size = q := ⟨_, rfl⟩
          rw [hq5'] at hsb
          have hal := (Below.refl q5 wb).alloc (by rw [hq5']; exact Nat.le_refl _) (.cells (elc 0) 33)
          have hr6 := Blk4.new wb (X := elc 0) rfl
          rw [hq5'] at hr6
          have HR6 := Lib.hid hr6
          have hr7 := hr6.set (Y := elc y) (elc_size y)
          have hb7 := below_setRow hal (Nat.le_refl q5) (elc y)
          have hyc := hyb.below hb7 (by omega)
          have HBc := Lib.hid (hBb.trans (hb7.mono (by omega)))
          have hsc : ((wb.alloc (.cells (elc 0) 33)).setRow q5 (elc y)).heap.size = q5 + 1 := by rw [size_setRow]; simp [hq5']
          have HRE := Lib.hid (show ((wb.alloc (.cells (elc 0) 33)).setRow q5 (elc y)).drew.rangeAt q5 0 EC from by rw [← hEC]; exact blk_range (l := elL y) hr7.2)
          have HRV := Lib.hid (show ((wb.alloc (.cells (elc 0) 33)).setRow q5 (elc y)).drew.rangeAt q3 0 VB from by rw [← hVB]; exact blk_range (l := bv V) hyc.2)
          have hq35 : q3 < q5 := by omega
          clear hal hr6 hr7 hb7 hyb hyc hBb hbb HRD HYa HYb HBa hEC hVB
          go_upto_region 18 with (first | (refine wl_allocE (by rfl) (by rfl) q5 hq5' ?_; go_simp) | (refine wl_store4 (.tmp 15) (.tmp 80) HR6.out (by rfl) (by rfl) (by rfl) (Y := elc y) (by rfl) (elc_size y) (elc_one y) ?_; go_simp))
          clear HR6
          generalize (wb.alloc (.cells (elc 0) 33)).setRow q5 (elc y) = wc at *
          refine wp_region_noPanic ?_
          refine wp_region_held_drew (S := (fun w' => w'.rangeAt q5 0 EC ∧ w'.rangeAt q3 0 VB)) (by kernel_rfl) ?_ (fun hHeld => ?_)
          · (try dsimp only)
            exact ⟨HRE.out, HRV.out⟩
          refine wpAnyH_take (i := 0) (v := ?v1) rfl (by kernel_rfl) (by kernel_rfl) (by kernel_rfl) (fun _ _ _ h => h) (Or.inl ⟨by rfl, ?y1⟩) (by assumption) ?r1
          case y1 => (intro w hSw; (try dsimp only at hSw); first | (go_simp; done) | (go_simp; with_reducible rfl))
          (try simp only [List.getElem_toArray, List.getElem_cons_zero, Act.put, List.setIfInBounds_toArray, List.set_cons_zero, List.set_cons_succ])
          refine wpAnyH_take (i := 1) (v := ?v2) rfl (by kernel_rfl) (by kernel_rfl) (by kernel_rfl) (fun _ _ _ h => h) (Or.inl ⟨by rfl, ?y2⟩) (by assumption) ?r2
          case y2 => (intro w hSw; (try dsimp only at hSw); first | (go_simp; done) | (go_simp; with_reducible rfl))
          (try simp only [List.getElem_toArray, List.getElem_cons_zero, List.getElem_cons_succ, Act.put, List.setIfInBounds_toArray, List.set_cons_zero, List.set_cons_succ])
          refine wpAnyH_take (i := 2) (v := ?v3) rfl (by kernel_rfl) (by kernel_rfl) (by kernel_rfl) (fun _ _ _ h => h) (Or.inl ⟨by rfl, ?y3⟩) (by assumption) ?r3
          case y3 => (intro w hSw; (try dsimp only at hSw); first | (go_simp; done) | (go_simp; with_reducible rfl))
          (try simp only [List.getElem_toArray, List.getElem_cons_zero, List.getElem_cons_succ, Act.put, List.setIfInBounds_toArray, List.set_cons_zero, List.set_cons_succ])
          refine wpAnyH_take (i := 3) rfl (by kernel_rfl) (by kernel_rfl) (by kernel_rfl) (fun _ _ _ h => h) (yieldsIf_load_mid (by rfl) 33 _ rfl q5 0 rfl EC _ (fun w hSw => hSw.1) Try.underlying33 rfl HIE.out) (by assumption) ?_
          (try simp only [List.getElem_toArray, List.getElem_cons_zero, List.getElem_cons_succ, Act.put, List.setIfInBounds_toArray, List.set_cons_zero, List.set_cons_succ])
          refine wpAnyH_take (i := 5) rfl (by kernel_rfl) (by kernel_rfl) (by kernel_rfl) (fun _ _ _ h => h) (yieldsIf_load_mid (by rfl) 25 _ rfl q3 0 rfl VB _ (fun w hSw => hSw.2) Try.underlying25 rfl HIV.out) (by assumption) ?_
          (try simp only [List.getElem_toArray, List.getElem_cons_zero, List.getElem_cons_succ, Act.put, List.setIfInBounds_toArray, List.set_cons_zero, List.set_cons_succ])
          refine wpAnyH_ready (rs := [4]) (by kernel_rfl) (by simp) ?_
          refine AllReadyH.cons rfl (fun K hK => ?_) AllReadyH.nil
          go_simp
          refine (HBY.out _).mono ?_
          rintro e wd ⟨rfl, hbd0⟩
          have hbd : Below (q5 + 1) wc.drew wd := by rw [← hsc]; exact hbd0
          have hsd : q5 + 1 ≤ wd.heap.size := by rw [← hsc]; exact hbd0.size
          clear hbd0
          have HBd := Lib.hid (HBc.out.drew.trans (hbd.mono (by omega)))
          first | (refine hK.out _ _ ?_ (fun hHeld => ?_)) | (go_wp2_with fail; refine hK.out _ _ ?_ (fun hHeld => ?_))
          · (try dsimp only)
            exact ⟨rangeAt_below hHeld.1 hbd (by omega), rangeAt_below hHeld.2 hbd (by omega)⟩
          clear hK K
          (try simp only [List.getElem_toArray, List.getElem_cons_zero, List.getElem_cons_succ, Act.put, List.setIfInBounds_toArray, List.set_cons_zero, List.set_cons_succ])
          refine wpAnyH_take (i := 6) (v := .bool false) rfl (by kernel_rfl) (by kernel_rfl) (by kernel_rfl) (fun _ _ _ h => h) (Or.inl ⟨by rfl, fun W _ => HNA.out _ _ W (.tmp 86) (.tmp 87) _ rfl rfl rfl⟩) (by assumption) ?_
          (try simp only [List.getElem_toArray, List.getElem_cons_zero, List.getElem_cons_succ, Act.put, List.setIfInBounds_toArray, List.set_cons_zero, List.set_cons_succ])
          refine wpAnyH_take (i := 7) (v := ?v8) rfl (by kernel_rfl) (by kernel_rfl) (by kernel_rfl) (fun _ _ _ h => h) (Or.inl ⟨by rfl, ?y8⟩) (by assumption) ?r8
          case y8 => (intro w hSw; (try dsimp only at hSw); first | (go_simp; done) | (go_simp; with_reducible rfl))
          (try simp only [List.getElem_toArray, List.getElem_cons_zero, List.getElem_cons_succ, Act.put, List.setIfInBounds_toArray, List.set_cons_zero, List.set_cons_succ])
          refine wpAnyH_take (i := 8) (v := ?v9) rfl (by kernel_rfl) (by kernel_rfl) (by kernel_rfl) (fun _ _ _ h => h) (Or.inl ⟨by rfl, ?y9⟩) (by assumption) ?r9
          case y9 => (intro w hSw; (try dsimp only at hSw); first | (go_simp; done) | (go_simp; with_reducible rfl))
          (try simp only [List.getElem_toArray, List.getElem_cons_zero, List.getElem_cons_succ, Act.put, List.setIfInBounds_toArray, List.set_cons_zero, List.set_cons_succ])
          refine wpAnyH_take (i := 9) rfl (by kernel_rfl) (by kernel_rfl) (by kernel_rfl) (fun _ _ _ h => h) (yieldsIf_load_mid (by rfl) 33 _ rfl q5 0 rfl EC _ (fun w hSw => hSw.1) Try.underlying33 rfl HIE.out) (by assumption) ?_
          (try simp only [List.getElem_toArray, List.getElem_cons_zero, List.getElem_cons_succ, Act.put, List.setIfInBounds_toArray, List.set_cons_zero, List.set_cons_succ])
          refine wpAnyH_take (i := 11) rfl (by kernel_rfl) (by kernel_rfl) (by kernel_rfl) (fun _ _ _ h => h) (yieldsIf_load_mid (by rfl) 33 _ rfl q5 0 rfl EC _ (fun w hSw => hSw.1) Try.underlying33 rfl HIE.out) (by assumption) ?_
          (try simp only [List.getElem_toArray, List.getElem_cons_zero, List.getElem_cons_succ, Act.put, List.setIfInBounds_toArray, List.set_cons_zero, List.set_cons_succ])
          refine wpAnyH_ready (rs := [10]) (by kernel_rfl) (by simp) ?_
          refine AllReadyH.cons rfl (fun K hK => ?_) AllReadyH.nil
          go_simp
          refine (HNO.out _).mono ?_
          rintro e we ⟨rfl, hbe⟩
          have hse := hbe.size
          have HBe := Lib.hid (HBd.out.trans (hbe.mono (by omega)))
          first | (refine hK.out _ _ ?_ (fun hHeld => ?_)) | (go_wp2_with fail; refine hK.out _ _ ?_ (fun hHeld => ?_))
          · (try dsimp only)
            exact ⟨rangeAt_below hHeld.1 hbe (by omega), rangeAt_below hHeld.2 hbe (by omega)⟩
          clear hK K
          (try simp only [List.getElem_toArray, List.getElem_cons_zero, List.getElem_cons_succ, Act.put, List.setIfInBounds_toArray, List.set_cons_zero, List.set_cons_succ])
          refine wpAnyH_take (i := 12) (v := .bool false) rfl (by kernel_rfl) (by kernel_rfl) (by kernel_rfl) (fun _ _ _ h => h) (Or.inl ⟨by rfl, fun W _ => HNE.out _ _ W (.tmp 92) (.tmp 93) _ rfl rfl rfl⟩) (by assumption) ?_
          (try simp only [List.getElem_toArray, List.getElem_cons_zero, List.getElem_cons_succ, Act.put, List.setIfInBounds_toArray, List.set_cons_zero, List.set_cons_succ])
          refine wpAnyH_take (i := 13) (v := ?v14) rfl (by kernel_rfl) (by kernel_rfl) (by kernel_rfl) (fun _ _ _ h => h) (Or.inl ⟨by rfl, ?y14⟩) (by assumption) ?r14
          case y14 => (intro w hSw; (try dsimp only at hSw); first | (go_simp; done) | (go_simp; with_reducible rfl))
          (try simp only [List.getElem_toArray, List.getElem_cons_zero, List.getElem_cons_succ, Act.put, List.setIfInBounds_toArray, List.set_cons_zero, List.set_cons_succ])
          refine wpAnyH_done (by kernel_rfl) ?_ _
          refine NoPanic.normal ?_
          go_wp2_with fail
          clear HBY HNO HNE HNA HIE HIV HRE HRV HBc HBd hHeld
          have HBf := Lib.hid (show Below g0 w we from HBe.out)
          clear HBe
          obtain ⟨R, hR⟩ : ∃ R, decide (sc z32 (uN l0) = 0) = R := ⟨_, rfl⟩
          rw [hR] at HLO
          have HRR := Lib.hid hR
          have hLOW := HLO.out we ((HU.out.below HBf.out).more (by omega))
          have HLO2 := Lib.hid hLOW
          clear hLOW HLO hR
          go_wp2_with fail
          refine HLO2.out.mono ?_
          rintro e wf ⟨rfl, hbf⟩
          have HBg := Lib.hid (HBf.out.trans (hbf.mono (by omega)))
          clear hbf HLO2 HBf
          by_cases hj0 : j = 0
          · have hje : ((j : Int) == 0) = true := by simp only [beq_iff_eq]; omega
            clear hj0
            go_wp2_with fail
            go_ret
            exact ⟨rfl, HBg.out⟩
          · have hje : ((j : Int) == 0) = false := by simp only [beq_eq_false_iff_ne, ne_eq]; omega
            obtain rfl : R = false := by rw [← HRR.out]; exact decide_eq_false (HLOW.out hj0)
            clear hj0
            go_wp2_with fail
            go_ret
            exact ⟨rfl, HBg.out⟩
        · obtain ⟨rfl, b, hb1, hb2⟩ := HE1.out her
          have hne : (er != 0) = true := by simp only [bne_iff_ne, ne_eq]; exact her
          have HZZ := Lib.hid (show decide (z32 = z32) = true by simp)
          clear her HE1 HE2
          cases b
          · go_wp2_with (first | (refine wl_loadA (.tmp 12) HYa.out (by rfl) (by rfl) (by rfl) ?_; go_simp) | (refine wl_zeroA (by rfl) (by rfl) ?_; go_simp) | (refine wl_eqA (.tmp 66) (.tmp 67) (show z32.length = 32 from rfl) (show z32.length = 32 from rfl) (by rfl) (by rfl) (by rfl) (by rfl) ?_; rw [HZZ.out]; go_simp))
            go_ret
            exact ⟨rfl, HBa.out⟩
          · go_wp2_with (first | (refine wl_loadA (.tmp 12) HYa.out (by rfl) (by rfl) (by rfl) ?_; go_simp) | (refine wl_zeroA (by rfl) (by rfl) ?_; go_simp) | (refine wl_eqA (.tmp 66) (.tmp 67) (show z32.length = 32 from rfl) (show z32.length = 32 from rfl) (by rfl) (by rfl) (by rfl) (by rfl) ?_; rw [HZZ.out]; go_simp))
            go_ret
            exact ⟨rfl, HBa.out⟩
end Go.Proofs.Ytgpjidlomhkpeaa
