/-
  Contract of shallotref18.Decode: what code.Decode answers. Conditions: the sizes that slices can have.
-/
import Derived.Test.YtkmcjjoicpgjfaaDoorRfBody
import Derived.Test.YtkmcjjoicpgjfaaDoorRfCheck
namespace Go.Proofs.YtkmcjjoicpgjfaaDoor
open Go Go.RowKit Go.Sh

theorem sHd_all (r : List UInt8) : ∀ k, 2 * k ≤ r.length → sHd k (some r) = some (r.drop (2 * k))
  | 0, _ => rfl
  | k + 1, h => by
    show nS 2 (sHd k (some r)) = _
    rw [sHd_all r k (by omega), nS_some, if_pos (by rw [List.length_drop]; omega), List.drop_drop, show 2 * k + 2 = 2 * (k + 1) by omega]
theorem sHd_no {r : List UInt8} : ∀ k, r.length < 2 * k → sHd k (some r) = none
  | 0, h => by omega
  | k + 1, h => by
    show nS 2 (sHd k (some r)) = _
    by_cases hk : r.length < 2 * k
    · rw [sHd_no k hk]; rfl
    · rw [sHd_all r k (by omega), nS_some, if_neg (by rw [List.length_drop]; omega)]
theorem sFu_all {r : List UInt8} (h : 18 ≤ r.length) : sFu (some r) = some (r.drop 18) := by
  unfold sFu
  rw [sHd_all r 7 (by omega), nS_some, if_pos (by rw [List.length_drop]; omega), List.drop_drop]
theorem sFu_no {r : List UInt8} (h : r.length < 18) : sFu (some r) = none := by
  unfold sFu
  by_cases h7 : r.length < 14
  · rw [sHd_no 7 (by omega)]; rfl
  · rw [sHd_all r 7 (by omega), nS_some, if_neg (by rw [List.length_drop]; omega)]
theorem rS_no {s : Sx} (h : sFu s = none) : (rS s).2 = none := by
  have h1 : (rI s).2 = none := by unfold rI; rw [h, rep_none]
  have h2 : (rM s).2 = none := by unfold rM; rw [h1, rep_none]
  have h3 : (rR s).2 = none := by unfold rR; rw [h2, rep_none]
  unfold rS
  rw [h3, rep_none]
/-- short bytes -/
theorem dcP_short {l : List UInt8} (h4 : ¬ l.length < 4) (hm : l.take 4 = [115, 104, 108, 49]) (h : l.length < 22) : dcP l = (pZ, 2) := by
  unfold dcP
  rw [if_neg h4, if_pos hm]
  unfold dcB
  rw [rS_no (sFu_no (by rw [List.length_drop]; omega)), if_neg (fun e => by cases e)]
theorem head_at {l : List UInt8} (h : 22 ≤ l.length) {k : Nat} (hk : k ≤ 7) : sHd k (some (l.drop 4)) = some (l.drop (4 + 2 * k)) := by
  rw [sHd_all _ k (by rw [List.length_drop]; omega), List.drop_drop]
/-- what body makes of the bytes behind the heads -/
theorem bdP_rd {l : List UInt8} (h : 22 ≤ l.length) : bdP (cHd 0 (some (l.drop 4))) (cHd 1 (some (l.drop 4))) (cHd 2 (some (l.drop 4))) (cHd 3 (some (l.drop 4))) (some (l.drop 22)) (cHd 4 (some (l.drop 4)) : Int) (cHd 5 (some (l.drop 4)) : Int) (cHd 6 (some (l.drop 4)) : Int) (nV 4 (sHd 7 (some (l.drop 4))) : Int) = (rdP (some (l.drop 4)), (rS (some (l.drop 4))).2) := by
  have e : sFu (some (l.drop 4)) = some (l.drop 22) := by rw [sFu_all (by rw [List.length_drop]; omega), List.drop_drop]
  rw [← e]
  rfl
/-- the seven heads, as far as they have been read -/
def hdL (k : Nat) (s : Sx) : List Value := (List.range 7).map fun i => .int .i64 (if i < k then (cHd i s : Int) else 0)
theorem hdL_set (k : Nat) (hk : k < 7) (s : Sx) : (hdL k s).set k (.int .i64 (cHd k s : Int)) = hdL (k + 1) s := by
  match k, hk with
  | 0, _ => rfl
  | 1, _ => rfl
  | 2, _ => rfl
  | 3, _ => rfl
  | 4, _ => rfl
  | 5, _ => rfl
  | 6, _ => rfl
set_option maxRecDepth 100000 in
set_option maxHeartbeats 16000000 in
theorem RfDecode_any (A : Option Addr) (n c : Nat) (l : List UInt8) (w : World) (B : Nat) (hr : RB w B A n l) (hB : B ≤ w.heap.size) (hn : n ≤ 140737488355328) (hc : n ≤ c) :
    Calls Tryd.prog 16 #[.slice A n c] w (decPost w (dcP l)) := by
  have HL := Lib.hid hr.len
  have hzs : ∀ W : World, (zeroValue 30).run Tryd.prog W = .ok (.agg #[.slice none 0 0, .slice none 0 0, .slice none 0 0, .slice none 0 0, .int .i64 0, .int .i64 0, .int .i64 0, .int .i64 0]) W := fun _ => by kernel_rfl
  have hzh : ∀ W : World, (zeroValue 97).run Tryd.prog W = .ok (.agg #[.int .i64 0, .int .i64 0, .int .i64 0, .int .i64 0, .int .i64 0, .int .i64 0, .int .i64 0]) W := fun _ => by kernel_rfl
  have hb1 := (Below.refl w.heap.size w).alloc (Nat.le_refl _) (.cells #[.slice none 0 0, .slice none 0 0, .slice none 0 0, .slice none 0 0, .int .i64 0, .int .i64 0, .int .i64 0, .int .i64 0] 30)
  have HB1 := Lib.hid hb1
  have HR1 := Lib.hid (hr.below (hb1.mono hB))
  have HG1 := Lib.hid (heap_alloc_new w (.cells #[.slice none 0 0, .slice none 0 0, .slice none 0 0, .slice none 0 0, .int .i64 0, .int .i64 0, .int .i64 0, .int .i64 0] 30))
  have hz1 : (w.alloc (.cells #[.slice none 0 0, .slice none 0 0, .slice none 0 0, .slice none 0 0, .int .i64 0, .int .i64 0, .int .i64 0, .int .i64 0] 30)).heap.size = w.heap.size + 1 := by simp
  clear hb1 hr
  have HP0 := Lib.hid (fun (e : Int) (W : World) (hb : Below w.heap.size w W) (h : dcP l = (pZ, e)) => (⟨dZ, [], by rw [h]; rfl, by rw [h]; exact PO.nil _ _, hb⟩ : decPost w (dcP l) (.returned (.tuple #[.agg #[.slice none 0 0, .slice none 0 0, .slice none 0 0, .slice none 0 0, .int .i64 0, .int .i64 0, .int .i64 0, .int .i64 0], .int .i64 e])) W))
  have hfin : ∀ (W : World) (d : Pad) (p' : Prg) (vm' : List Value) (err : Int), Below (w.heap.size + 1) (w.alloc (.cells #[.slice none 0 0, .slice none 0 0, .slice none 0 0, .slice none 0 0, .int .i64 0, .int .i64 0, .int .i64 0, .int .i64 0] 30)) W → PO W (w.heap.size + 1) d p' vm' → dcP l = (p', err) →
      decPost w (dcP l) (.returned (.tuple #[.agg (pcs d p'), .int .i64 err])) ((((((((W.setCell ⟨w.heap.size, 0, none⟩ (.slice d.A1 d.n1 d.c1)).setCell ⟨w.heap.size, 1, none⟩ (.slice d.A2 d.n2 d.c2)).setCell ⟨w.heap.size, 2, none⟩ (.slice d.A3 d.n3 d.c3)).setCell ⟨w.heap.size, 3, none⟩ (.slice d.A4 d.n4 d.c4)).setCell ⟨w.heap.size, 4, none⟩ (.int .i64 p'.vars)).setCell ⟨w.heap.size, 5, none⟩ (.int .i64 p'.stack)).setCell ⟨w.heap.size, 6, none⟩ (.int .i64 p'.blocks)).setCell ⟨w.heap.size, 7, none⟩ (.int .i64 p'.fuel)) :=
    fun W d p' vm' err hb hpo hDe => ⟨d, vm', by rw [hDe], by rw [hDe]; exact (hpo.far fun b hb => set_far8 _ _ _ _ _ _ _ _ _ _ b (by omega)).base_le (by omega), HB1.out.trans ((hb.mono (by omega)).trans (set_below8 _ _ _ _ _ _ _ _ _ _))⟩
  have HFIN := Lib.hid hfin
  clear hfin
  go_enter Tryd.func16, Tryd.ntmps16
  by_cases h4 : n < 4
  · have d4 : (n : Int) < 4 := by omega
    have HD := Lib.hid (show dcP l = (pZ, 2) by unfold dcP; rw [if_pos (by rw [HL.out]; exact h4)])
    generalize dcP l = D at *
    go_wp2_with fail
    (try simp only [Exit.inBlock, Exit.then])
    refine bodyPost_ret (v := .tuple #[.agg #[.slice none 0 0, .slice none 0 0, .slice none 0 0, .slice none 0 0, .int .i64 0, .int .i64 0, .int .i64 0, .int .i64 0], .int .i64 2]) (results_cell_tmpD rfl _ _ _ ⟨w.heap.size, 0, none⟩ _ _ rfl rfl (prg_load _ _ _ _ _ _ _ _ _ _ HG1.out)) rfl ?_
    exact HP0.out 2 _ HB1.out HD.out
  · have d4 : ¬ (n : Int) < 4 := by omega
    have HRT := Lib.hid (HR1.out.take (k := 4) (by omega))
    have hsl : ∀ W, (Instr.slice 39 (.slice A n c) none (some (.int .i64 4)) none).run Tryd.prog W = .ok (.slice A 4 c) W := fun W => run_sl_hi TB W A n c .i64 4 (by omega)
    by_cases hm : l.take 4 = [115, 104, 108, 49]
    case neg =>
      have HD := Lib.hid (show dcP l = (pZ, 3) by unfold dcP; rw [if_neg (by rw [HL.out]; exact h4), if_neg hm])
      have hmb : (l.take 4 == [115, 104, 108, 49]) = false := beq_eq_false_iff_ne.2 hm
      generalize dcP l = D at *
      generalize l.take 4 = l4 at *
      clear hm
      go_wp2_with (refine wl_str Tryd.underlying39 Tryd.underlying5 Tryd.underlying9 rfl (.tmp 18) rfl A 4 c rfl B l4 HRT.out ?_)
      (try simp only [Exit.inBlock, Exit.then])
      refine bodyPost_ret (v := .tuple #[.agg #[.slice none 0 0, .slice none 0 0, .slice none 0 0, .slice none 0 0, .int .i64 0, .int .i64 0, .int .i64 0, .int .i64 0], .int .i64 3]) (results_cell_tmpD rfl _ _ _ ⟨w.heap.size, 0, none⟩ _ _ rfl rfl (prg_load _ _ _ _ _ _ _ _ _ _ HG1.out)) rfl ?_
      exact HP0.out 3 _ HB1.out HD.out
    case pos =>
      have hmb : (l.take 4 == [115, 104, 108, 49]) = true := beq_iff_eq.2 hm
      by_cases h22 : n < 22
      · have HD := Lib.hid (dcP_short (by rw [HL.out]; exact h4) hm (by rw [HL.out]; exact h22))
        have d22 : (n : Int) < 22 := by omega
        generalize dcP l = D at *
        generalize l.take 4 = l4 at *
        clear hm
        go_wp2_with (refine wl_str Tryd.underlying39 Tryd.underlying5 Tryd.underlying9 rfl (.tmp 18) rfl A 4 c rfl B l4 HRT.out ?_)
        (try simp only [Exit.inBlock, Exit.then])
        refine bodyPost_ret (v := .tuple #[.agg #[.slice none 0 0, .slice none 0 0, .slice none 0 0, .slice none 0 0, .int .i64 0, .int .i64 0, .int .i64 0, .int .i64 0], .int .i64 2]) (results_cell_tmpD rfl _ _ _ ⟨w.heap.size, 0, none⟩ _ _ rfl rfl (prg_load _ _ _ _ _ _ _ _ _ _ HG1.out)) rfl ?_
        exact HP0.out 2 _ HB1.out HD.out
      · have d22 : ¬ (n : Int) < 22 := by omega
        have h22l : 22 ≤ l.length := by rw [HL.out]; omega
        have HD := Lib.hid (show dcP l = dcB (some (l.drop 4)) by unfold dcP; rw [if_neg (by rw [HL.out]; exact h4), if_pos hm])
        have HBD := Lib.hid (bdP_rd h22l)
        have HHD := Lib.hid (fun (k : Nat) (hk : k < 7) => (show nV 2 (some (l.drop (4 + 2 * k))) = cHd k (some (l.drop 4)) by unfold cHd; rw [head_at h22l (by omega)]))
        have HFU := Lib.hid (show nV 4 (some (l.drop 18)) = nV 4 (sHd 7 (some (l.drop 4))) by rw [head_at h22l (by omega)])
        have HGT := Lib.hid (fun (k : Nat) (hk : k < 7) (W : World) (h : RB W B A n l) => rget_ok A n c l (4 + 2 * k) 2 2 rfl (by decide) (by decide) W B h hn (by omega) (by rw [List.length_drop]; omega))
        have HGF := Lib.hid (fun (W : World) (h : RB W B A n l) => rget_ok A n c l 18 4 4 rfl (by decide) (by decide) W B h hn (by omega) (by rw [List.length_drop]; omega))
        generalize dcP l = D at *
        generalize l.take 4 = l4 at *
        clear hm
        go_wp2_with (refine wl_str Tryd.underlying39 Tryd.underlying5 Tryd.underlying9 rfl (.tmp 18) rfl A 4 c rfl B l4 HRT.out ?_)
        obtain ⟨s0, hs0⟩ : ∃ s0 : Sx, some (l.drop 4) = s0 := ⟨_, rfl⟩
        rw [hs0] at HD HBD HHD HFU
        have HGT' := Lib.hid (fun (k : Nat) (hk : k < 7) (W : World) (h : RB W B A n l) => (by have h1 := HGT.out k hk W h; rw [HHD.out k hk, show ((4 + 2 * k : Nat) : Int) = 4 + 2 * (k : Int) by omega] at h1; exact h1 : Calls Tryd.prog 48 #[.slice A n c, .int .i64 (4 + 2 * (k : Int)), .int .i64 2] W (fun e w' => e = .returned (.tuple #[.int .i64 (cHd k s0 : Int), .int .i64 ((4 + 2 * k + 2 : Nat) : Int), .bool true]) ∧ W = w')))
        rw [HFU.out] at HGF
        have hba := (Below.refl (w.heap.size + 1) (w.alloc (.cells #[.slice none 0 0, .slice none 0 0, .slice none 0 0, .slice none 0 0, .int .i64 0, .int .i64 0, .int .i64 0, .int .i64 0] 30))).alloc (by rw [hz1]; exact Nat.le_refl _) (.cells #[.int .i64 0, .int .i64 0, .int .i64 0, .int .i64 0, .int .i64 0, .int .i64 0, .int .i64 0] 97)
        have hgh := heap_alloc_new (w.alloc (.cells #[.slice none 0 0, .slice none 0 0, .slice none 0 0, .slice none 0 0, .int .i64 0, .int .i64 0, .int .i64 0, .int .i64 0] 30)) (.cells #[.int .i64 0, .int .i64 0, .int .i64 0, .int .i64 0, .int .i64 0, .int .i64 0, .int .i64 0] 97)
        have hz2 : ((w.alloc (.cells #[.slice none 0 0, .slice none 0 0, .slice none 0 0, .slice none 0 0, .int .i64 0, .int .i64 0, .int .i64 0, .int .i64 0] 30)).alloc (.cells #[.int .i64 0, .int .i64 0, .int .i64 0, .int .i64 0, .int .i64 0, .int .i64 0, .int .i64 0] 97)).heap.size = w.heap.size + 2 := by simp
        rw [hz1] at hgh
        have HBA := Lib.hid hba
        have HGH := Lib.hid (show _ = some (Obj.cells (hdL 0 s0).toArray 97 (0, 0)) from hgh)
        clear HGT hs0 hba hgh HHD
        go_wp2_with fail
        generalize w.alloc (.cells #[.slice none 0 0, .slice none 0 0, .slice none 0 0, .slice none 0 0, .int .i64 0, .int .i64 0, .int .i64 0, .int .i64 0] 30) = w1 at *
        generalize w1.alloc (.cells #[.int .i64 0, .int .i64 0, .int .i64 0, .int .i64 0, .int .i64 0, .int .i64 0, .int .i64 0] 97) = w2 at *
        obtain ⟨g, hg⟩ : ∃ g, w.heap.size = g := ⟨_, rfl⟩
        rw [hg] at hB hz1 HB1 HG1 HP0 HFIN HBA HGH hz2 ⊢
        go_loopw [5] (fun i wr => ∃ k : Nat, k ≤ 7 ∧ i = .int .i64 (k : Int) ∧ wr.heap[g + 1]? = some (.cells (hdL k s0).toArray 97 (0, 0)) ∧ Below (g + 1) w1 wr ∧ wr.heap.size = g + 2) (fun i _ => 7 - (intOf i).toNat)
        case atStart => exact ⟨0, by omega, rfl, HGH.out, HBA.out, hz2⟩
        case round =>
          obtain ⟨k, hk, rfl, hgh, hb, hsz⟩ := hrel
          have HGk := Lib.hid hgh
          have HBk := Lib.hid hb
          clear hgh hb HGH HBA hz2
          by_cases hlt : k < 7
          · have dk : (k : Int) < 7 := by omega
            have HC := Lib.hid (HGT'.out k hlt wr (HR1.out.below (HBk.out.mono (by omega))))
            have HST := Lib.hid (hdL_set k hlt s0)
            have hlen : (hdL k s0).length = 7 := rfl
            have c5 : ∃ u, wr.cell? ⟨g + 1, k, none⟩ = some u := by
              rw [blk_cell HGk.out]
              exact ⟨_, by rw [List.getElem?_toArray]; exact List.getElem?_eq_getElem (by omega)⟩
            obtain ⟨u5, c5⟩ := c5
            have f5 : wr.frozen? ⟨g + 1, k, none⟩ = false := frozen_of_row _ _ _ _ _ HGk.out
            go_wp2_with fail
            refine HC.out.mono ?_
            rintro e w3 ⟨rfl, rfl⟩
            have HS := Lib.hid (set_blk (k := k) (v := .int .i64 (cHd k s0 : Int)) HGk.out)
            go_wp2_with fail
            refine ⟨⟨k + 1, by omega, by go_num, by rw [← HST.out]; exact HS.out, HBk.out.setCell (p := ⟨g + 1, k, none⟩) (Nat.le_refl _) _, by rw [World.size_setCell]; exact hsz⟩, by simp [intOf]; omega⟩
          · obtain rfl : k = 7 := by omega
            have h0 : wr.cell? ⟨g + 1, 0, none⟩ = some (.int .i64 (cHd 0 s0 : Int)) := by rw [blk_cell HGk.out]; rfl
            have h1 : wr.cell? ⟨g + 1, 1, none⟩ = some (.int .i64 (cHd 1 s0 : Int)) := by rw [blk_cell HGk.out]; rfl
            have h2 : wr.cell? ⟨g + 1, 2, none⟩ = some (.int .i64 (cHd 2 s0 : Int)) := by rw [blk_cell HGk.out]; rfl
            have h3 : wr.cell? ⟨g + 1, 3, none⟩ = some (.int .i64 (cHd 3 s0 : Int)) := by rw [blk_cell HGk.out]; rfl
            have h4 : wr.cell? ⟨g + 1, 4, none⟩ = some (.int .i64 (cHd 4 s0 : Int)) := by rw [blk_cell HGk.out]; rfl
            have h5 : wr.cell? ⟨g + 1, 5, none⟩ = some (.int .i64 (cHd 5 s0 : Int)) := by rw [blk_cell HGk.out]; rfl
            have h6 : wr.cell? ⟨g + 1, 6, none⟩ = some (.int .i64 (cHd 6 s0 : Int)) := by rw [blk_cell HGk.out]; rfl
            have HC := Lib.hid (by have h := HGF.out wr (HR1.out.below (HBk.out.mono (by omega))); exact h : Calls Tryd.prog 48 #[.slice A n c, .int .i64 18, .int .i64 4] wr (fun e w' => e = .returned (.tuple #[.int .i64 (nV 4 (sHd 7 s0) : Int), .int .i64 ((18 + 4 : Nat) : Int), .bool true]) ∧ wr = w'))
            have HBO := Lib.hid (by
              have h := rbody_any A n c l 22 (cHd 0 s0) (cHd 1 s0) (cHd 2 s0) (cHd 3 s0) (cHd 4 s0 : Int) (cHd 5 s0 : Int) (cHd 6 s0 : Int) (cHd 4 s0 : Int) (cHd 5 s0 : Int) (cHd 6 s0 : Int) (nV 4 (sHd 7 s0) : Int) wr B (HR1.out.below (HBk.out.mono (by omega))) (by omega) hn hc h22l (by have := nV_lt 2 (sHd 0 s0); unfold cHd; omega) (by have := nV_lt 2 (sHd 1 s0); unfold cHd; omega) (by have := nV_lt 2 (sHd 2 s0); unfold cHd; omega) (by have := nV_lt 2 (sHd 3 s0); unfold cHd; omega)
              rw [HBD.out] at h
              exact h : Calls Tryd.prog 49 #[.slice A n c, .int .i64 22, .agg #[.int .i64 (cHd 0 s0 : Int), .int .i64 (cHd 1 s0 : Int), .int .i64 (cHd 2 s0 : Int), .int .i64 (cHd 3 s0 : Int), .int .i64 (cHd 4 s0 : Int), .int .i64 (cHd 5 s0 : Int), .int .i64 (cHd 6 s0 : Int)], .agg #[.slice none 0 0, .slice none 0 0, .slice none 0 0, .slice none 0 0, .int .i64 (cHd 4 s0 : Int), .int .i64 (cHd 5 s0 : Int), .int .i64 (cHd 6 s0 : Int), .int .i64 (nV 4 (sHd 7 s0) : Int)]] wr (rbPost wr l (rdP s0, (rS s0).2)))
            clear HGF HGT' HFU HBD
            obtain ⟨fu, hfu⟩ : ∃ fu : Nat, nV 4 (sHd 7 s0) = fu := ⟨_, rfl⟩
            rw [hfu] at HC HBO
            clear hfu
            go_wp2_with fail
            refine HC.out.mono ?_
            rintro e w3 ⟨rfl, rfl⟩
            go_wp2_with fail
            refine HBO.out.mono ?_
            rintro e w5 ⟨d, vm, pl, ok, rfl, hat, hpo, hb5⟩
            obtain ⟨A1, n1, c1, A2, n2, c2, A3, n3, c3, A4, n4, c4⟩ := d
            obtain ⟨p, hp⟩ : ∃ p, rdP s0 = p := ⟨_, rfl⟩
            obtain ⟨se, hse⟩ : ∃ se, (rS s0).2 = se := ⟨_, rfl⟩
            have HDB := Lib.hid (show D = (if se = some [] then (if ckP p = 0 then (p, 0) else (pZ, ckP p)) else (pZ, 2)) by rw [HD.out]; unfold dcB; rw [hse, hp])
            simp only [hp, hse] at hat hpo ⊢
            have hag : pcs ⟨A1, n1, c1, A2, n2, c2, A3, n3, c3, A4, n4, c4⟩ p = #[.slice A1 n1 c1, .slice A2 n2 c2, .slice A3 n3 c3, .slice A4 n4 c4, .int .i64 p.vars, .int .i64 p.stack, .int .i64 p.blocks, .int .i64 p.fuel] := rfl
            rw [hag]
            have HAG := Lib.hid hag
            have HAT := Lib.hid hat
            have HB5 := Lib.hid (HBk.out.trans (hb5.mono (by omega)))
            have hz5 := hb5.size
            have hba := (Below.refl w5.heap.size w5).alloc (Nat.le_refl _) (.cells #[.slice A1 n1 c1, .slice A2 n2 c2, .slice A3 n3 c3, .slice A4 n4 c4, .int .i64 p.vars, .int .i64 p.stack, .int .i64 p.blocks, .int .i64 p.fuel] 30)
            have HPB := Lib.hid (heap_alloc_new w5 (.cells #[.slice A1 n1 c1, .slice A2 n2 c2, .slice A3 n3 c3, .slice A4 n4 c4, .int .i64 p.vars, .int .i64 p.stack, .int .i64 p.blocks, .int .i64 p.fuel] 30))
            have HPO := Lib.hid ((hpo.base_le (show g + 1 ≤ wr.heap.size by omega)).later hba)
            have HB6 := Lib.hid (HB5.out.trans (hba.mono (by omega)))
            have hlt6 : w5.heap.size < (w5.alloc (.cells #[.slice A1 n1 c1, .slice A2 n2 c2, .slice A3 n3 c3, .slice A4 n4 c4, .int .i64 p.vars, .int .i64 p.stack, .int .i64 p.blocks, .int .i64 p.fuel] 30)).heap.size := by simp
            have hgz : ∀ W : World, Below (g + 1) w1 W → W.heap[g]? = some (.cells #[.slice none 0 0, .slice none 0 0, .slice none 0 0, .slice none 0 0, .int .i64 0, .int .i64 0, .int .i64 0, .int .i64 0] 30 (0, 0)) := fun W hb => (hb.block g (Nat.lt_succ_self _)).trans HG1.out
            have HGZ := Lib.hid hgz
            clear hag hat hpo hb5 hba hp hse HBO HC HGk HBk HD h0 h1 h2 h3 h4 h5 h6 HB5 hgz
            rcases HAT.out with ⟨hse, hpl, hok⟩ | ⟨k, hk, hse, hpl, hok⟩
            · subst hpl hok
              have HDE := Lib.hid (show D = (pZ, 2) by rw [HDB.out, hse, if_neg (fun e => by cases e)])
              have hG := HGZ.out _ HB6.out
              have z0 : (w5.alloc (.cells #[.slice A1 n1 c1, .slice A2 n2 c2, .slice A3 n3 c3, .slice A4 n4 c4, .int .i64 p.vars, .int .i64 p.stack, .int .i64 p.blocks, .int .i64 p.fuel] 30)).cell? ⟨g, 0, none⟩ = some (.slice none 0 0) := by rw [blk_cell hG]; rfl
              have z1 : (w5.alloc (.cells #[.slice A1 n1 c1, .slice A2 n2 c2, .slice A3 n3 c3, .slice A4 n4 c4, .int .i64 p.vars, .int .i64 p.stack, .int .i64 p.blocks, .int .i64 p.fuel] 30)).cell? ⟨g, 1, none⟩ = some (.slice none 0 0) := by rw [blk_cell hG]; rfl
              have z2 : (w5.alloc (.cells #[.slice A1 n1 c1, .slice A2 n2 c2, .slice A3 n3 c3, .slice A4 n4 c4, .int .i64 p.vars, .int .i64 p.stack, .int .i64 p.blocks, .int .i64 p.fuel] 30)).cell? ⟨g, 2, none⟩ = some (.slice none 0 0) := by rw [blk_cell hG]; rfl
              have z3 : (w5.alloc (.cells #[.slice A1 n1 c1, .slice A2 n2 c2, .slice A3 n3 c3, .slice A4 n4 c4, .int .i64 p.vars, .int .i64 p.stack, .int .i64 p.blocks, .int .i64 p.fuel] 30)).cell? ⟨g, 3, none⟩ = some (.slice none 0 0) := by rw [blk_cell hG]; rfl
              have z4 : (w5.alloc (.cells #[.slice A1 n1 c1, .slice A2 n2 c2, .slice A3 n3 c3, .slice A4 n4 c4, .int .i64 p.vars, .int .i64 p.stack, .int .i64 p.blocks, .int .i64 p.fuel] 30)).cell? ⟨g, 4, none⟩ = some (.int .i64 0) := by rw [blk_cell hG]; rfl
              have z5 : (w5.alloc (.cells #[.slice A1 n1 c1, .slice A2 n2 c2, .slice A3 n3 c3, .slice A4 n4 c4, .int .i64 p.vars, .int .i64 p.stack, .int .i64 p.blocks, .int .i64 p.fuel] 30)).cell? ⟨g, 5, none⟩ = some (.int .i64 0) := by rw [blk_cell hG]; rfl
              have z6 : (w5.alloc (.cells #[.slice A1 n1 c1, .slice A2 n2 c2, .slice A3 n3 c3, .slice A4 n4 c4, .int .i64 p.vars, .int .i64 p.stack, .int .i64 p.blocks, .int .i64 p.fuel] 30)).cell? ⟨g, 6, none⟩ = some (.int .i64 0) := by rw [blk_cell hG]; rfl
              have z7 : (w5.alloc (.cells #[.slice A1 n1 c1, .slice A2 n2 c2, .slice A3 n3 c3, .slice A4 n4 c4, .int .i64 p.vars, .int .i64 p.stack, .int .i64 p.blocks, .int .i64 p.fuel] 30)).cell? ⟨g, 7, none⟩ = some (.int .i64 0) := by rw [blk_cell hG]; rfl
              have y0 : (w5.alloc (.cells #[.slice A1 n1 c1, .slice A2 n2 c2, .slice A3 n3 c3, .slice A4 n4 c4, .int .i64 p.vars, .int .i64 p.stack, .int .i64 p.blocks, .int .i64 p.fuel] 30)).frozen? ⟨g, 0, none⟩ = false := frozen_of_row _ _ _ _ _ hG
              have y1 : (w5.alloc (.cells #[.slice A1 n1 c1, .slice A2 n2 c2, .slice A3 n3 c3, .slice A4 n4 c4, .int .i64 p.vars, .int .i64 p.stack, .int .i64 p.blocks, .int .i64 p.fuel] 30)).frozen? ⟨g, 1, none⟩ = false := frozen_of_row _ _ _ _ _ hG
              have y2 : (w5.alloc (.cells #[.slice A1 n1 c1, .slice A2 n2 c2, .slice A3 n3 c3, .slice A4 n4 c4, .int .i64 p.vars, .int .i64 p.stack, .int .i64 p.blocks, .int .i64 p.fuel] 30)).frozen? ⟨g, 2, none⟩ = false := frozen_of_row _ _ _ _ _ hG
              have y3 : (w5.alloc (.cells #[.slice A1 n1 c1, .slice A2 n2 c2, .slice A3 n3 c3, .slice A4 n4 c4, .int .i64 p.vars, .int .i64 p.stack, .int .i64 p.blocks, .int .i64 p.fuel] 30)).frozen? ⟨g, 3, none⟩ = false := frozen_of_row _ _ _ _ _ hG
              have y4 : (w5.alloc (.cells #[.slice A1 n1 c1, .slice A2 n2 c2, .slice A3 n3 c3, .slice A4 n4 c4, .int .i64 p.vars, .int .i64 p.stack, .int .i64 p.blocks, .int .i64 p.fuel] 30)).frozen? ⟨g, 4, none⟩ = false := frozen_of_row _ _ _ _ _ hG
              have y5 : (w5.alloc (.cells #[.slice A1 n1 c1, .slice A2 n2 c2, .slice A3 n3 c3, .slice A4 n4 c4, .int .i64 p.vars, .int .i64 p.stack, .int .i64 p.blocks, .int .i64 p.fuel] 30)).frozen? ⟨g, 5, none⟩ = false := frozen_of_row _ _ _ _ _ hG
              have y6 : (w5.alloc (.cells #[.slice A1 n1 c1, .slice A2 n2 c2, .slice A3 n3 c3, .slice A4 n4 c4, .int .i64 p.vars, .int .i64 p.stack, .int .i64 p.blocks, .int .i64 p.fuel] 30)).frozen? ⟨g, 6, none⟩ = false := frozen_of_row _ _ _ _ _ hG
              have y7 : (w5.alloc (.cells #[.slice A1 n1 c1, .slice A2 n2 c2, .slice A3 n3 c3, .slice A4 n4 c4, .int .i64 p.vars, .int .i64 p.stack, .int .i64 p.blocks, .int .i64 p.fuel] 30)).frozen? ⟨g, 7, none⟩ = false := frozen_of_row _ _ _ _ _ hG
              clear hG hse
              go_wp2_with fail
              (try simp only [Exit.inBlock, Exit.then])
              refine bodyPost_ret (v := .tuple #[.agg #[.slice none 0 0, .slice none 0 0, .slice none 0 0, .slice none 0 0, .int .i64 0, .int .i64 0, .int .i64 0, .int .i64 0], .int .i64 2]) (results_cell_tmpD rfl _ _ _ ⟨g, 0, none⟩ _ _ rfl rfl (prg_load _ _ _ _ _ _ _ _ _ _ (prg_set _ _ _ _ _ _ _ _ _ _ _ _ _ _ _ _ _ _ _ (HGZ.out _ (HB6.out))))) rfl ?_
              exact HFIN.out _ dZ pZ [] 2 (HB6.out) (PO.nil _ _) HDE.out
            · subst hpl hok
              have hln := HL.out
              by_cases hkn : k = n
              · have HSE := Lib.hid (show se = some [] by rw [hse, List.drop_eq_nil_of_le (by omega)])
                have dkn : ((k : Int) != (n : Int)) = false := by rw [hkn]; simp
                have hG := HGZ.out _ HB6.out
                have q0 : (w5.alloc (.cells #[.slice A1 n1 c1, .slice A2 n2 c2, .slice A3 n3 c3, .slice A4 n4 c4, .int .i64 p.vars, .int .i64 p.stack, .int .i64 p.blocks, .int .i64 p.fuel] 30)).cell? ⟨w5.heap.size, 0, none⟩ = some (.slice A1 n1 c1) := by rw [blk_cell HPB.out]; rfl
                have q1 : (w5.alloc (.cells #[.slice A1 n1 c1, .slice A2 n2 c2, .slice A3 n3 c3, .slice A4 n4 c4, .int .i64 p.vars, .int .i64 p.stack, .int .i64 p.blocks, .int .i64 p.fuel] 30)).cell? ⟨w5.heap.size, 1, none⟩ = some (.slice A2 n2 c2) := by rw [blk_cell HPB.out]; rfl
                have q2 : (w5.alloc (.cells #[.slice A1 n1 c1, .slice A2 n2 c2, .slice A3 n3 c3, .slice A4 n4 c4, .int .i64 p.vars, .int .i64 p.stack, .int .i64 p.blocks, .int .i64 p.fuel] 30)).cell? ⟨w5.heap.size, 2, none⟩ = some (.slice A3 n3 c3) := by rw [blk_cell HPB.out]; rfl
                have q3 : (w5.alloc (.cells #[.slice A1 n1 c1, .slice A2 n2 c2, .slice A3 n3 c3, .slice A4 n4 c4, .int .i64 p.vars, .int .i64 p.stack, .int .i64 p.blocks, .int .i64 p.fuel] 30)).cell? ⟨w5.heap.size, 3, none⟩ = some (.slice A4 n4 c4) := by rw [blk_cell HPB.out]; rfl
                have q4 : (w5.alloc (.cells #[.slice A1 n1 c1, .slice A2 n2 c2, .slice A3 n3 c3, .slice A4 n4 c4, .int .i64 p.vars, .int .i64 p.stack, .int .i64 p.blocks, .int .i64 p.fuel] 30)).cell? ⟨w5.heap.size, 4, none⟩ = some (.int .i64 p.vars) := by rw [blk_cell HPB.out]; rfl
                have q5 : (w5.alloc (.cells #[.slice A1 n1 c1, .slice A2 n2 c2, .slice A3 n3 c3, .slice A4 n4 c4, .int .i64 p.vars, .int .i64 p.stack, .int .i64 p.blocks, .int .i64 p.fuel] 30)).cell? ⟨w5.heap.size, 5, none⟩ = some (.int .i64 p.stack) := by rw [blk_cell HPB.out]; rfl
                have q6 : (w5.alloc (.cells #[.slice A1 n1 c1, .slice A2 n2 c2, .slice A3 n3 c3, .slice A4 n4 c4, .int .i64 p.vars, .int .i64 p.stack, .int .i64 p.blocks, .int .i64 p.fuel] 30)).cell? ⟨w5.heap.size, 6, none⟩ = some (.int .i64 p.blocks) := by rw [blk_cell HPB.out]; rfl
                have q7 : (w5.alloc (.cells #[.slice A1 n1 c1, .slice A2 n2 c2, .slice A3 n3 c3, .slice A4 n4 c4, .int .i64 p.vars, .int .i64 p.stack, .int .i64 p.blocks, .int .i64 p.fuel] 30)).cell? ⟨w5.heap.size, 7, none⟩ = some (.int .i64 p.fuel) := by rw [blk_cell HPB.out]; rfl
                have hck := RefCheck_any ⟨A1, n1, c1, A2, n2, c2, A3, n3, c3, A4, n4, c4⟩ p _ _ HPO.out.pr (Nat.le_refl _)
                rw [HAG.out] at hck
                have HCK := Lib.hid hck
                obtain ⟨ck, hckd⟩ : ∃ ck, ckP p = ck := ⟨_, rfl⟩
                rw [hckd] at HCK HDB
                clear hck hse hckd hG hln hk
                obtain ⟨ki, hki⟩ : ∃ ki : Int, (k : Int) = ki := ⟨_, rfl⟩
                rw [hki] at dkn ⊢
                clear hki hkn
                go_wp2_with fail
                refine HCK.out.mono ?_
                rintro e wK ⟨rfl, hbK⟩
                have HBK := Lib.hid (HB6.out.trans (hbK.mono (by omega)))
                have HP3 := Lib.hid (HPO.out.later hbK)
                have hPB := (hbK.block _ hlt6).trans HPB.out
                have hG := HGZ.out _ HBK.out
                clear q0 q1 q2 q3 q4 q5 q6 q7 hbK HCK HPO HPB HB6
                have z0 : (wK).cell? ⟨g, 0, none⟩ = some (.slice none 0 0) := by rw [blk_cell hG]; rfl
                have z1 : (wK).cell? ⟨g, 1, none⟩ = some (.slice none 0 0) := by rw [blk_cell hG]; rfl
                have z2 : (wK).cell? ⟨g, 2, none⟩ = some (.slice none 0 0) := by rw [blk_cell hG]; rfl
                have z3 : (wK).cell? ⟨g, 3, none⟩ = some (.slice none 0 0) := by rw [blk_cell hG]; rfl
                have z4 : (wK).cell? ⟨g, 4, none⟩ = some (.int .i64 0) := by rw [blk_cell hG]; rfl
                have z5 : (wK).cell? ⟨g, 5, none⟩ = some (.int .i64 0) := by rw [blk_cell hG]; rfl
                have z6 : (wK).cell? ⟨g, 6, none⟩ = some (.int .i64 0) := by rw [blk_cell hG]; rfl
                have z7 : (wK).cell? ⟨g, 7, none⟩ = some (.int .i64 0) := by rw [blk_cell hG]; rfl
                have y0 : (wK).frozen? ⟨g, 0, none⟩ = false := frozen_of_row _ _ _ _ _ hG
                have y1 : (wK).frozen? ⟨g, 1, none⟩ = false := frozen_of_row _ _ _ _ _ hG
                have y2 : (wK).frozen? ⟨g, 2, none⟩ = false := frozen_of_row _ _ _ _ _ hG
                have y3 : (wK).frozen? ⟨g, 3, none⟩ = false := frozen_of_row _ _ _ _ _ hG
                have y4 : (wK).frozen? ⟨g, 4, none⟩ = false := frozen_of_row _ _ _ _ _ hG
                have y5 : (wK).frozen? ⟨g, 5, none⟩ = false := frozen_of_row _ _ _ _ _ hG
                have y6 : (wK).frozen? ⟨g, 6, none⟩ = false := frozen_of_row _ _ _ _ _ hG
                have y7 : (wK).frozen? ⟨g, 7, none⟩ = false := frozen_of_row _ _ _ _ _ hG
                by_cases hc0 : ck = 0
                · subst hc0
                  have HDE := Lib.hid (show D = (p, 0) by rw [HDB.out, HSE.out, if_pos rfl, if_pos rfl])
                  have q0 : (wK).cell? ⟨w5.heap.size, 0, none⟩ = some (.slice A1 n1 c1) := by rw [blk_cell hPB]; rfl
                  have q1 : (wK).cell? ⟨w5.heap.size, 1, none⟩ = some (.slice A2 n2 c2) := by rw [blk_cell hPB]; rfl
                  have q2 : (wK).cell? ⟨w5.heap.size, 2, none⟩ = some (.slice A3 n3 c3) := by rw [blk_cell hPB]; rfl
                  have q3 : (wK).cell? ⟨w5.heap.size, 3, none⟩ = some (.slice A4 n4 c4) := by rw [blk_cell hPB]; rfl
                  have q4 : (wK).cell? ⟨w5.heap.size, 4, none⟩ = some (.int .i64 p.vars) := by rw [blk_cell hPB]; rfl
                  have q5 : (wK).cell? ⟨w5.heap.size, 5, none⟩ = some (.int .i64 p.stack) := by rw [blk_cell hPB]; rfl
                  have q6 : (wK).cell? ⟨w5.heap.size, 6, none⟩ = some (.int .i64 p.blocks) := by rw [blk_cell hPB]; rfl
                  have q7 : (wK).cell? ⟨w5.heap.size, 7, none⟩ = some (.int .i64 p.fuel) := by rw [blk_cell hPB]; rfl
                  clear hG hPB
                  go_wp2_with fail
                  (try simp only [Exit.inBlock, Exit.then])
                  refine bodyPost_ret (v := .tuple #[.agg #[.slice A1 n1 c1, .slice A2 n2 c2, .slice A3 n3 c3, .slice A4 n4 c4, .int .i64 p.vars, .int .i64 p.stack, .int .i64 p.blocks, .int .i64 p.fuel], .int .i64 0]) (results_cell_tmpD rfl _ _ _ ⟨g, 0, none⟩ _ _ rfl rfl (prg_load _ _ _ _ _ _ _ _ _ _ (prg_set _ _ _ _ _ _ _ _ _ _ _ _ _ _ _ _ _ _ _ (HGZ.out _ HBK.out)))) rfl ?_
                  have hf := HFIN.out wK ⟨A1, n1, c1, A2, n2, c2, A3, n3, c3, A4, n4, c4⟩ p vm 0 HBK.out HP3.out HDE.out
                  rw [HAG.out] at hf
                  exact hf
                · have hcb : (ck != 0) = true := by rw [bne_iff_ne]; exact hc0
                  have HDE := Lib.hid (show D = (pZ, ck) by rw [HDB.out, HSE.out, if_pos rfl, if_neg hc0])
                  clear hG hPB hc0
                  go_wp2_with fail
                  (try simp only [Exit.inBlock, Exit.then])
                  refine bodyPost_ret (v := .tuple #[.agg #[.slice none 0 0, .slice none 0 0, .slice none 0 0, .slice none 0 0, .int .i64 0, .int .i64 0, .int .i64 0, .int .i64 0], .int .i64 ck]) (results_cell_tmpD rfl _ _ _ ⟨g, 0, none⟩ _ _ rfl rfl (prg_load _ _ _ _ _ _ _ _ _ _ (prg_set _ _ _ _ _ _ _ _ _ _ _ _ _ _ _ _ _ _ _ (HGZ.out _ (HBK.out))))) rfl ?_
                  exact HFIN.out _ dZ pZ [] ck (HBK.out) (PO.nil _ _) HDE.out
              · have dkn : ((k : Int) != (n : Int)) = true := by rw [bne_iff_ne]; omega
                have HDE := Lib.hid (show D = (pZ, 2) by rw [HDB.out, hse, if_neg (fun e => by injection e with e; have := congrArg List.length e; rw [List.length_drop] at this; simp at this; omega)])
                have hG := HGZ.out _ HB6.out
                have z0 : (w5.alloc (.cells #[.slice A1 n1 c1, .slice A2 n2 c2, .slice A3 n3 c3, .slice A4 n4 c4, .int .i64 p.vars, .int .i64 p.stack, .int .i64 p.blocks, .int .i64 p.fuel] 30)).cell? ⟨g, 0, none⟩ = some (.slice none 0 0) := by rw [blk_cell hG]; rfl
                have z1 : (w5.alloc (.cells #[.slice A1 n1 c1, .slice A2 n2 c2, .slice A3 n3 c3, .slice A4 n4 c4, .int .i64 p.vars, .int .i64 p.stack, .int .i64 p.blocks, .int .i64 p.fuel] 30)).cell? ⟨g, 1, none⟩ = some (.slice none 0 0) := by rw [blk_cell hG]; rfl
                have z2 : (w5.alloc (.cells #[.slice A1 n1 c1, .slice A2 n2 c2, .slice A3 n3 c3, .slice A4 n4 c4, .int .i64 p.vars, .int .i64 p.stack, .int .i64 p.blocks, .int .i64 p.fuel] 30)).cell? ⟨g, 2, none⟩ = some (.slice none 0 0) := by rw [blk_cell hG]; rfl
                have z3 : (w5.alloc (.cells #[.slice A1 n1 c1, .slice A2 n2 c2, .slice A3 n3 c3, .slice A4 n4 c4, .int .i64 p.vars, .int .i64 p.stack, .int .i64 p.blocks, .int .i64 p.fuel] 30)).cell? ⟨g, 3, none⟩ = some (.slice none 0 0) := by rw [blk_cell hG]; rfl
                have z4 : (w5.alloc (.cells #[.slice A1 n1 c1, .slice A2 n2 c2, .slice A3 n3 c3, .slice A4 n4 c4, .int .i64 p.vars, .int .i64 p.stack, .int .i64 p.blocks, .int .i64 p.fuel] 30)).cell? ⟨g, 4, none⟩ = some (.int .i64 0) := by rw [blk_cell hG]; rfl
                have z5 : (w5.alloc (.cells #[.slice A1 n1 c1, .slice A2 n2 c2, .slice A3 n3 c3, .slice A4 n4 c4, .int .i64 p.vars, .int .i64 p.stack, .int .i64 p.blocks, .int .i64 p.fuel] 30)).cell? ⟨g, 5, none⟩ = some (.int .i64 0) := by rw [blk_cell hG]; rfl
                have z6 : (w5.alloc (.cells #[.slice A1 n1 c1, .slice A2 n2 c2, .slice A3 n3 c3, .slice A4 n4 c4, .int .i64 p.vars, .int .i64 p.stack, .int .i64 p.blocks, .int .i64 p.fuel] 30)).cell? ⟨g, 6, none⟩ = some (.int .i64 0) := by rw [blk_cell hG]; rfl
                have z7 : (w5.alloc (.cells #[.slice A1 n1 c1, .slice A2 n2 c2, .slice A3 n3 c3, .slice A4 n4 c4, .int .i64 p.vars, .int .i64 p.stack, .int .i64 p.blocks, .int .i64 p.fuel] 30)).cell? ⟨g, 7, none⟩ = some (.int .i64 0) := by rw [blk_cell hG]; rfl
                have y0 : (w5.alloc (.cells #[.slice A1 n1 c1, .slice A2 n2 c2, .slice A3 n3 c3, .slice A4 n4 c4, .int .i64 p.vars, .int .i64 p.stack, .int .i64 p.blocks, .int .i64 p.fuel] 30)).frozen? ⟨g, 0, none⟩ = false := frozen_of_row _ _ _ _ _ hG
                have y1 : (w5.alloc (.cells #[.slice A1 n1 c1, .slice A2 n2 c2, .slice A3 n3 c3, .slice A4 n4 c4, .int .i64 p.vars, .int .i64 p.stack, .int .i64 p.blocks, .int .i64 p.fuel] 30)).frozen? ⟨g, 1, none⟩ = false := frozen_of_row _ _ _ _ _ hG
                have y2 : (w5.alloc (.cells #[.slice A1 n1 c1, .slice A2 n2 c2, .slice A3 n3 c3, .slice A4 n4 c4, .int .i64 p.vars, .int .i64 p.stack, .int .i64 p.blocks, .int .i64 p.fuel] 30)).frozen? ⟨g, 2, none⟩ = false := frozen_of_row _ _ _ _ _ hG
                have y3 : (w5.alloc (.cells #[.slice A1 n1 c1, .slice A2 n2 c2, .slice A3 n3 c3, .slice A4 n4 c4, .int .i64 p.vars, .int .i64 p.stack, .int .i64 p.blocks, .int .i64 p.fuel] 30)).frozen? ⟨g, 3, none⟩ = false := frozen_of_row _ _ _ _ _ hG
                have y4 : (w5.alloc (.cells #[.slice A1 n1 c1, .slice A2 n2 c2, .slice A3 n3 c3, .slice A4 n4 c4, .int .i64 p.vars, .int .i64 p.stack, .int .i64 p.blocks, .int .i64 p.fuel] 30)).frozen? ⟨g, 4, none⟩ = false := frozen_of_row _ _ _ _ _ hG
                have y5 : (w5.alloc (.cells #[.slice A1 n1 c1, .slice A2 n2 c2, .slice A3 n3 c3, .slice A4 n4 c4, .int .i64 p.vars, .int .i64 p.stack, .int .i64 p.blocks, .int .i64 p.fuel] 30)).frozen? ⟨g, 5, none⟩ = false := frozen_of_row _ _ _ _ _ hG
                have y6 : (w5.alloc (.cells #[.slice A1 n1 c1, .slice A2 n2 c2, .slice A3 n3 c3, .slice A4 n4 c4, .int .i64 p.vars, .int .i64 p.stack, .int .i64 p.blocks, .int .i64 p.fuel] 30)).frozen? ⟨g, 6, none⟩ = false := frozen_of_row _ _ _ _ _ hG
                have y7 : (w5.alloc (.cells #[.slice A1 n1 c1, .slice A2 n2 c2, .slice A3 n3 c3, .slice A4 n4 c4, .int .i64 p.vars, .int .i64 p.stack, .int .i64 p.blocks, .int .i64 p.fuel] 30)).frozen? ⟨g, 7, none⟩ = false := frozen_of_row _ _ _ _ _ hG
                clear hG hse hkn
                go_wp2_with fail
                (try simp only [Exit.inBlock, Exit.then])
                refine bodyPost_ret (v := .tuple #[.agg #[.slice none 0 0, .slice none 0 0, .slice none 0 0, .slice none 0 0, .int .i64 0, .int .i64 0, .int .i64 0, .int .i64 0], .int .i64 2]) (results_cell_tmpD rfl _ _ _ ⟨g, 0, none⟩ _ _ rfl rfl (prg_load _ _ _ _ _ _ _ _ _ _ (prg_set _ _ _ _ _ _ _ _ _ _ _ _ _ _ _ _ _ _ _ (HGZ.out _ (HB6.out))))) rfl ?_
                exact HFIN.out _ dZ pZ [] 2 (HB6.out) (PO.nil _ _) HDE.out
end Go.Proofs.YtkmcjjoicpgjfaaDoor
