/-
  shallotlaw18.names at every kind, and what a call makes of the program. Conditions: the sizes that slices can have.
-/
import Derived.Test.YtkmcjjoicpgjfaaDoorBdG
import Derived.Test.YtkmcjjoicpgjfaaDoorInvRgn
import Derived.Great.BuildSlice
import Derived.Great.Walk
import Derived.Deep.Cut
import Derived.Test.YtkmcjjoicpgjfaaDoorWords
import Derived.Deep.RegionHeld3
import Derived.StillTail
import Derived.Test.YtkmcjjoicpgjfaaDoorCopy
import Derived.Deep.DeepCutAuto
/-
  Contracts of code's Builder: Send. Conditions: the sizes that slices can have.
-/
namespace Go.Proofs.YtkmcjjoicpgjfaaDoor
open Go Go.RowKit Go.Sh

/-- the same sends -/
def eqSnd (a b : Snd) : Bool := decide (a.msg = b.msg) && (decide (a.blk = b.blk) && decide (a.rts = b.rts))
theorem eqSnd_iff (a b : Snd) : eqSnd a b = true ↔ a = b := by
  obtain ⟨n, d, f⟩ := a
  obtain ⟨n', d', f'⟩ := b
  simp only [eqSnd, Bool.and_eq_true, decide_eq_true_iff, Snd.mk.injEq]
  exact ⟨fun ⟨h1, h2, h3⟩ => ⟨h1, h3, h2⟩, fun ⟨h1, h3, h2⟩ => ⟨h1, h2, h3⟩⟩
/-- what the builder's program is behind Send -/
def sndP (p : Prg) (s : Snd) : Prg := if fnd (fun x => eqSnd x s) p.snds < p.snds.length then p else { p with snds := p.snds ++ [s] }
theorem bl_drewN2 {B : Nat} {a w : World} (h : Below B a w) (k : Nat) : Below B a (w.drewN k) := ⟨h.os, h.tape, h.output, h.size, h.block⟩
def blkX : Value → Option Nat
  | .slice (some a) _ _ => some a.block
  | _ => none
set_option maxRecDepth 100000 in
theorem infoSp : (Tryd.prog.info? 43).map (·.size) = some 3 := by kernel_rfl
set_option maxRecDepth 100000 in
theorem und28 : Tryd.prog.underlying 28 = some (.slice 43) := by kernel_rfl
set_option maxRecDepth 100000 in
theorem spec_cells (x y z : Value) : Tryd.prog.builtSlice 43 1 [(0, .agg #[x, y, z])] = some #[x, y, z] := by kernel_rfl
theorem op_spec1 {o : Oper} {a : Act} {w : World} {K : Act → World → Prop} {Q : Exit → Act → World → Prop} (u : Operand) {x y z : Value} (ho : o.op = .buildSlice 28 1 #[(0, u)]) (hx : a.eval u = .agg #[x, y, z])
    (hk : K (a.put o.dst (.slice (some ⟨w.heap.size, 0, none⟩) 1 1)) (w.alloc (.cells #[x, y, z] 43))) : o.wp Tryd.prog a w K Q := by
  have hf : Tryd.prog.builtSlice 43 1 ((#[(0, u)] : Array (Nat × Operand)).map fun (i, x) => (i, a.eval x)).toList = some #[x, y, z] := by
    have : ((#[(0, u)] : Array (Nat × Operand)).map fun (i, x) => (i, a.eval x)).toList = [(0, .agg #[x, y, z])] := by simp [hx]
    rw [this]; exact spec_cells x y z
  unfold Program.builtSlice at hf
  cases hie : Tryd.prog.info? 43 with
  | none => simp [hie] at hf
  | some ie =>
    simp only [hie] at hf
    cases hz : ie.zero with
    | none => simp [hz] at hf
    | some z' =>
      simp only [hz] at hf
      by_cases hc : 1 * ie.size > 2 ^ 24 ∨ 1 * ie.size = 0
      · rw [if_pos hc] at hf; cases hf
      · rw [if_neg hc] at hf
        exact wp_buildSlice 28 43 1 _ ho _ ie z' und28 hie hz (fun h' => hc (Or.inl h')) (fun h' => hc (Or.inr h')) hf hk
theorem op_loadS {o : Oper} {a : Act} {w : World} {K : Act → World → Prop} {Q : Exit → Act → World → Prop} (u : Operand) (ho : o.op = .load 43 u) {p : Nat} {x y z : Value} (h : w.heap[p]? = some (.cells #[x, y, z] 43 (0, 0))) (hx : a.eval u = .pointer (some ⟨p, 0, none⟩)) (hk : K (a.put o.dst (.agg #[x, y, z])) w) : o.wp Tryd.prog a w K Q :=
  wp_load_mid 43 u ho p 0 hx [x, y, z] _ (blk_range h) Tryd.underlying43 rfl infoSp hk
theorem dat_of {ls : List Snd} {k : Nat} {x : Snd} (h : ls[k]? = some x) : dat ls k = x := by
  rw [dat, List.getD_eq_getElem?_getD, h]
  rfl
set_option maxHeartbeats 2000000 in
set_option maxRecDepth 100000 in
theorem Send_any (b base : Nat) (S : Nat → Prop) (d t : Pad) (p : Prg) (A2 : Option Addr) (m c2 B : Nat) (s : Snd) (w : World) (hb : BlkB w b d p) (ho : PO w base S d t p) (hl : RI w B A2 m s.rts) (hlt : b < base) (hbs : base ≤ w.heap.size) (hB : B ≤ w.heap.size) (hn : (d.n4 + 1) * 40 ≤ 140737488355328) (hm : m * 8 ≤ 140737488355328) (hrs : ∀ r ∈ p.snds, r.rts.length ≤ 140737488355328) :
    Calls Tryd.prog 39 #[.pointer (some ⟨b, 0, none⟩), .agg #[.int .i64 s.msg, .slice A2 m c2, .int .i64 s.blk]] w fun e w' => e = .returned (.int .i64 ((fnd (fun x => eqSnd x s) p.snds : Nat) : Int)) ∧ BdPost w b base S (sndP p s) w' := by
  obtain ⟨K, hK⟩ : ∃ K, fnd (fun x => eqSnd x s) p.snds = K := ⟨_, rfl⟩
  obtain ⟨P', hP⟩ : ∃ P', sndP p s = P' := ⟨_, rfl⟩
  rw [hK, hP]
  have HK := Lib.hid hK
  have HP := Lib.hid hP
  have HRS := Lib.hid hrs
  have HLM := Lib.hid ho.ls
  have HLO := Lib.hid ho.lo
  clear hK hP hrs
  -- the send in a block of its own
  have hba := (Below.refl w.heap.size w).alloc (Nat.le_refl _) (.cells #[.int .i64 s.msg, .slice A2 m c2, .int .i64 s.blk] 43)
  have hsa : (w.alloc (.cells #[.int .i64 s.msg, .slice A2 m c2, .int .i64 s.blk] 43)).heap.size = w.heap.size + 1 := by simp
  have HNEW := Lib.hid (heap_alloc_new w (.cells #[.int .i64 s.msg, .slice A2 m c2, .int .i64 s.blk] 43))
  have HPO := Lib.hid (ho.later hba)
  have HBK := Lib.hid (hb.below hba hb.lt)
  have HL := Lib.hid (hl.below (hba.mono hB))
  have HBA := Lib.hid hba
  have HM := Lib.hid ((ho.rsn.below hba))
  have hbsz : b < w.heap.size := hb.lt
  clear hb ho hl hba
  go_enter Tryd.func39, Tryd.ntmps39
  have hc3 : (w.alloc (.cells #[.int .i64 s.msg, .slice A2 m c2, .int .i64 s.blk] 43)).cell? ⟨b, 3, none⟩ = some (.slice d.A4 d.n4 d.c4) := HBK.out.cell 3
  go_wp2_with fail
  clear hc3
  generalize hwa : w.alloc (.cells #[.int .i64 s.msg, .slice A2 m c2, .int .i64 s.blk] 43) = wa at *
  clear hwa
  obtain ⟨q, hq⟩ : ∃ q, w.heap.size = q := ⟨_, rfl⟩
  rw [hq] at hsa HNEW HM hbsz hbs hB HBA
  rw [hq]
  have HQ0 := Lib.hid hq
  clear hq
  go_loopw [13, 5, 6] (fun i _ _ wr => ∃ k : Nat, k ≤ d.n4 ∧ i = .int .i64 (k : Int) ∧ Below (q + 1) wa wr ∧ ∀ j, j < k → eqSnd (dat p.snds j) s = false) (fun i _ _ _ => d.n4 - (intOf i).toNat)
  case atStart => exact ⟨0, by omega, rfl, Below.refl _ _, fun j hj => absurd hj (by omega)⟩
  case round =>
    obtain ⟨k, hk, rfl, hbr, hno⟩ := hrel
    have HNO := Lib.hid hno
    have HBR := Lib.hid hbr
    have hqr := hbr.size
    rw [hsa] at hqr
    clear hno hbr
    by_cases hlk : k < d.n4
    · have hmr := HM.out.below (HBR.out.mono (by omega))
      obtain ⟨g4, o4, Ai, ni, ci, hA4, hg4, e0, e1, e2, hle, hri⟩ := hmr.at_ hlk
      have hni : ni ≤ 140737488355328 := by
        have := HRS.out (dat p.snds k) (dat_mem (by rw [HLM.out]; exact hlk))
        rw [hri.len] at this
        exact this
      have HG := Lib.hid (dat_eq (l := p.snds) (k := k) (by rw [HLM.out]; exact hlk))
      obtain ⟨R, hR⟩ : ∃ R, eqSnd (dat p.snds k) s = R := ⟨_, rfl⟩
      have HQ := Lib.hid hR
      have hal := (Below.refl wr.heap.size wr).alloc (Nat.le_refl _) (.cells #[.int .i64 (dat p.snds k).msg, .slice Ai ni ci, .int .i64 (dat p.snds k).blk] 43)
      have hnw := heap_alloc_new wr (.cells #[.int .i64 (dat p.snds k).msg, .slice Ai ni ci, .int .i64 (dat p.snds k).blk] 43)
      have hqb := (hal.block q (by omega)).trans ((HBR.out.block q (by omega)).trans HNEW.out)
      have HQB := Lib.hid hqb
      have HNW := Lib.hid hnw
      have HBB := Lib.hid (HBR.out.trans (hal.mono hqr))
      have HRI := Lib.hid ((hri.more (show q ≤ wr.heap.size by omega)).below hal)
      have HLB := Lib.hid ((HL.out.below (HBR.out.mono (by omega))).below (hal.mono (by omega)))
      have hsl : (.slice d.A4 d.n4 d.c4 : Value) = .slice (some ⟨g4, o4, none⟩) d.n4 d.c4 := by rw [hA4]
      rw [hsl]
      clear hal hnw hqb hmr hri hle hR
      go_upto_region 4 with fail
      clear e0 e1 e2
      generalize hwb : wr.alloc (.cells #[.int .i64 (dat p.snds k).msg, .slice Ai ni ci, .int .i64 (dat p.snds k).blk] 43) = wb at *
      clear hwb
      have q0 : wb.cell? ⟨q, 0, none⟩ = some (.int .i64 s.msg) := blk_cell HQB.out
      have q1 : wb.cell? ⟨q, 1, none⟩ = some (.slice A2 m c2) := blk_cell HQB.out
      have q2 : wb.cell? ⟨q, 2, none⟩ = some (.int .i64 s.blk) := blk_cell HQB.out
      have r0 : wb.cell? ⟨wr.heap.size, 0, none⟩ = some (.int .i64 (dat p.snds k).msg) := blk_cell HNW.out
      have r1 : wb.cell? ⟨wr.heap.size, 1, none⟩ = some (.slice Ai ni ci) := blk_cell HNW.out
      have r2 : wb.cell? ⟨wr.heap.size, 2, none⟩ = some (.int .i64 (dat p.snds k).blk) := blk_cell HNW.out
      clear HQ R
      obtain ⟨x, hx⟩ : ∃ x, dat p.snds k = x := ⟨_, rfl⟩
      rw [hx] at HRI HG r0 r2 ⊢
      have HX := Lib.hid hx
      clear HNW hx
      obtain ⟨xm, xr, xb⟩ := x
      simp only at r0 r2 HRI
      by_cases m1 : xm = s.msg
      · have t1 : (xm == s.msg) = true := by rw [m1]; simp
        by_cases b1 : xb = s.blk
        · have t2 : (xb == s.blk) = true := by rw [b1]; simp
          have HE := Lib.hid (SlEqInt_any Ai A2 ni m ci c2 xr s.rts wb _ _ HRI.out HLB.out hni (by omega))
          obtain ⟨R, hR⟩ : ∃ R, decide (xr = s.rts) = R := ⟨_, rfl⟩
          have HEQ := Lib.hid (show eqSnd (dat p.snds k) s = R by rw [HX.out, eqSnd, decide_eq_true m1, decide_eq_true b1, ← hR]; rfl)
          rw [hR] at HE
          clear hR m1 b1
          cases R with
          | true =>
            go_wp2_with fail
            refine HE.out.mono ?_
            rintro e w1 ⟨rfl, d1, rfl⟩
            go_wp2_with fail
            go_ret
            have hkk : K = k := by rw [← HK.out]; exact fnd_at _ _ k _ HG.out (by rw [← HX.out]; exact HEQ.out) fun j y hj hy => by rw [← dat_of hy]; exact HNO.out j hj
            have hpp : P' = p := by rw [← HP.out, sndP, HK.out, hkk, if_pos (by rw [HLM.out]; exact hlk)]
            rw [hkk, hpp]
            have hbl : Below wa.heap.size wa (wb.drewN d1) := by rw [hsa]; exact bl_drewN2 HBB.out d1
            have hbw : Below w.heap.size w (wb.drewN d1) := by rw [HQ0.out]; exact HBA.out.trans (hbl.mono (by omega))
            exact ⟨rfl, S, d, t, HBK.out.below hbl (by omega), HPO.out.later hbl, fun _ h => .inl h, ⟨hbw.os, hbw.tape, hbw.output, hbw.size, fun j hj _ => hbw.block j hj⟩⟩
          | false =>
            have HF := HEQ
            go_wp2_with fail
            refine HE.out.mono ?_
            rintro e w1 ⟨rfl, d1, rfl⟩
            go_wp2_with fail
            exact ⟨⟨k + 1, by omega, by go_num, bl_drewN2 HBB.out d1, fun j hj => by
              by_cases e : j = k
              · rw [e]; exact HF.out
              · exact HNO.out j (by omega)⟩, by simp [intOf]; omega⟩
        · have t2 : (xb == s.blk) = false := by rw [beq_eq_false_iff_ne]; exact b1
          have HF := Lib.hid (show eqSnd (dat p.snds k) s = false by rw [HX.out, eqSnd, decide_eq_false b1]; simp)
          clear m1 b1
          go_wp2_with fail
          exact ⟨⟨k + 1, by omega, by go_num, HBB.out, fun j hj => by
            by_cases e : j = k
            · rw [e]; exact HF.out
            · exact HNO.out j (by omega)⟩, by simp [intOf]; omega⟩
      · have t1 : (xm == s.msg) = false := by rw [beq_eq_false_iff_ne]; exact m1
        have HF := Lib.hid (show eqSnd (dat p.snds k) s = false by rw [HX.out, eqSnd, decide_eq_false m1]; simp)
        clear m1
        go_wp2_with fail
        exact ⟨⟨k + 1, by omega, by go_num, HBB.out, fun j hj => by
          by_cases e : j = k
          · rw [e]; exact HF.out
          · exact HNO.out j (by omega)⟩, by simp [intOf]; omega⟩
    · obtain rfl : k = d.n4 := by omega
      have hkk : K = d.n4 := by rw [← HK.out, ← HLM.out]; exact fnd_none _ _ fun j y hy => by rw [← dat_of hy]; exact HNO.out j (by rw [← HLM.out]; exact (List.getElem?_eq_some_iff.1 hy).1)
      have hpp : P' = { p with snds := p.snds ++ [s] } := by rw [← HP.out, sndP, HK.out, hkk, if_neg (by rw [HLM.out]; omega)]
      have HKK := Lib.hid hkk
      have HPP := Lib.hid hpp
      have hbkr := HBK.out.below HBR.out (by omega)
      have hqbr := (HBR.out.block q (by omega)).trans HNEW.out
      have hrir := HL.out.below (HBR.out.mono (show B ≤ q + 1 by omega))
      have HCN := Lib.hid (CloneI_any A2 m c2 (iv s.rts) wr B hrir.1 (iv_one _) (by omega) hm)
      have HZS := Lib.hid hrir.2
      have hbwr : Below w.heap.size w wr := by rw [HQ0.out]; exact HBA.out.trans (HBR.out.mono (by omega))
      have HBW := Lib.hid hbwr
      have HBK1 := Lib.hid hbkr
      have HQB := Lib.hid hqbr
      have q1 : wr.cell? ⟨q, 1, none⟩ = some (.slice A2 m c2) := blk_cell hqbr
      clear HNO HK HP hkk hpp hbkr hqbr hrir hbwr HM
      go_wp2_with fail
      clear q1
      refine HCN.out.mono ?_
      rintro e w1 ⟨A3, c3, rfl, hown, hb1⟩
      have hqb1 := (hb1.block q (by omega)).trans HQB.out
      have q1 : w1.cell? ⟨q, 1, none⟩ = some (.slice A2 m c2) := blk_cell hqb1
      have f1 : w1.frozen? ⟨q, 1, none⟩ = false := frozen_of_row _ _ 1 _ _ hqb1
      have hqb2 : (w1.setCell ⟨q, 1, none⟩ (.slice A3 m c3)).heap[q]? = some (.cells #[.int .i64 s.msg, .slice A3 m c3, .int .i64 s.blk] 43 (0, 0)) := blk_set hqb1 _
      have hbk2 : BlkB (w1.setCell ⟨q, 1, none⟩ (.slice A3 m c3)) b d p := (HBK1.out.below hb1 (by omega)).far (by omega) 1 _
      have hbw1 : Below w.heap.size w w1 := HBW.out.trans (hb1.mono (by rw [HQ0.out]; omega))
      have hbw2 : Below w.heap.size w (w1.setCell ⟨q, 1, none⟩ (.slice A3 m c3)) := hbw1.setCell (p := ⟨q, 1, none⟩) (by rw [HQ0.out]; exact Nat.le_refl q) _
      have hown2 := ownsRow_setCell_below hown (a := ⟨q, 1, none⟩) (show q < wr.heap.size by omega) (.slice A3 m c3)
      have hsz1 := hb1.size
      have hsz2 : (w1.setCell ⟨q, 1, none⟩ (.slice A3 m c3)).heap.size = w1.heap.size := by simp
      have HQB2 := Lib.hid hqb2
      have HBK2 := Lib.hid hbk2
      have HBW2 := Lib.hid hbw2
      have HOW2 := Lib.hid hown2
      have HS2 := Lib.hid hsz2
      clear hown hb1 hqb1 hqb2 hbk2 hbw1 hbw2 hown2 hsz2 HCN HBK1 HQB HBW HBR
      go_upto_region 8 with fail
      clear q1 f1
      generalize w1.setCell ⟨q, 1, none⟩ (.slice A3 m c3) = w2 at *
      obtain ⟨css, hcs, hcl, hc3, hci⟩ := HPO.out.snds
      have hag : ∀ k, S k → w2.heap[k]? = wa.heap[k]? := fun k hk => by
        have := (HLO.out k hk).2
        rw [HBW2.out.block k this, HBA.out.block k (by rw [← HQ0.out]; exact this)]
      have hcs2 := (hcs.agree hag).1
      have HCS := Lib.hid hcs2
      have HCI := Lib.hid hci
      have HCV := Lib.hid hcs.2
      have HC3 := Lib.hid hc3
      have HCL := Lib.hid hcl
      have HAG := Lib.hid hag
      have HBASE := Lib.hid (show base ≤ w2.heap.size by rw [HS2.out]; omega)
      clear hcs hcl hc3 hci hag hcs2
      refine wp_region_head 10 [43, 44, 45, 46, 47, 48, 49, 50, 51, 52] (fun i v W => match i with
        | 0 => v = .pointer (some ⟨b, 0, none⟩)
        | 1 => v = .pointer (some ⟨b, 0, none⟩)
        | 2 => v = .pointer (some ⟨b, 0, none⟩)
        | 3 => v = .pointer (some ⟨b, 0, none⟩)
        | 4 => v = .pointer (some ⟨b, 3, none⟩)
        | 5 => v = .slice d.A4 d.n4 d.c4
        | 6 => v = .slice d.A4 d.n4 d.n4
        | 7 => v = .agg #[.int .i64 s.msg, .slice A3 m c3, .int .i64 s.blk]
        | 8 => ∃ g, v = .slice (some ⟨g, 0, none⟩) 1 1 ∧ w2.heap.size ≤ g ∧ W.heap[g]? = some (.cells #[.int .i64 s.msg, .slice A3 m c3, .int .i64 s.blk] 43 (0, 0))
        | 9 => ∃ g c', v = .slice (some ⟨g, 0, none⟩) (d.n4 + 1) c' ∧ w2.heap.size ≤ g ∧ W.ownsRow base 43 3 (.slice (some ⟨g, 0, none⟩) (d.n4 + 1) c') (d.n4 + 1) (css.flatten ++ [.int .i64 s.msg, .slice A3 m c3, .int .i64 s.blk])
        | _ => True) (fun i v => if i ∈ [8, 9] then blkX v else none) (by kernel_rfl) (by kernel_rfl) rfl rfl (by decide) (by show ∀ d ∈ [43, 44, 45, 46, 47, 48, 49, 50, 51, 52], d < 63; decide) rfl ?_ ?_ ?_
      · intro i v W W' h hb
        match i, h with
        | 0, h => exact h
        | 1, h => exact h
        | 2, h => exact h
        | 3, h => exact h
        | 4, h => exact h
        | 5, h => exact h
        | 6, h => exact h
        | 7, h => exact h
        | 8, h =>
          obtain ⟨g, h1, h2, h3⟩ := h
          exact ⟨g, h1, h2, (hb.block g (Array.getElem?_eq_some_iff.1 h3).1).trans h3⟩
        | 9, h =>
          obtain ⟨g, c', h1, h2, h3⟩ := h
          exact ⟨g, c', h1, h2, own_later h3 hb⟩
        | k + 10, _ => trivial
      · intro i o h a' W hA hD hbW
        match i, h with
        | 0, h =>
          obtain rfl := Option.some.inj h
          have e1 : a'.tmps[0]?.getD undef = .pointer (some ⟨b, 0, none⟩) := ev_get (hA 0 (by decide))
          clear h hA hD
          go_simp
          exact Below.refl _ _
        | 1, h =>
          obtain rfl := Option.some.inj h
          have e1 : a'.tmps[0]?.getD undef = .pointer (some ⟨b, 0, none⟩) := ev_get (hA 0 (by decide))
          clear h hA hD
          go_simp
          exact Below.refl _ _
        | 2, h =>
          obtain rfl := Option.some.inj h
          have e1 : a'.tmps[44]?.getD undef = .pointer (some ⟨b, 0, none⟩) := ev_get (hD ⟨1, .data⟩ (by simp) rfl 44 rfl)
          clear h hA hD
          go_simp
          exact Below.refl _ _
        | 3, h =>
          obtain rfl := Option.some.inj h
          have e1 : a'.tmps[45]?.getD undef = .pointer (some ⟨b, 0, none⟩) := ev_get (hD ⟨2, .data⟩ (by simp) rfl 45 rfl)
          clear h hA hD
          go_simp
          exact Below.refl _ _
        | 4, h =>
          obtain rfl := Option.some.inj h
          have e1 : a'.tmps[46]?.getD undef = .pointer (some ⟨b, 0, none⟩) := ev_get (hD ⟨3, .data⟩ (by simp) rfl 46 rfl)
          clear h hA hD
          go_simp
          exact Below.refl _ _
        | 5, h =>
          obtain rfl := Option.some.inj h
          have e1 : a'.tmps[47]?.getD undef = .pointer (some ⟨b, 3, none⟩) := ev_get (hD ⟨4, .data⟩ (by simp) rfl 47 rfl)
          have hcW : W.cell? ⟨b, 3, none⟩ = some (.slice d.A4 d.n4 d.c4) := (HBK2.out.below hbW (by rw [HS2.out]; omega)).cell 3
          clear h hA hD
          go_simp
          exact Below.refl _ _
        | 6, h =>
          obtain rfl := Option.some.inj h
          have e1 : a'.eval (.tmp 48) = .slice d.A4 d.n4 d.c4 := hD ⟨5, .data⟩ (by simp) rfl 48 rfl
          go_simp
          rw [ev_get e1]
          refine (ClipSp_any d.A4 d.n4 d.c4 W HPO.out.k4).mono ?_
          rintro e w3 ⟨rfl, rfl⟩
          exact ⟨rfl, Below.refl _ _⟩
        | 7, h =>
          obtain rfl := Option.some.inj h
          exact op_loadS (.tmp 3) rfl ((hbW.block q (by rw [HS2.out]; omega)).trans HQB2.out) (hA 3 (by decide)) ⟨_, rfl, Below.refl _ _, rfl, fun b h => by cases h⟩
        | 8, h =>
          obtain rfl := Option.some.inj h
          have e1 : a'.eval (.tmp 50) = .agg #[.int .i64 s.msg, .slice A3 m c3, .int .i64 s.blk] := hD ⟨7, .data⟩ (by simp) rfl 50 rfl
          exact op_spec1 (.tmp 50) rfl e1 ⟨_, rfl, (Below.refl _ _).alloc (Nat.le_refl _) _, ⟨W.heap.size, rfl, hbW.size, heap_alloc_new W _⟩, fun g h => by
            have h : W.heap.size = g := Option.some.inj h
            subst h
            exact ⟨Nat.le_refl _, by simp⟩⟩
        | 9, h =>
          obtain rfl := Option.some.inj h
          have e1 : a'.eval (.tmp 49) = .slice d.A4 d.n4 d.n4 := hD ⟨6, .data⟩ (by simp) rfl 49 rfl
          obtain ⟨g, e2, hg, hgc⟩ : ∃ g, a'.eval (.tmp 51) = .slice (some ⟨g, 0, none⟩) 1 1 ∧ w2.heap.size ≤ g ∧ W.heap[g]? = some (.cells #[.int .i64 s.msg, .slice A3 m c3, .int .i64 s.blk] 43 (0, 0)) := hD ⟨8, .data⟩ (by simp) rfl 51 rfl
          have hrd : Reads W W.heap.size 3 (some ⟨g, 0, none⟩) 1 [.int .i64 s.msg, .slice A3 m c3, .int .i64 s.blk] := ⟨rfl, .inr ⟨_, rfl, (Array.getElem?_eq_some_iff.1 hgc).1, fun j hj => by
            rw [add_mk, cell_of_row W g (0 + j) _ _ (0, 0) hgc]
            simp⟩⟩
          obtain ⟨c', w', hrun, h2, h3⟩ := run_appF1 (P := Tryd.prog) TSp W _ base d.A4 d.n4 t.c4 css.flatten (own_later HCS.out hbW) W.heap.size (some ⟨g, 0, none⟩) 1 1 _ hrd (by decide) hn (by omega) (Nat.le_trans HBASE.out hbW.size)
          refine Lib.wp_append_run W (.tmp 49) (.tmp 51) 28 28 rfl _ _ e1 e2 _ _ hrun ⟨_, rfl, h3, ⟨W.heap.size, c', rfl, hbW.size, h2⟩, fun g h => ?_⟩
          have h : W.heap.size = g := Option.some.inj h
          subst h
          exact ⟨Nat.le_refl _, (h2.lt _ rfl).2⟩
        | k + 10, h => simp at h
      · intro x w5 hx _ _ hb5
        have x0 : x 0 = .pointer (some ⟨b, 0, none⟩) := hx 0 (by decide)
        have x1 : x 1 = .pointer (some ⟨b, 0, none⟩) := hx 1 (by decide)
        have x2 : x 2 = .pointer (some ⟨b, 0, none⟩) := hx 2 (by decide)
        have x3 : x 3 = .pointer (some ⟨b, 0, none⟩) := hx 3 (by decide)
        have x4 : x 4 = .pointer (some ⟨b, 3, none⟩) := hx 4 (by decide)
        have x5 : x 5 = .slice d.A4 d.n4 d.c4 := hx 5 (by decide)
        have x6 : x 6 = .slice d.A4 d.n4 d.n4 := hx 6 (by decide)
        have x7 : x 7 = .agg #[.int .i64 s.msg, .slice A3 m c3, .int .i64 s.blk] := hx 7 (by decide)
        obtain ⟨g8, x8, _⟩ : ∃ g, x 8 = .slice (some ⟨g, 0, none⟩) 1 1 ∧ w2.heap.size ≤ g ∧ w5.heap[g]? = some (.cells #[.int .i64 s.msg, .slice A3 m c3, .int .i64 s.blk] 43 (0, 0)) := hx 8 (by decide)
        obtain ⟨g9, c', x9, hg9, hown9⟩ : ∃ g c', x 9 = .slice (some ⟨g, 0, none⟩) (d.n4 + 1) c' ∧ w2.heap.size ≤ g ∧ w5.ownsRow base 43 3 (.slice (some ⟨g, 0, none⟩) (d.n4 + 1) c') (d.n4 + 1) (css.flatten ++ [.int .i64 s.msg, .slice A3 m c3, .int .i64 s.blk]) := hx 9 (by decide)
        have hb2 : b < w2.heap.size := by rw [HS2.out]; omega
        have hbk5 := HBK2.out.below hb5 hb2
        have hc5 : w5.cell? ⟨b, 3, none⟩ = some (.slice d.A4 d.n4 d.c4) := hbk5.cell 3
        have hf5 := hbk5.free 3
        have hbk6 := hbk5.snds (some ⟨g9, 0, none⟩) (d.n4 + 1) c' (p.snds ++ [s])
        have HC6 := Lib.hid (show (w5.setCell ⟨b, 3, none⟩ (.slice (some ⟨g9, 0, none⟩) (d.n4 + 1) c')).cell? ⟨b, 3, none⟩ = some (.slice (some ⟨g9, 0, none⟩) (d.n4 + 1) c') from hbk6.cell 3)
        have HBK6 := Lib.hid hbk6
        have hws : w.heap.size ≤ w2.heap.size := HBW2.out.size
        have hbw5 : Below w.heap.size w w5 := HBW2.out.trans (hb5.mono hws)
        have hg6 := grown_below (b := b) hbw5 3 (.slice (some ⟨g9, 0, none⟩) (d.n4 + 1) c')
        have HG6 := Lib.hid hg6
        have HOW := Lib.hid (ownsRow_setCell_below hown9 (a := ⟨b, 3, none⟩) (show b < base from hlt) (.slice (some ⟨g9, 0, none⟩) (d.n4 + 1) c'))
        have HIN := Lib.hid (ownsRow_setCell_below (own_later (own_base HOW2.out (show q ≤ wr.heap.size by omega)) hb5) (a := ⟨b, 3, none⟩) (show b < q from hbsz) (.slice (some ⟨g9, 0, none⟩) (d.n4 + 1) c'))
        have HGL := Lib.hid (hown9.lt g9 rfl).2
        have HSZ := Lib.hid (show (w5.setCell ⟨b, 3, none⟩ (.slice (some ⟨g9, 0, none⟩) (d.n4 + 1) c')).heap.size = w5.heap.size by simp)
        have HAG6 := Lib.hid (show ∀ k, S k → (w5.setCell ⟨b, 3, none⟩ (.slice (some ⟨g9, 0, none⟩) (d.n4 + 1) c')).heap[k]? = wa.heap[k]? from fun k hk => by
          have h1 := HLO.out k hk
          rw [show (w5.setCell ⟨b, 3, none⟩ (.slice (some ⟨g9, 0, none⟩) (d.n4 + 1) c')).heap[k]? = w5.heap[k]? from Below.heap_setCell w5 ⟨b, 3, none⟩ _ k (show k ≠ b by omega), hb5.block k (by omega), HAG.out k hk])
        have hwrp : IntKind.i64.wrap (((d.n4 + 1 : Nat) : Int) - 1) = (d.n4 : Int) := by rw [IntKind.wrap_i64]; omega
        clear hbk5 hbk6 hbw5 hg6 hown9 hx
        simp only [setAll, List.drop_succ_cons, List.drop_zero, Nat.zero_add, Nat.reduceAdd, x0, x1, x2, x3, x4, x5, x6, x7, x8, x9, List.setIfInBounds_toArray, List.set_cons_zero, List.set_cons_succ]
        clear x0 x1 x2 x3 x4 x5 x6 x7 x8 x9
        go_upto_region 9 with fail
        clear hc5 hf5
        generalize w5.setCell ⟨b, 3, none⟩ (.slice (some ⟨g9, 0, none⟩) (d.n4 + 1) c') = w6 at *
        have hc6 := HC6.out
        go_wp2_with fail
        go_ret
        rw [HKK.out, HPP.out]
        refine ⟨rfl, Since S w w6, { d with A4 := some ⟨g9, 0, none⟩, n4 := d.n4 + 1, c4 := c' }, { t with c4 := c' }, HBK6.out, ?_, fun j hj => hj.imp id (·.1), HG6.out⟩
        have hp : PO w6 base (Since S w w6) d t p := HPO.out.kept HAG6.out (fun _ h => .inl h) fun j hj => by
          rcases hj with hj | hj
          · have h1 := HLO.out j hj
            exact ⟨h1.1, Nat.lt_of_lt_of_le h1.2 HG6.out.size⟩
          · exact ⟨by rw [HQ0.out] at hj; omega, hj.2⟩
        refine { hp with ls := ?_, snds := ⟨css ++ [[.int .i64 s.msg, .slice A3 m c3, .int .i64 s.blk]], ⟨?_, fun j hj => ?_⟩, ?_, ?_, fun i hi => ?_⟩, k4 := own_cap HOW.out }
        · show (p.snds ++ [s]).length = d.n4 + 1
          rw [List.length_append, HLM.out]; rfl
        · have e2 : (css ++ [[Value.int .i64 s.msg, .slice A3 m c3, .int .i64 s.blk]]).flatten = css.flatten ++ [.int .i64 s.msg, .slice A3 m c3, .int .i64 s.blk] := by simp
          rw [e2]
          exact HOW.out
        · injection hj with hj
          have hj : g9 = j := hj
          exact .inr ⟨by omega, by rw [HSZ.out, ← hj]; exact HGL.out⟩
        · show (css ++ [[Value.int .i64 s.msg, .slice A3 m c3, .int .i64 s.blk]]).length = d.n4 + 1
          rw [List.length_append, HCL.out]; rfl
        · intro cs hcs
          rcases List.mem_append.1 hcs with h | h
          · exact HC3.out cs h
          · obtain rfl := List.mem_singleton.1 h; rfl
        · by_cases e : i < d.n4
          · obtain ⟨Ai, ni, ci, h1, h2, h3⟩ := HCI.out i e
            have e1 : dat (p.snds ++ [s]) i = dat p.snds i := by simp [dat, List.getElem?_append_left (show i < p.snds.length by rw [HLM.out]; exact e)]
            refine ⟨Ai, ni, ci, ?_, ?_, ?_⟩
            · rw [show dat ({ p with snds := p.snds ++ [s] } : Prg).snds i = dat p.snds i from e1, List.getElem?_append_left (by rw [HCL.out]; exact e)]
              exact h1
            · rw [show dat ({ p with snds := p.snds ++ [s] } : Prg).snds i = dat p.snds i from e1]
              exact (h2.agree HAG6.out).mono fun _ h => .inl h
            · rw [show dat ({ p with snds := p.snds ++ [s] } : Prg).snds i = dat p.snds i from e1]
              exact h3
          · have hie : i = d.n4 := by have : i < d.n4 + 1 := hi; omega
            subst hie
            have e1 : dat (p.snds ++ [s]) d.n4 = s := by simp [dat, ← HLM.out]
            refine ⟨A3, m, c3, ?_, ⟨?_, fun j hj => ?_⟩, ?_⟩
            · rw [show dat ({ p with snds := p.snds ++ [s] } : Prg).snds d.n4 = s from e1, List.getElem?_append_right (by rw [HCL.out]; exact Nat.le_refl _), HCL.out, Nat.sub_self]
              rfl
            · rw [show dat ({ p with snds := p.snds ++ [s] } : Prg).snds d.n4 = s from e1]
              exact own_base HIN.out hbs
            · have := HIN.out.lt j hj
              exact .inr ⟨by rw [HQ0.out]; exact this.1, this.2⟩
            · rw [show dat ({ p with snds := p.snds ++ [s] } : Prg).snds d.n4 = s from e1]
              exact HZS.out
end Go.Proofs.YtkmcjjoicpgjfaaDoor
/-
  Contracts of the reference's SameInts, SameStops and SameSpec (exact) and of the law's made. Conditions: the sizes that slices can have.
-/
namespace Go.Proofs.YtkmcjjoicpgjfaaDoor
open Go Go.RowKit Go.Sh

set_option maxHeartbeats 2000000 in
set_option maxRecDepth 100000 in
theorem SameInts_any (A A' : Option Addr) (n n' c c' : Nat) (l r : List Int) (w : World) (B B' : Nat) (hl : RI w B A n l) (hr : RI w B' A' n' r) (hn : n ≤ 140737488355328) (hn' : n' ≤ 140737488355328) :
    Calls Tryd.prog 61 #[.slice A n c, .slice A' n' c'] w (EqPost w (decide (l = r))) := by
  have HL := Lib.hid hl
  have HR := Lib.hid hr
  have hll := hl.len
  have hrl := hr.len
  clear hl hr
  by_cases hnn : n = n'
  · subst hnn
    have dnn : ((n : Int) != (n : Int)) = false := by simp
    obtain ⟨R, hR⟩ : ∃ R, decide (l = r) = R := ⟨_, rfl⟩
    rw [hR]
    have HRR := Lib.hid hR
    clear hR
    go_enter Tryd.func61, Tryd.ntmps61
    go_wp2_with fail
    go_loopw [5] (fun i wr => ∃ k d : Nat, k ≤ n ∧ i = .int .i64 (k : Int) ∧ wr = w.drewN d ∧ l.take k = r.take k) (fun i _ => n - (intOf i).toNat)
    case atStart => exact ⟨0, 0, by omega, rfl, rfl, rfl⟩
    case round =>
      obtain ⟨k, d, hk, rfl, rfl, ht⟩ := hrel
      have HT := Lib.hid ht
      clear ht
      by_cases hlt : k < n
      · obtain ⟨ad, rfl, _, he, _⟩ := HL.out.at_ hlt
        obtain ⟨ad', rfl, _, he', _⟩ := HR.out.at_ hlt
        have hki : (k : Int) < (n : Int) := by omega
        have HE := Lib.hid (it_take_succ (l := l) (k := k) (by omega))
        have HE' := Lib.hid (it_take_succ (l := r) (k := k) (by omega))
        have HG := Lib.hid (it_get (l := l) (k := k) (by omega))
        have HG' := Lib.hid (it_get (l := r) (k := k) (by omega))
        generalize it l k = x at *
        generalize it r k = y at *
        by_cases hxy : x = y
        · subst hxy
          have hxx : (x != x) = false := by simp
          go_wp2_with fail
          go_quiet (fail)
          go_wp2_with fail
          exact ⟨⟨k + 1, d + nq, by omega, by go_num, by first | rfl | simp, by rw [HE.out, HE'.out, HT.out]⟩, by simp [intOf]; omega⟩
        · have hxx : (x != y) = true := by simp only [bne_iff_ne, ne_eq]; exact hxy
          have HN := Lib.hid (ne_at HG.out HG'.out hxy)
          clear hxy
          go_wp2_with fail
          go_quiet (fail)
          go_wp2_with fail
          go_ret
          exact ⟨by rw [← HRR.out, decide_eq_false HN.out]; rfl, d + nq, by first | rfl | simp⟩
      · obtain rfl : k = n := by omega
        have HEQ := Lib.hid (show l = r by have h := HT.out; rwa [List.take_of_length_le (by omega), List.take_of_length_le (by omega)] at h)
        go_wp2_with fail
        go_ret
        exact ⟨by rw [← HRR.out, decide_eq_true HEQ.out]; rfl, d, rfl⟩
  · have hne : ((n : Int) != (n' : Int)) = true := by simp only [bne_iff_ne, ne_eq]; omega
    have hd : decide (l = r) = false := decide_eq_false fun e => hnn (by rw [← hll, ← hrl, e])
    rw [hd]
    go_enter Tryd.func61, Tryd.ntmps61
    go_wp2_with fail
    go_ret
    exact ⟨rfl, 0, rfl⟩
set_option maxHeartbeats 2000000 in
set_option maxRecDepth 100000 in
theorem SameStops_any (A A' : Option Addr) (n n' c c' : Nat) (l r : List Sp) (w : World) (B B' : Nat) (hl : RR w B 3 A n (l.map Sp.cells)) (hr : RR w B' 3 A' n' (r.map Sp.cells)) (hn : n ≤ 140737488355328) (hn' : n' ≤ 140737488355328) (R : Bool) (hR : R = true ↔ l = r) :
    Calls Tryd.prog 36 #[.slice A n c, .slice A' n' c'] w (EqPost w R) := by
  have HL := Lib.hid hl
  have HR := Lib.hid hr
  have hll := hl.len
  have hrl := hr.len
  rw [List.length_map] at hll hrl
  clear hl hr
  by_cases hnn : n = n'
  · subst hnn
    have dnn : ((n : Int) != (n : Int)) = false := by simp
    have HRR := Lib.hid hR
    clear hR
    go_enter Tryd.func36, Tryd.ntmps36
    go_wp2_with fail
    go_loopw [5] (fun i wr => ∃ k d : Nat, k ≤ n ∧ i = .int .i64 (k : Int) ∧ wr = w.drewN d ∧ l.take k = r.take k) (fun i _ => n - (intOf i).toNat)
    case atStart => exact ⟨0, 0, by omega, rfl, rfl, rfl⟩
    case round =>
      obtain ⟨k, d, hk, rfl, rfl, ht⟩ := hrel
      have HT := Lib.hid ht
      clear ht
      by_cases hlt : k < n
      · obtain ⟨b1, o1, rfl, _, e0, e1, e2⟩ := stop_at HL.out hlt
        obtain ⟨b2, o2, rfl, _, f0, f1, f2⟩ := stop_at HR.out hlt
        have hki : (k : Int) < (n : Int) := by omega
        have HE := Lib.hid (sat_take_succ (l := l) (k := k) (by omega))
        have HE' := Lib.hid (sat_take_succ (l := r) (k := k) (by omega))
        have HG := Lib.hid (sat_eq (ss := l) (k := k) (by omega))
        have HG' := Lib.hid (sat_eq (ss := r) (k := k) (by omega))
        generalize sat l k = x at *
        generalize sat r k = y at *
        by_cases hxy : x = y
        · subst hxy
          obtain ⟨nm, dl, fl⟩ := x
          simp only at e0 e1 e2 f0 f1 f2
          go_wp2_with fail
          go_quiet (fail)
          go_wp2_with fail
          exact ⟨⟨k + 1, d + nq, by omega, by go_num, by first | rfl | simp, by rw [HE.out, HE'.out, HT.out]⟩, by simp [intOf]; omega⟩
        · have HN := Lib.hid (ne_at HG.out HG'.out hxy)
          obtain ⟨nm, dl, fl⟩ := x
          obtain ⟨nm', dl', fl'⟩ := y
          simp only at e0 e1 e2 f0 f1 f2
          by_cases q1 : nm = nm'
          · subst q1
            by_cases q2 : dl = dl'
            · subst q2
              have q3 : ¬ fl = fl' := fun e => hxy (by rw [e])
              have t3 : (fl == fl') = false := by rw [beq_eq_false_iff_ne]; exact q3
              clear hxy q3
              go_wp2_with fail
              go_quiet (fail)
              go_wp2_with fail
              go_ret
              exact ⟨by rw [show R = false from by cases R with | false => rfl | true => exact absurd (HRR.out.1 rfl) HN.out]; rfl, d + nq, by first | rfl | simp⟩
            · have t2 : (dl == dl') = false := by rw [beq_eq_false_iff_ne]; exact q2
              clear hxy q2
              go_wp2_with fail
              go_quiet (fail)
              go_wp2_with fail
              go_ret
              exact ⟨by rw [show R = false from by cases R with | false => rfl | true => exact absurd (HRR.out.1 rfl) HN.out]; rfl, d + nq, by first | rfl | simp⟩
          · have t1 : (nm.toList == nm'.toList) = false := by rw [bytes_eq]; exact decide_eq_false q1
            clear hxy q1
            go_wp2_with fail
            go_quiet (fail)
            go_wp2_with fail
            go_ret
            exact ⟨by rw [show R = false from by cases R with | false => rfl | true => exact absurd (HRR.out.1 rfl) HN.out]; rfl, d + nq, by first | rfl | simp⟩
      · obtain rfl : k = n := by omega
        have HEQ := Lib.hid (show l = r by have h := HT.out; rwa [List.take_of_length_le (by omega), List.take_of_length_le (by omega)] at h)
        go_wp2_with fail
        go_ret
        exact ⟨by rw [show R = true from HRR.out.2 HEQ.out]; rfl, d, rfl⟩
  · have hne : ((n : Int) != (n' : Int)) = true := by simp only [bne_iff_ne, ne_eq]; omega
    obtain rfl : R = false := by cases R with | false => rfl | true => exact absurd (by rw [← hll, ← hrl, hR.1 rfl]) hnn
    clear hR
    go_enter Tryd.func36, Tryd.ntmps36
    go_wp2_with fail
    go_ret
    exact ⟨rfl, 0, rfl⟩
set_option maxHeartbeats 2000000 in
set_option maxRecDepth 100000 in
theorem SameSpec_any (x y : Snd) (A A' : Option Addr) (n n' c c' : Nat) (w : World) (B B' : Nat) (hl : RI w B A n x.rts) (hr : RI w B' A' n' y.rts) (hB : B ≤ w.heap.size) (hB' : B' ≤ w.heap.size) (hn : n ≤ 140737488355328) (hn' : n' ≤ 140737488355328) :
    Calls Tryd.prog 38 #[.agg #[.int .i64 x.msg, .slice A n c, .int .i64 x.blk], .agg #[.int .i64 y.msg, .slice A' n' c', .int .i64 y.blk]] w (fun e w' => e = .returned (.bool (eqSnd x y)) ∧ Below w.heap.size w w') := by
  have HS := Lib.hid (fun W (h : RI W B A n x.rts) (h' : RI W B' A' n' y.rts) => SameInts_any A A' n n' c c' x.rts y.rts W B B' h h' hn hn')
  obtain ⟨hz2, hc2, hd2, hb2⟩ := two_new w (.cells #[.int .i64 x.msg, .slice A n c, .int .i64 x.blk] 43) (.cells #[.int .i64 y.msg, .slice A' n' c', .int .i64 y.blk] 43)
  have hz1 : (w.alloc (.cells #[.int .i64 x.msg, .slice A n c, .int .i64 x.blk] 43)).heap.size = w.heap.size + 1 := by simp
  have HB := Lib.hid hb2
  have HL := Lib.hid (hl.below (hb2.mono hB))
  have HR := Lib.hid (hr.below (hb2.mono hB'))
  clear hl hr hb2 hc2 hd2
  obtain ⟨m, xr, b⟩ := x
  obtain ⟨m', yr, b'⟩ := y
  simp only at HS HB HL HR hz1 hz2 ⊢
  unfold eqSnd
  simp only
  by_cases h1 : m = m'
  · subst h1
    have e1 : (m == m) = true := by simp
    by_cases h2 : b = b'
    · subst h2
      have e2 : (b == b) = true := by simp
      obtain ⟨R, hR⟩ : ∃ R, decide (xr = yr) = R := ⟨_, rfl⟩
      rw [hR] at HS ⊢
      have hT : (decide (m = m) && (decide (b = b) && R)) = R := by simp
      rw [hT]
      clear hR hT
      go_enter Tryd.func38, Tryd.ntmps38
      go_wp2_with fail
      refine (HS.out _ HL.out HR.out).mono ?_
      rintro e w1 ⟨rfl, dd, rfl⟩
      have HB2 := Lib.hid (bl_drewN2 HB.out dd)
      go_wp2_with fail
      go_ret
      exact ⟨rfl, HB2.out⟩
    · have e2 : (b == b') = false := by rw [beq_eq_false_iff_ne]; exact h2
      rw [decide_eq_false h2, Bool.false_and, Bool.and_false]
      clear h2
      go_enter Tryd.func38, Tryd.ntmps38
      go_wp2_with fail
      go_ret
      exact ⟨rfl, HB.out⟩
  · have e1 : (m == m') = false := by rw [beq_eq_false_iff_ne]; exact h1
    rw [decide_eq_false h1, Bool.false_and]
    clear h1
    go_enter Tryd.func38, Tryd.ntmps38
    go_wp2_with fail
    go_ret
    exact ⟨rfl, HB.out⟩
set_option maxHeartbeats 2000000 in
set_option maxRecDepth 100000 in
/-- shallotlaw18.made: the place of the first that is equal, or the length -/
theorem made_any (A A2 : Option Addr) (n c m c2 B B2 : Nat) (ls : List (List UInt8)) (l : List UInt8) (w : World) (hs : RBB w B A n ls) (hl : RB w B2 A2 m l) (hn : n ≤ 140737488355328) (hi : ∀ x ∈ ls, x.length ≤ 140737488355328) :
    Calls Tryd.prog 34 #[.slice A n c, .slice A2 m c2] w fun e w' => e = .returned (.int .i64 ((fnd (fun x => decide (x = l)) ls : Nat) : Int)) ∧ ∃ d, w' = w.drewN d := by
  obtain ⟨K, hK⟩ : ∃ K, fnd (fun x => decide (x = l)) ls = K := ⟨_, rfl⟩
  rw [hK]
  have HK := Lib.hid hK
  have HS := Lib.hid hs
  have HL := Lib.hid hl
  have HI := Lib.hid hi
  clear hK hs hl hi
  go_enter Tryd.func34, Tryd.ntmps34
  go_wp2_with fail
  go_loopw [5] (fun i wr => ∃ k dd : Nat, k ≤ n ∧ i = .int .i64 (k : Int) ∧ wr = w.drewN dd ∧ ∀ j, j < k → lat ls j ≠ l) (fun i _ => n - (intOf i).toNat)
  case atStart => exact ⟨0, 0, by omega, rfl, rfl, fun j hj => absurd hj (by omega)⟩
  case round =>
    obtain ⟨k, dd, hk, rfl, rfl, hno⟩ := hrel
    have HNO := Lib.hid hno
    clear hno
    by_cases hlk : k < n
    · obtain ⟨ad, Ai, ni, ci, rfl, hab, hc, hle, hrb⟩ := HS.out.at_ hlk
      have hkl : k < ls.length := by rw [HS.out.len]; exact hlk
      have hni : ni ≤ 140737488355328 := by have := HI.out (lat ls k) (lat_mem hkl); rwa [hrb.len] at this
      have HE := Lib.hid (Equal_any Ai A2 ni m ci c2 (lat ls k) l (w.drewN dd) _ _ (hrb.drewN dd) (HL.out.drewN dd) hni)
      have HG := Lib.hid (lat_get hkl)
      have hki : (k : Int) < (n : Int) := by omega
      clear hrb hle hni hkl
      by_cases heq : lat ls k = l
      · have hd : decide (lat ls k = l) = true := decide_eq_true heq
        rw [hd] at HE
        have HQ := Lib.hid heq
        clear heq hd
        go_wp2_with fail
        refine HE.out.mono ?_
        rintro e w1 ⟨rfl, d1, rfl⟩
        go_wp2_with fail
        go_ret
        have hkk : K = k := by rw [← HK.out]; exact fnd_at _ _ k _ HG.out (decide_eq_true HQ.out) fun j y hj hy => decide_eq_false (by rw [← lat_of hy]; exact HNO.out j hj)
        exact ⟨by rw [hkk]; rfl, dd + d1, by first | rfl | simp⟩
      · have hd : decide (lat ls k = l) = false := decide_eq_false heq
        rw [hd] at HE
        have HQ := Lib.hid heq
        clear heq hd
        go_wp2_with fail
        refine HE.out.mono ?_
        rintro e w1 ⟨rfl, d1, rfl⟩
        go_wp2_with fail
        exact ⟨⟨k + 1, dd + d1, by omega, by go_num, by first | rfl | simp, fun j hj => by
          by_cases e : j = k
          · rw [e]; exact HQ.out
          · exact HNO.out j (by omega)⟩, by simp [intOf]; omega⟩
    · obtain rfl : k = n := by omega
      have hkk : K = k := by rw [← HK.out, ← HS.out.len]; exact fnd_none _ _ fun j y hy => decide_eq_false (by rw [← lat_of hy]; exact HNO.out j (by rw [← HS.out.len]; exact (List.getElem?_eq_some_iff.1 hy).1))
      go_wp2_with fail
      go_ret
      exact ⟨by rw [hkk]; rfl, dd, rfl⟩
end Go.Proofs.YtkmcjjoicpgjfaaDoor
/-
  Over any program: a region that draws its order and reads before it writes: until operation c has come up, S holds, and loads may be taken first; behind it nothing is asked of the world. No statement of the seat is proved here.
-/
namespace Go.Sh
open Go Go.RowKit

section
variable {P : Program} {ops : Array Oper} {Q : Exit → Act → World → Prop} {md : Region.Mode} {S : World → Prop}

/-- whatever order is picked from here on, and S holds behind every operation that is carried out ahead of number c -/
def wpAnyU (P : Program) (md : Region.Mode) (ops : Array Oper) (Q : Exit → Act → World → Prop) (S : World → Prop) (c : Nat) : Nat → Array Bool → Act → World → Prop
  | 0, listed, a, w => Region.ready md ops listed = [] ∧ Q .normal a w
  | fuel + 1, listed, a, w =>
    (Region.ready md ops listed = [] → Q .normal a w) ∧
    ∀ i ∈ Region.ready md ops listed, wpOp P ops Q i (fun a' w' => if i = c then wpAny P md ops Q fuel (listed.setIfInBounds i true) a' w' else S w' ∧ wpAnyU P md ops Q S c fuel (listed.setIfInBounds i true) a' w') a w

theorem wpAny_of_until {c : Nat} : ∀ (fuel : Nat) (listed : Array Bool) (a : Act) (w : World), wpAnyU P md ops Q S c fuel listed a w → wpAny P md ops Q fuel listed a w
  | 0, _, _, _, h => h
  | fuel + 1, _, _, _, h => ⟨h.1, fun i hi => wpOp_mono (fun a' w' h' => by
      by_cases hic : i = c
      · rw [if_pos hic] at h'; exact h'
      · rw [if_neg hic] at h'; exact wpAny_of_until fuel _ a' w' h'.2) (h.2 i hi)⟩

theorem free_next {i j : Nat} {oi : Oper} {listed : Array Bool} (hjun : listed.getD j true = false)
    (hfree : ∀ j oj, ops[j]? = some oj → j ≠ i → listed.getD j true = false → (∀ e ∈ oj.after, Region.binds md e = true → e.on ≠ i) → oi.apart ops oj = true) :
    ∀ k ok, ops[k]? = some ok → k ≠ i → (listed.setIfInBounds j true).getD k true = false → (∀ e ∈ ok.after, Region.binds md e = true → e.on ≠ i) → oi.apart ops ok = true := fun k ok hk hki hun hno => by
  refine hfree k ok hk hki ?_ hno
  by_cases hjk : j = k
  · subst hjk; exact hjun
  · rw [getD_set_ne true hjk] at hun; exact hun
theorem waits_not {i : Nat} {oj : Oper} {listed : Array Bool} (hr : i ∈ Region.ready md ops listed) (hall : ∀ e ∈ oj.after, Region.binds md e = true → listed.getD e.on false = true) :
    ∀ e ∈ oj.after, Region.binds md e = true → e.on ≠ i := fun e he hb heq => by
  have h1 := hall e he hb
  have h0 := (mem_ready.1 hr).1
  rw [heq] at h1
  rcases Nat.lt_or_ge i listed.size with h' | h'
  · simp [h'] at h0 h1; rw [h0] at h1; cases h1
  · simp [Array.getElem?_eq_none h'] at h1

/-- an operation for which number c waits may be taken first where it yields its value in every world that meets S -/
theorem wpAnyU_firstW {c i : Nat} {oi : Oper} {v : Value} (hi : ops[i]? = some oi) (hsel : ∀ (j : Nat) (o : Oper) cs b, ops[j]? = some o → o.op ≠ .select cs b)
    (hQ : ∀ c a w, Q (.panic c) (a.put oi.dst v) w → Q (.panic c) a w) (hci : c ≠ i) (hw : Region.waitsFor md ops c i = true) :
    ∀ (fuel : Nat) (listed : Array Bool) (a : Act) (w : World),
      (∀ j oj, ops[j]? = some oj → j ≠ i → listed.getD j true = false → (∀ e ∈ oj.after, Region.binds md e = true → e.on ≠ i) → oi.apart ops oj = true) →
      i ∈ Region.ready md ops listed → YieldsIf P ops S oi v a → S w →
      wpAnyU P md ops Q S c fuel (listed.setIfInBounds i true) (a.put oi.dst v) w → wpAnyU P md ops Q S c (fuel + 1) listed a w := by
  intro fuel
  induction fuel with
  | zero =>
    intro listed a w _ hr hy hS H
    refine ⟨fun h => (by rw [h] at hr; cases hr), fun j hj => ?_⟩
    by_cases hji : j = i
    · subst hji; exact hy.wpOp hi hS (by rw [if_neg (Ne.symm hci)]; exact ⟨hS, H⟩)
    · have := ready_mono hj hji
      rw [H.1] at this
      cases this
  | succ fuel ih =>
    intro listed a w hfree hr hy hS H
    refine ⟨fun h => (by rw [h] at hr; cases hr), fun j hj => ?_⟩
    by_cases hji : j = i
    · subst hji; exact hy.wpOp hi hS (by rw [if_neg (Ne.symm hci)]; exact ⟨hS, H⟩)
    · have h1 := H.2 j (ready_mono hj hji)
      obtain ⟨hjun, oj, hoj, hall⟩ := mem_ready.1 hj
      have hnot := waits_not hr hall
      have hjc : j ≠ c := by
        rintro rfl
        obtain ⟨oc, hoc, e, he, hb, heq⟩ := Region.waitsFor_spec hw
        obtain rfl := Option.some.inj (hoj.symm.trans hoc)
        exact hnot e he hb heq
      simp only [if_neg hjc] at h1 ⊢
      have h2 := wpOp_putIf hoj (hfree j oj hoj hji hjun hnot) (fun cs b => hsel i oi cs b hi) (fun cs b => hsel j oj cs b hoj) hQ hy h1
      refine wpOp_mono (fun a' w' h3 => ⟨h3.2.1, ih (listed.setIfInBounds j true) a' w' (free_next hjun hfree) (ready_mono hr (Ne.symm hji)) h3.1 h3.2.1 ?_⟩) h2
      rw [Array.setIfInBounds_comm _ _ hji]
      exact h3.2.2
/-- .. and any operation that yields its value in whatever world -/
theorem wpAnyU_firstY {c i : Nat} {oi : Oper} {v : Value} (hi : ops[i]? = some oi) (hsel : ∀ (j : Nat) (o : Oper) cs b, ops[j]? = some o → o.op ≠ .select cs b)
    (hQ : ∀ c a w, Q (.panic c) (a.put oi.dst v) w → Q (.panic c) a w) (hci : c ≠ i) :
    ∀ (fuel : Nat) (listed : Array Bool) (a : Act) (w : World),
      (∀ j oj, ops[j]? = some oj → j ≠ i → listed.getD j true = false → (∀ e ∈ oj.after, Region.binds md e = true → e.on ≠ i) → oi.apart ops oj = true) →
      i ∈ Region.ready md ops listed → Yields P ops oi v a → S w →
      wpAnyU P md ops Q S c fuel (listed.setIfInBounds i true) (a.put oi.dst v) w → wpAnyU P md ops Q S c (fuel + 1) listed a w := by
  intro fuel
  induction fuel with
  | zero =>
    intro listed a w _ hr hy hS H
    refine ⟨fun h => (by rw [h] at hr; cases hr), fun j hj => ?_⟩
    by_cases hji : j = i
    · subst hji; exact hy.wpOp hi (by rw [if_neg (Ne.symm hci)]; exact ⟨hS, H⟩)
    · have := ready_mono hj hji
      rw [H.1] at this
      cases this
  | succ fuel ih =>
    intro listed a w hfree hr hy hS H
    refine ⟨fun h => (by rw [h] at hr; cases hr), fun j hj => ?_⟩
    by_cases hji : j = i
    · subst hji; exact hy.wpOp hi (by rw [if_neg (Ne.symm hci)]; exact ⟨hS, H⟩)
    · have h1 := H.2 j (ready_mono hj hji)
      obtain ⟨hjun, oj, hoj, hall⟩ := mem_ready.1 hj
      have hnot := waits_not hr hall
      have h2 := wpOp_put hoj (hfree j oj hoj hji hjun hnot) (fun cs b => hsel i oi cs b hi) (fun cs b => hsel j oj cs b hoj) hQ hy h1
      by_cases hjc : j = c
      · simp only [if_pos hjc] at h2 ⊢
        refine wpOp_mono (fun a' w' h3 => wpAny_first hi hsel hQ fuel (listed.setIfInBounds j true) a' w' (free_next hjun hfree) (ready_mono hr (Ne.symm hji)) h3.1 ?_) h2
        rw [Array.setIfInBounds_comm _ _ hji]
        exact h3.2
      · simp only [if_neg hjc] at h2 ⊢
        refine wpOp_mono (fun a' w' h3 => ⟨h3.2.1, ih (listed.setIfInBounds j true) a' w' (free_next hjun hfree) (ready_mono hr (Ne.symm hji)) h3.1 h3.2.1 ?_⟩) h2
        rw [Array.setIfInBounds_comm _ _ hji]
        exact h3.2.2

set_option maxRecDepth 100000 in
theorem wpAnyU_takeW {c i : Nat} {oi : Oper} {v : Value} {fuel : Nat} {listed : Array Bool} {a : Act} {w : World} (hi : ops[i]? = some oi) (hc : (c != i && Region.waitsFor md ops c i && Region.noSelect ops && Region.free md ops listed i && (Region.ready md ops listed).contains i) = true)
    (hQ : ∀ c a w, Q (.panic c) (a.put oi.dst v) w → Q (.panic c) a w) (hy : YieldsIf P ops S oi v a) (hS : S w)
    (h : wpAnyU P md ops Q S c fuel (listed.setIfInBounds i true) (a.put oi.dst v) w) : wpAnyU P md ops Q S c (fuel + 1) listed a w := by
  simp only [Bool.and_eq_true, bne_iff_ne] at hc
  obtain ⟨⟨⟨⟨h1, h2⟩, h3⟩, h4⟩, h5⟩ := hc
  exact wpAnyU_firstW hi (Region.noSelect_spec h3) hQ h1 h2 fuel listed a w (Region.free_spec hi h4) (by simpa using h5) hy hS h
set_option maxRecDepth 100000 in
theorem wpAnyU_takeY {c i : Nat} {oi : Oper} {v : Value} {fuel : Nat} {listed : Array Bool} {a : Act} {w : World} (hi : ops[i]? = some oi) (hc : (c != i && Region.noSelect ops && Region.free md ops listed i && (Region.ready md ops listed).contains i) = true)
    (hQ : ∀ c a w, Q (.panic c) (a.put oi.dst v) w → Q (.panic c) a w) (hy : Yields P ops oi v a) (hS : S w)
    (h : wpAnyU P md ops Q S c fuel (listed.setIfInBounds i true) (a.put oi.dst v) w) : wpAnyU P md ops Q S c (fuel + 1) listed a w := by
  simp only [Bool.and_eq_true, bne_iff_ne] at hc
  obtain ⟨⟨⟨h1, h3⟩, h4⟩, h5⟩ := hc
  exact wpAnyU_firstY hi (Region.noSelect_spec h3) hQ h1 fuel listed a w (Region.free_spec hi h4) (by simpa using h5) hy hS h
/-- number c alone may come up: behind it S is no longer asked for -/
theorem wpAnyU_at {c : Nat} {o : Oper} {fuel : Nat} {listed : Array Bool} {a : Act} {w : World} (ho : ops[c]? = some o) (hr : Region.ready md ops listed = [c]) (hw : Region.wanted o (yielded ops a.tmps) = true)
    (h : ∀ K : Act → World → Prop, (∀ a' w', wpAny P md ops Q fuel (listed.setIfInBounds c true) a' w' → K a' w') → o.wp P a w K Q) : wpAnyU P md ops Q S c (fuel + 1) listed a w := by
  refine ⟨fun h0 => (by rw [hr] at h0; cases h0), fun i hi => ?_⟩
  rw [hr] at hi
  obtain rfl := List.mem_singleton.1 hi
  simp only [if_true]
  unfold wpOp
  simp only [ho, hw, if_true]
  exact .inl (h _ fun _ _ h => h)
/-- .. and so on behind it: the one operation that may come up -/
theorem wpAny_at {c : Nat} {o : Oper} {fuel : Nat} {listed : Array Bool} {a : Act} {w : World} (ho : ops[c]? = some o) (hr : Region.ready md ops listed = [c]) (hw : Region.wanted o (yielded ops a.tmps) = true)
    (h : ∀ K : Act → World → Prop, (∀ a' w', wpAny P md ops Q fuel (listed.setIfInBounds c true) a' w' → K a' w') → o.wp P a w K Q) : wpAny P md ops Q (fuel + 1) listed a w := by
  refine ⟨fun h0 => (by rw [hr] at h0; cases h0), fun i hi => ?_⟩
  rw [hr] at hi
  obtain rfl := List.mem_singleton.1 hi
  unfold wpOp
  simp only [ho, hw, if_true]
  exact .inl (h _ fun _ _ h => h)
theorem wpAny_takeY {i : Nat} {oi : Oper} {v : Value} {fuel : Nat} {listed : Array Bool} {a : Act} {w : World} (hi : ops[i]? = some oi) (hc : (Region.noSelect ops && Region.free md ops listed i && (Region.ready md ops listed).contains i) = true)
    (hQ : ∀ c a w, Q (.panic c) (a.put oi.dst v) w → Q (.panic c) a w) (hy : Yields P ops oi v a)
    (h : wpAny P md ops Q fuel (listed.setIfInBounds i true) (a.put oi.dst v) w) : wpAny P md ops Q (fuel + 1) listed a w := by
  simp only [Bool.and_eq_true] at hc
  obtain ⟨⟨h3, h4⟩, h5⟩ := hc
  exact wpAny_take hi h3 h4 h5 hQ hy h
theorem wp_region_until {id : Nat} {a : Act} {w : World} (c : Nat) (hm : P.follows .mixedOrders = true) (hS : S w.drew)
    (h : S w.drew → wpAnyU P .any ops Q S c ops.size (Array.replicate ops.size false) a w.drew) : (Code.region id ops true).wp P Q a w :=
  wp_region_any hm (wpAny_of_until _ _ _ _ (h hS))
end
end Go.Sh
/-
  shallotlaw18.puts: what it is handed, and its first kind (Emit). Conditions: the sizes that slices can have.
-/
namespace Go.Proofs.YtkmcjjoicpgjfaaDoor
open Go Go.RowKit Go.Sh

/-- number i alone may come up, ahead of number c: S is to be shown anew -/
theorem wpAnyU_one {P : Program} {ops : Array Oper} {Q : Exit → Act → World → Prop} {md : Region.Mode} {S : World → Prop} {c i : Nat} {o : Oper} {fuel : Nat} {listed : Array Bool} {a : Act} {w : World} (ho : ops[i]? = some o) (hci : i ≠ c) (hr : Region.ready md ops listed = [i]) (hw : Region.wanted o (yielded ops a.tmps) = true)
    (h : ∀ K : Act → World → Prop, (∀ a' w', S w' → wpAnyU P md ops Q S c fuel (listed.setIfInBounds i true) a' w' → K a' w') → o.wp P a w K Q) : wpAnyU P md ops Q S c (fuel + 1) listed a w := by
  refine ⟨fun h0 => (by rw [hr] at h0; cases h0), fun j hj => ?_⟩
  rw [hr] at hj
  obtain rfl := List.mem_singleton.1 hj
  simp only [if_neg hci]
  unfold wpOp
  simp only [ho, hw, if_true]
  exact .inl (h _ fun _ _ h1 h2 => ⟨h1, h2⟩)
/-- one call of a builder -/
structure Ac where
  kind : Int
  at_ : Int
  to_ : Int
  code : List Ins
  text : List UInt8
  stops : List Sp
  spec : Snd
/-- where its slices lie -/
structure Apd where
  A1 : Option Addr
  n1 : Nat
  c1 : Nat
  A2 : Option Addr
  n2 : Nat
  c2 : Nat
  A3 : Option Addr
  n3 : Nat
  c3 : Nat
  A4 : Option Addr
  n4 : Nat
  c4 : Nat
def acs (e : Apd) (a : Ac) : Array Value := #[.int .i64 a.kind, .int .i64 a.at_, .int .i64 a.to_, .slice e.A1 e.n1 e.c1, .slice e.A2 e.n2 e.c2, .slice e.A3 e.n3 e.c3, .int .i64 a.spec.msg, .slice e.A4 e.n4 e.c4, .int .i64 a.spec.blk]
structure AR (w : World) (B : Nat) (e : Apd) (a : Ac) : Prop where
  code : RR w B 3 e.A1 e.n1 (a.code.map Ins.cells)
  text : RB w B e.A2 e.n2 a.text
  stops : RR w B 3 e.A3 e.n3 (a.stops.map Sp.cells)
  rts : RI w B e.A4 e.n4 a.spec.rts
  b1 : e.n1 ≤ 1048576
  b2 : e.n2 ≤ 1048576
  b3 : e.n3 ≤ 1048576
  b4 : e.n4 ≤ 1048576
theorem AR.below {w w' : World} {B : Nat} {e : Apd} {a : Ac} (h : AR w B e a) (hb : Below B w w') : AR w' B e a :=
  ⟨h.code.below hb, h.text.below hb, h.stops.below hb, h.rts.below hb, h.b1, h.b2, h.b3, h.b4⟩
/-- the program in the law's own block -/
def BlkW (w : World) (b : Nat) (d : Pad) (p : Prg) : Prop := w.heap[b]? = some (.cells (pcs d p) 30 (0, 0))
/-- the law's state: the builder and the law's own program hold one program, in rows apart -/
structure LS (w : World) (b g base : Nat) (F : Nat → Prop) (p : Prg) : Prop where
  st : ∃ (Sb Sw : Nat → Prop) (d t d' : Pad), BlkB w b d p ∧ PO w base Sb d t p ∧ BlkW w g d' p ∧ PO w base Sw d' d' p ∧ (∀ k, Sb k → ¬ Sw k) ∧ ∀ k, F k → k < w.heap.size ∧ k ≠ b ∧ k ≠ g ∧ ¬ Sb k ∧ ¬ Sw k
  lb : b < base
  lg : g < base
  ne : b ≠ g
  bs : base ≤ w.heap.size
/-- what lay there ahead of g0, and the blocks F, stay as they were -/
def Stay (F : Nat → Prop) (g0 : Nat) (w w' : World) : Prop := Below g0 w w' ∧ ∀ k, F k → w'.heap[k]? = w.heap[k]?
set_option maxHeartbeats 2000000 in
set_option maxRecDepth 100000 in
theorem puts1_any (b g base g0 B : Nat) (F : Nat → Prop) (p : Prg) (e : Apd) (a : Ac) (w : World) (hs : LS w b g base F p) (ha : AR w B e a) (hk : a.kind = 1) (hB : B ≤ g0) (hb : g0 ≤ b) (hg : g0 ≤ g) (hn : p.code.length ≤ 1048576) :
    Calls Tryd.prog 11 #[.pointer (some ⟨b, 0, none⟩), .pointer (some ⟨g, 0, none⟩), .agg (acs e a)] w fun x w' => x = .returned (.bool true) ∧ LS w' b g base F { p with code := p.code ++ a.code } ∧ Stay F g0 w w' := by
  obtain ⟨⟨Sb, Sw, d, t, d', hbb, hpb, hww, hpw, hap, hF⟩, hlb, hlg, hne, hbs⟩ := hs
  have HFF := Lib.hid hF
  clear hF
  have hba := (Below.refl w.heap.size w).alloc (Nat.le_refl _) (.cells (acs e a) 45)
  have hnew := heap_alloc_new w (.cells (acs e a) 45)
  have hsa : (w.alloc (.cells (acs e a) 45)).heap.size = w.heap.size + 1 := by simp
  have HNEW := Lib.hid hnew
  have HPB := Lib.hid (hpb.later hba)
  have HPW := Lib.hid (hpw.later hba)
  have HBB := Lib.hid (hbb.below hba hbb.lt)
  have hgs : g < w.heap.size := (Array.getElem?_eq_some_iff.1 hww).1
  have hbsz : b < w.heap.size := hbb.lt
  have HWW := Lib.hid (show BlkW _ g d' p from (hba.block g hgs).trans hww)
  have HAR := Lib.hid (ha.below (hba.mono (by omega)))
  have HAP := Lib.hid hap
  have HBA := Lib.hid hba
  have hlc : p.code.length = d.n1 := hpb.lc
  have hlc' : p.code.length = d'.n1 := hpw.lc
  have hrd := (RR.reads ha.code (by decide)).below (hba.mono (show B ≤ w.heap.size by omega))
  have HRD := Lib.hid (show Reads (w.alloc (.cells (acs e a) 45)) B 3 e.A1 e.n1 (inv a.code) from hrd)
  have hb1 := ha.b1
  clear hba hnew hpb hpw hbb hww ha hap hrd
  have HK := Lib.hid hk
  clear hk
  unfold acs at *
  go_enter Tryd.func11, Tryd.ntmps11
  go_upto_region 1 with fail
  generalize hwa : w.alloc (.cells #[.int .i64 a.kind, .int .i64 a.at_, .int .i64 a.to_, .slice e.A1 e.n1 e.c1, .slice e.A2 e.n2 e.c2, .slice e.A3 e.n3 e.c3, .int .i64 a.spec.msg, .slice e.A4 e.n4 e.c4, .int .i64 a.spec.blk] 45) = wa at *
  obtain ⟨q, hq⟩ : ∃ q, w.heap.size = q := ⟨_, rfl⟩
  rw [hq] at hsa HNEW HBA HFF hgs hbsz hbs ⊢
  have HQ := Lib.hid hq
  have HSA := Lib.hid hsa
  clear hwa hq
  have k0 : wa.cell? ⟨q, 0, none⟩ = some (.int .i64 1) := by rw [blk_cell HNEW.out, ← HK.out]; rfl
  have k3 : wa.cell? ⟨q, 3, none⟩ = some (.slice e.A1 e.n1 e.c1) := by rw [blk_cell HNEW.out]; rfl
  have hlitb : (wa.alloc (.cells #[] 33)).ownsRow (q + 1) 33 3 (.slice (some ⟨q + 1, 0, none⟩) 0 0) 0 [] := by
    have := World.ownsRow_lit (base := q + 1) (e := 33) (size := 3) wa #[] 0 (by omega) (by simp) rfl
    rwa [hsa] at this
  have HLT := Lib.hid hlitb
  have HRD2 := Lib.hid (HRD.out.alloc (show B ≤ wa.heap.size by omega) (.cells #[] 33))
  have HBL := Lib.hid ((Below.refl (q + 1) wa).alloc (by omega) (.cells #[] 33))
  have hbsl : q + 1 ≤ (wa.alloc (.cells #[] 33)).heap.size := by simp; omega
  clear hlitb
  go_wp2_with (at_builtin; refine wl_app TIn rfl (.tmp 16) (.tmp 18) rfl (.slice (some ⟨q + 1, 0, none⟩) 0 0) rfl e.A1 e.n1 e.c1 rfl (q + 1) 0 [] HLT.out B (inv a.code) HRD2.out (inv_one _) (by omega) (by omega) hbsl ?_)
  intro A7 c7 w3 hown hg3 _
  try simp only [Nat.zero_add, List.nil_append] at hown ⊢
  have hb3 : Below (q + 1) wa w3 := HBL.out.grown hg3 hbsl (fun j hj => by injection hj with hj; have hj : q + 1 = j := hj; omega)
  have hz0 := hb3.size
  rw [hsa] at hz0
  have HPB3 := Lib.hid (HPB.out.kept (w' := w3.drew) (fun j hj => (hb3.block j (by have := (HPB.out.lo j hj).2; omega))) (fun _ h => h) fun j hj => ⟨(HPB.out.lo j hj).1, by have := (HPB.out.lo j hj).2; show j < w3.heap.size; omega⟩)
  have hbb3 : BlkB w3 b d p := HBB.out.below hb3 (by omega)
  have HBB3 := Lib.hid (show BlkB w3.drew b d p from hbb3)
  clear hbb3
  have hww3 : BlkW w3 g d' p := (hb3.block g (by omega)).trans HWW.out
  have kw : w3.cell? ⟨g, 0, none⟩ = some (.slice d'.A1 d'.n1 d'.c1) := blk_cell hww3
  have hz3 := hb3.size
  have HEM := Lib.hid (Emit_any b base Sb d t p A7 e.n1 c7 w3.heap.size a.code w3.drew HBB3.out HPB3.out (show Reads w3.drew w3.heap.size 3 A7 e.n1 (inv a.code) from Reads.of_own hown) hlb (show base ≤ w3.heap.size by omega) (by omega))
  have HW3 := Lib.hid hww3
  have HOW := Lib.hid hown
  have HB3 := Lib.hid hb3
  clear hown hg3 hb3 hww3 k0 k3 HLT HRD2 HBL hbsl
  have hnn : ((d.n1 : Int) != (d'.n1 : Int)) = false := by rw [← hlc, ← hlc']; simp
  go_wp2_with fail
  have HW3d := Lib.hid (show w3.drew.heap[g]? = _ from HW3.out)
  have hg3 : g < w3.drew.heap.size := by show g < w3.heap.size; omega
  go_region_held3 (fun w' => w'.cell? ⟨g, 0, none⟩ = some (.slice d'.A1 d'.n1 d'.c1)) (go_keep) (first | (go_at_call 10; refine HEM.out.mono ?_; rintro x w5 ⟨rfl, S', d2, t2, r1, r2, r3, r4⟩; have kq : w5.cell? ⟨g, 0, none⟩ = some (.slice d'.A1 d'.n1 d'.c1) := blk_cell ((r4.block g hg3 (by intro h; injection h with h; exact hne h.symm)).trans HW3d.out)))
  have hown5 : w5.ownsRow (q + 1) 33 3 (.slice A7 e.n1 c7) e.n1 (inv a.code) := (show w3.drew.ownsRow (q + 1) 33 3 (.slice A7 e.n1 c7) e.n1 (inv a.code) from HOW.out).kept r4 (.inr fun h => by have := (HOW.out.lt b h).1; omega)
  have hz5 : w3.heap.size ≤ w5.heap.size := r4.size
  have HOW5 := Lib.hid hown5
  have R1 := Lib.hid r1
  have R2 := Lib.hid r2
  have R3 := Lib.hid (show ∀ k, S' k → Sb k ∨ w3.heap.size ≤ k from r3)
  have R4 := Lib.hid r4
  have hml : a.code.length = e.n1 := by have := HRD.out.1; rw [inv_len] at this; omega
  have KQ := Lib.hid kq
  clear hown5 r1 r2 r3 r4 kq HEM kw HW3d hg3
  go_wp2_with fail
  go_loopw [31, 8] (fun i _ wr => ∃ (j : Nat) (l' : List Ins), j ≤ e.n1 ∧ i = .int .i64 (j : Int) ∧ l'.length = e.n1 ∧ wr.ownsRow (q + 1) 33 3 (.slice A7 e.n1 c7) e.n1 (inv l') ∧ w5.grownBy wr (Value.slice A7 e.n1 c7).ownBlock) (fun i _ _ => e.n1 - (intOf i).toNat)
  case atStart => exact ⟨0, a.code, by omega, rfl, hml, HOW5.out, World.grownBy.refl _ _⟩
  case round =>
    obtain ⟨j, l', hj, rfl, hl', hown, hgr⟩ := hrel
    by_cases hlt : j < e.n1
    · obtain ⟨gg, rfl⟩ := own_at hown (by omega)
      have hca := own_cellN hown (inv_at l' j (by omega))
      have hfa := own_freeN hown (j * 3 + 1)
      have hset := own_setN hown (j * 3 + 1) (.int .i64 (wrap64 ((iat l' j).a + 1)))
      rw [inv_set l' j _ (by omega)] at hset
      have HSET := Lib.hid hset
      have HGR := Lib.hid (show w5.grownBy (wr.setCell ⟨gg, j * 3 + 1, none⟩ (.int .i64 (wrap64 ((iat l' j).a + 1)))) (some gg) from (show w5.grownBy wr (some gg) from hgr).trans (grown_setCell wr gg (j * 3 + 1) _))
      have HL' := Lib.hid (show (l'.set j { iat l' j with a := wrap64 ((iat l' j).a + 1) }).length = e.n1 by rw [List.length_set]; exact hl')
      clear hset hgr hown hl'
      generalize l'.set j { iat l' j with a := wrap64 ((iat l' j).a + 1) } = l2 at *
      generalize (iat l' j).a = ia at *
      go_wp2_with fail
      exact ⟨⟨j + 1, l2, by omega, by go_num, HL'.out, HSET.out, HGR.out⟩, by simp [intOf]; omega⟩
    · obtain rfl : j = e.n1 := by omega
      have hbaw : ∀ k, k < q + 1 → k ≠ b → wr.heap[k]? = wa.heap[k]? := fun k hk hkb => by
        have h1 := hgr.block k (by omega) (by intro h; have := (HOW.out.lt k h.symm).1; omega)
        have h2 := R4.out.block k (show k < w3.heap.size by omega) (by intro h; injection h with h; exact hkb h)
        exact h1.trans ((show w5.heap[k]? = w3.heap[k]? from h2).trans (HB3.out.block k hk))
      have hwz : w5.heap.size ≤ wr.heap.size := hgr.size
      have hgw : BlkW wr g d' p := (hbaw g (by omega) (fun h => hne h.symm)).trans HWW.out
      have hqw := (hbaw q (by omega) (by omega)).trans HNEW.out
      have hpww : PO wr base Sw d' d' p := HPW.out.kept (fun k hk => hbaw k (by have := (HPW.out.lo k hk).2; omega) (by have := (HPW.out.lo k hk).1; omega)) (fun _ h => h) fun k hk => ⟨(HPW.out.lo k hk).1, by have := (HPW.out.lo k hk).2; omega⟩
      have hbB : Below B wa wr := ⟨hgr.os.trans (R4.out.os.trans HB3.out.os), hgr.tape.trans (R4.out.tape.trans HB3.out.tape), hgr.output.trans (R4.out.output.trans HB3.out.output), by omega, fun k hk => hbaw k (by omega) (by omega)⟩
      have hrdw : Reads wr B 3 e.A1 e.n1 (inv a.code) := HRD.out.below hbB
      obtain ⟨z, hz⟩ : ∃ z, wr.heap.size = z := ⟨_, rfl⟩
      rw [hz] at hwz
      have KW0 := Lib.hid (show wr.drew.cell? ⟨g, 0, none⟩ = some (.slice d'.A1 d'.n1 d'.c1) from blk_cell hgw)
      have KW3 := Lib.hid (show wr.drew.cell? ⟨q, 3, none⟩ = some (.slice e.A1 e.n1 e.c1) from blk_cell hqw)
      have hbA : Below z wr (wr.drew.alloc (.cells #[] 33)) := ((Below.refl z wr).drew).alloc (by show z ≤ wr.heap.size; omega) _
      have hgA : BlkW (wr.drew.alloc (.cells #[] 33)) g d' p := (hbA.block g (by omega)).trans hgw
      have hqA := (hbA.block q (by omega)).trans hqw
      have KA0 := Lib.hid (show (wr.drew.alloc (.cells #[] 33)).cell? ⟨g, 0, none⟩ = some (.slice d'.A1 d'.n1 d'.c1) from blk_cell hgA)
      have KA3 := Lib.hid (show (wr.drew.alloc (.cells #[] 33)).cell? ⟨q, 3, none⟩ = some (.slice e.A1 e.n1 e.c1) from blk_cell hqA)
      have hlA : (wr.drew.alloc (.cells #[] 33)).ownsRow z 33 3 (.slice (some ⟨z, 0, none⟩) 0 0) 0 [] := by
        have := World.ownsRow_lit (base := z) (e := 33) (size := 3) wr.drew #[] 0 (by show z ≤ wr.heap.size; omega) (by decide) rfl
        rwa [show wr.drew.heap.size = z from hz] at this
      have hsA : (wr.drew.alloc (.cells #[] 33)).heap.size = z + 1 := by simp [show wr.drew.heap.size = z from hz]
      have hrw : Reads (wr.drew.alloc (.cells #[] 33)) z 3 d'.A1 d'.n1 (inv p.code) := by
        have h := Reads.of_own hpww.code.1
        rw [hz] at h
        exact h.below hbA
      obtain ⟨A9, c9, w9, hrun1, hown1, hg1, _⟩ := run_app (P := Tryd.prog) TIn (wr.drew.alloc (.cells #[] 33)) 22 z _ 0 [] hlA z d'.A1 d'.n1 d'.c1 (inv p.code) hrw (inv_one _) (by omega) (by omega) (by omega)
      simp only [Nat.zero_add, List.nil_append] at hrun1 hown1
      have hb9 : Below z wr w9 := hbA.grown hg1 (by omega) (fun j hj => by injection hj with hj; have hj : z = j := hj; omega)
      have hz9 : z ≤ w9.heap.size := by have := hb9.size; omega
      obtain ⟨A8, c8, w8, hrun2, hown2, hg2, _⟩ := run_app (P := Tryd.prog) TIn w9 22 z _ d'.n1 (inv p.code) hown1 B e.A1 e.n1 e.c1 (inv a.code) (hrdw.below (hb9.mono (by omega))) (inv_one _) (by omega) (by omega) hz9
      have hb8 : Below z wr w8 := hb9.grown hg2 hz9 (fun j hj => (hown1.lt j hj).1)
      have hg9 : BlkW w9 g d' p := (hb9.block g (by omega)).trans hgw
      have hq9 := (hb9.block q (by omega)).trans hqw
      have hg8 : BlkW w8 g d' p := (hb8.block g (by omega)).trans hgw
      have hq8 := (hb8.block q (by omega)).trans hqw
      have KB0 := Lib.hid (show w9.cell? ⟨g, 0, none⟩ = some (.slice d'.A1 d'.n1 d'.c1) from blk_cell hg9)
      have KB3 := Lib.hid (show w9.cell? ⟨q, 3, none⟩ = some (.slice e.A1 e.n1 e.c1) from blk_cell hq9)
      have KC0 := Lib.hid (show w8.cell? ⟨g, 0, none⟩ = some (.slice d'.A1 d'.n1 d'.c1) from blk_cell hg8)
      have KC3 := Lib.hid (show w8.cell? ⟨q, 3, none⟩ = some (.slice e.A1 e.n1 e.c1) from blk_cell hq8)
      have FC0 := Lib.hid (show w8.frozen? ⟨g, 0, none⟩ = false from frozen_of_row _ _ 0 _ _ hg8)
      have hsz0 : wr.drew.heap.size = z := hz
      have HRUN1 := Lib.hid hrun1
      have HRUN2 := Lib.hid hrun2
      have HG8 := Lib.hid hg8
      have HOW8 := Lib.hid hown2
      have HB8 := Lib.hid hb8
      have HBAW := Lib.hid hbaw
      have HPWW := Lib.hid hpww
      have HGR := Lib.hid hgr
      have HZ := Lib.hid hz
      clear hrw hrun1 hrun2 hown1 hown2 hg1 hg2 hb9 hb8 hg9 hq9 hg8 hq8 hgw hqw hpww hbaw hbB hrdw hbA hgA hqA hlA hown hgr
      go_upto_region 11 with fail
      refine wp_region_noPanic ?_
      refine wp_region_until (S := fun W => W.cell? ⟨g, 0, none⟩ = some (.slice d'.A1 d'.n1 d'.c1) ∧ W.cell? ⟨q, 3, none⟩ = some (.slice e.A1 e.n1 e.c1)) 12 (by kernel_rfl) ?_ (fun hHeld => ?_)
      · (try dsimp only)
        exact ⟨KW0.out, KW3.out⟩
      refine wpAnyU_takeY (i := 0) (v := ?v1) rfl (by kernel_rfl) (fun _ _ _ h => h) (Or.inl ⟨by rfl, ?y1⟩) (by assumption) ?r1
      case y1 => (intro W; first | (go_simp; done) | (go_simp; with_reducible rfl))
      (try simp only [List.getElem_toArray, List.getElem_cons_zero, Act.put, List.setIfInBounds_toArray, List.set_cons_zero, List.set_cons_succ])
      refine wpAnyU_takeY (i := 2) (v := ?v2) rfl (by kernel_rfl) (fun _ _ _ h => h) (Or.inl ⟨by rfl, ?y2⟩) (by assumption) ?r2
      case y2 => (intro W; first | (go_simp; done) | (go_simp; with_reducible rfl))
      (try simp only [List.getElem_toArray, List.getElem_cons_zero, List.getElem_cons_succ, Act.put, List.setIfInBounds_toArray, List.set_cons_zero, List.set_cons_succ])
      refine wpAnyU_takeY (i := 3) (v := ?v3) rfl (by kernel_rfl) (fun _ _ _ h => h) (Or.inl ⟨by rfl, ?y3⟩) (by assumption) ?r3
      case y3 => (intro W; first | (go_simp; done) | (go_simp; with_reducible rfl))
      (try simp only [List.getElem_toArray, List.getElem_cons_zero, List.getElem_cons_succ, Act.put, List.setIfInBounds_toArray, List.set_cons_zero, List.set_cons_succ])
      refine wpAnyU_takeY (i := 4) (v := ?v4) rfl (by kernel_rfl) (fun _ _ _ h => h) (Or.inl ⟨by rfl, ?y4⟩) (by assumption) ?r4
      case y4 => (intro W; first | (go_simp; done) | (go_simp; with_reducible rfl))
      (try simp only [List.getElem_toArray, List.getElem_cons_zero, List.getElem_cons_succ, Act.put, List.setIfInBounds_toArray, List.set_cons_zero, List.set_cons_succ])
      refine wpAnyU_takeW (i := 5) (v := ?v5) rfl (by kernel_rfl) (fun _ _ _ h => h) (Or.inl ⟨by rfl, ?y5⟩) (by assumption) ?r5
      case y5 => (intro W hSW; (try dsimp only at hSW); first | (go_simp; done) | (go_simp; with_reducible rfl))
      (try simp only [List.getElem_toArray, List.getElem_cons_zero, List.getElem_cons_succ, Act.put, List.setIfInBounds_toArray, List.set_cons_zero, List.set_cons_succ])
      refine wpAnyU_takeY (i := 7) (v := ?v6) rfl (by kernel_rfl) (fun _ _ _ h => h) (Or.inl ⟨by rfl, ?y6⟩) (by assumption) ?r6
      case y6 => (intro W; first | (go_simp; done) | (go_simp; with_reducible rfl))
      (try simp only [List.getElem_toArray, List.getElem_cons_zero, List.getElem_cons_succ, Act.put, List.setIfInBounds_toArray, List.set_cons_zero, List.set_cons_succ])
      refine wpAnyU_takeW (i := 8) (v := ?v7) rfl (by kernel_rfl) (fun _ _ _ h => h) (Or.inl ⟨by rfl, ?y7⟩) (by assumption) ?r7
      case y7 => (intro W hSW; (try dsimp only at hSW); first | (go_simp; done) | (go_simp; with_reducible rfl))
      (try simp only [List.getElem_toArray, List.getElem_cons_zero, List.getElem_cons_succ, Act.put, List.setIfInBounds_toArray, List.set_cons_zero, List.set_cons_succ])
      refine wpAnyU_one (i := 1) rfl (by decide) (by kernel_rfl) (by rfl) (fun K hK => ?_)
      have HKK := Lib.hid hK
      clear hK
      go_simp
      refine HKK.out _ _ ⟨KA0.out, KA3.out⟩ ?_
      clear HKK K
      (try simp only [List.getElem_toArray, List.getElem_cons_zero, List.getElem_cons_succ, Act.put, List.setIfInBounds_toArray, List.set_cons_zero, List.set_cons_succ])
      refine wpAnyU_one (i := 6) rfl (by decide) (by kernel_rfl) (by rfl) (fun K hK => ?_)
      have HKK := Lib.hid hK
      clear hK
      refine Lib.wp_append_run _ (.tmp 44) (.tmp 48) 22 22 rfl _ _ rfl rfl _ _ HRUN1.out ?_
      refine HKK.out _ _ ⟨KB0.out, KB3.out⟩ ?_
      clear HKK K
      (try simp only [List.getElem_toArray, List.getElem_cons_zero, List.getElem_cons_succ, Act.put, List.setIfInBounds_toArray, List.set_cons_zero, List.set_cons_succ])
      refine wpAnyU_one (i := 9) rfl (by decide) (by kernel_rfl) (by rfl) (fun K hK => ?_)
      have HKK := Lib.hid hK
      clear hK
      refine Lib.wp_append_run _ (.tmp 49) (.tmp 51) 22 22 rfl _ _ rfl rfl _ _ HRUN2.out ?_
      refine HKK.out _ _ ⟨KC0.out, KC3.out⟩ ?_
      clear HKK K
      (try simp only [List.getElem_toArray, List.getElem_cons_zero, List.getElem_cons_succ, Act.put, List.setIfInBounds_toArray, List.set_cons_zero, List.set_cons_succ])
      have hHeld2 : w8.cell? ⟨g, 0, none⟩ = some (.slice d'.A1 d'.n1 d'.c1) ∧ w8.cell? ⟨q, 3, none⟩ = some (.slice e.A1 e.n1 e.c1) := ⟨KC0.out, KC3.out⟩
      refine wpAnyU_takeY (i := 10) (v := ?v8) rfl (by kernel_rfl) (fun _ _ _ h => h) (Or.inl ⟨by rfl, ?y8⟩) (by assumption) ?r8
      case y8 => (intro W; first | (go_simp; done) | (go_simp; with_reducible rfl))
      (try simp only [List.getElem_toArray, List.getElem_cons_zero, List.getElem_cons_succ, Act.put, List.setIfInBounds_toArray, List.set_cons_zero, List.set_cons_succ])
      refine wpAnyU_takeY (i := 11) (v := ?v9) rfl (by kernel_rfl) (fun _ _ _ h => h) (Or.inl ⟨by rfl, ?y9⟩) (by assumption) ?r9
      case y9 => (intro W; first | (go_simp; done) | (go_simp; with_reducible rfl))
      (try simp only [List.getElem_toArray, List.getElem_cons_zero, List.getElem_cons_succ, Act.put, List.setIfInBounds_toArray, List.set_cons_zero, List.set_cons_succ])
      refine wpAnyU_at (c := 12) rfl (by kernel_rfl) (by rfl) (fun K hK => ?_)
      have HK := Lib.hid hK
      clear hK
      have kc := KC0.out
      have fc := FC0.out
      go_simp
      refine HK.out _ _ ?_
      clear HK K
      (try simp only [List.getElem_toArray, List.getElem_cons_zero, List.getElem_cons_succ, Act.put, List.setIfInBounds_toArray, List.set_cons_zero, List.set_cons_succ])
      refine wpAny_done (by kernel_rfl) ?_ _
      refine NoPanic.normal ?_
      clear kc fc hHeld hHeld2 HRUN1 HRUN2 KA0 KA3 KB0 KB3 KC0 KC3 KW0 KW3 FC0
      have hz8 : z ≤ w8.heap.size := by have := HB8.out.size; rw [HZ.out] at this; exact this
      have hws : (w8.setCell ⟨g, 0, none⟩ (.slice A8 (d'.n1 + e.n1) c8)).heap.size = w8.heap.size := by simp
      have hfar : ∀ k, k ≠ g → (w8.setCell ⟨g, 0, none⟩ (.slice A8 (d'.n1 + e.n1) c8)).heap[k]? = w8.heap[k]? := fun k hk => Below.heap_setCell w8 ⟨g, 0, none⟩ _ k hk
      have FAR := Lib.hid hfar
      have HWS := Lib.hid hws
      have HBW := Lib.hid (show BlkW (w8.setCell ⟨g, 0, none⟩ (.slice A8 (d'.n1 + e.n1) c8)) g { d' with A1 := A8, n1 := d'.n1 + e.n1, c1 := c8 } { p with code := p.code ++ a.code } from blk_set HG8.out _)
      have HOWF := Lib.hid (ownsRow_setCell_below (own_base HOW8.out (show base ≤ z by omega)) (a := ⟨g, 0, none⟩) (show g < base from hlg) (.slice A8 (d'.n1 + e.n1) c8))
      have HOS := Lib.hid (show (w8.setCell ⟨g, 0, none⟩ (.slice A8 (d'.n1 + e.n1) c8)).os = w8.os ∧ (w8.setCell ⟨g, 0, none⟩ (.slice A8 (d'.n1 + e.n1) c8)).tape = w8.tape ∧ (w8.setCell ⟨g, 0, none⟩ (.slice A8 (d'.n1 + e.n1) c8)).output = w8.output from ⟨(grown_setCell w8 g 0 _).os, (grown_setCell w8 g 0 _).tape, (grown_setCell w8 g 0 _).output⟩)
      clear hws hfar
      generalize w8.setCell ⟨g, 0, none⟩ (.slice A8 (d'.n1 + e.n1) c8) = W at *
      go_wp2_with fail
      go_ret
      have hgl : ∀ j, (Value.slice A7 e.n1 c7).ownBlock = some j → q + 1 ≤ j ∧ j < w3.heap.size := fun j hj => HOW.out.lt j hj
      have hWs : ∀ k, k < z → k ≠ g → W.heap[k]? = wr.heap[k]? := fun k hk hkg => (FAR.out k hkg).trans (HB8.out.block k hk)
      refine ⟨rfl, ⟨⟨S', fun k => Sw k ∨ (z ≤ k ∧ k < w8.heap.size), d2, t2, { d' with A1 := A8, n1 := d'.n1 + e.n1, c1 := c8 }, ?_, ?_, HBW.out, ?_, ?_, ?_⟩, hlb, hlg, hne, by rw [HWS.out]; omega⟩, ?_, ?_⟩
      · exact (hWs b (by omega) hne).trans ((HGR.out.block b (by omega) (by intro h; have := (hgl b h.symm).1; omega)).trans R1.out)
      · refine R2.out.kept (fun k hk => ?_) (fun _ h => h) fun k hk => ⟨(R2.out.lo k hk).1, by have := (R2.out.lo k hk).2; rw [HWS.out]; omega⟩
        have h1 := R2.out.lo k hk
        refine (hWs k (by omega) (by omega)).trans (HGR.out.block k h1.2 ?_)
        intro h
        have h2 := hgl k h.symm
        rcases R3.out k hk with h3 | h3
        · have := (HPB.out.lo k h3).2; omega
        · omega
      · have hp : PO W base (fun k => Sw k ∨ (z ≤ k ∧ k < w8.heap.size)) d' d' p := HPWW.out.kept (fun k hk => by
          have h1 := HPW.out.lo k hk
          exact hWs k (by omega) (by omega)) (fun _ h => .inl h) fun k hk => by
          rcases hk with hk | hk
          · have h1 := HPW.out.lo k hk; exact ⟨h1.1, by rw [HWS.out]; omega⟩
          · exact ⟨by omega, by rw [HWS.out]; exact hk.2⟩
        refine { hp with code := ⟨?_, fun j hj => ?_⟩, lc := ?_, k1 := own_cap HOWF.out }
        · rw [inv_app]
          exact HOWF.out
        · exact .inr (HOW8.out.lt j hj)
        · show (p.code ++ a.code).length = d'.n1 + e.n1
          rw [List.length_append, hml]; omega
      · intro k hk hk2
        have h1 := R2.out.lo k hk
        rcases hk2 with h | h
        · rcases R3.out k hk with h3 | h3
          · exact HAP.out k h3 h
          · have := (HPW.out.lo k h).2; omega
        · omega
      · intro k hk
        obtain ⟨f1, f2, f3, f4, f5⟩ := HFF.out k hk
        refine ⟨by rw [HWS.out]; omega, f2, f3, fun h => ?_, fun h => ?_⟩
        · rcases R3.out k h with h3 | h3
          · exact f4 h3
          · omega
        · rcases h with h | h
          · exact f5 h
          · omega
      · refine ⟨HOS.out.1.trans (HB8.out.os.trans (HGR.out.os.trans (R4.out.os.trans (HB3.out.os.trans HBA.out.os)))), HOS.out.2.1.trans (HB8.out.tape.trans (HGR.out.tape.trans (R4.out.tape.trans (HB3.out.tape.trans HBA.out.tape)))), HOS.out.2.2.trans (HB8.out.output.trans (HGR.out.output.trans (R4.out.output.trans (HB3.out.output.trans HBA.out.output)))), ?_, fun k hk => ?_⟩
        · rw [HWS.out, HQ.out]; omega
        · exact (hWs k (by omega) (by omega)).trans ((HBAW.out k (by omega) (by omega)).trans (HBA.out.block k (by omega)))
      · intro k hk
        obtain ⟨f1, f2, f3, f4, f5⟩ := HFF.out k hk
        exact (hWs k (by omega) f3).trans ((HBAW.out k (by omega) f2).trans (HBA.out.block k (by omega)))
end Go.Proofs.YtkmcjjoicpgjfaaDoor
/-
  shallotlaw18.puts, its second kind (Patch). Conditions: the sizes that slices can have.
-/
namespace Go.Proofs.YtkmcjjoicpgjfaaDoor
open Go Go.RowKit Go.Sh

theorem LS.drewN {w : World} {b g base : Nat} {F : Nat → Prop} {p : Prg} (h : LS w b g base F p) (k : Nat) : LS (w.drewN k) b g base F p := by
  obtain ⟨⟨Sb, Sw, d, t, d', h1, h2, h3, h4, h5⟩, h6, h7, h8, h9⟩ := h
  exact ⟨⟨Sb, Sw, d, t, d', h1, h2.kept (fun _ _ => rfl) (fun _ h => h) h2.lo, h3, h4.kept (fun _ _ => rfl) (fun _ h => h) h4.lo, h5⟩, h6, h7, h8, h9⟩
theorem LS.drew {w : World} {b g base : Nat} {F : Nat → Prop} {p : Prg} (h : LS w b g base F p) : LS w.drew b g base F p := by
  obtain ⟨⟨Sb, Sw, d, t, d', h1, h2, h3, h4, h5⟩, h6, h7, h8, h9⟩ := h
  exact ⟨⟨Sb, Sw, d, t, d', h1, h2.kept (fun _ _ => rfl) (fun _ h => h) h2.lo, h3, h4.kept (fun _ _ => rfl) (fun _ h => h) h4.lo, h5⟩, h6, h7, h8, h9⟩
/-- a store into the code's own row -/
theorem PO.setCode {w : World} {base gw c : Nat} {S : Nat → Prop} {d t : Pad} {p : Prg} (h : PO w base S d t p) (hA : d.A1 = some ⟨gw, 0, none⟩) (j : Nat) (v : Value) {l : List Ins} (hl : (inv p.code).set j v = inv l) (hll : l.length = p.code.length) (_ : c = 0) : PO (w.setCell ⟨gw, j, none⟩ v) base S d t { p with code := l } := by
  obtain ⟨lo, code, lc, lm, ⟨vm, hm, im⟩, lr, ⟨vr, hr, ir⟩, ls, ⟨vs, hsn, hl4, h3, is⟩, k1, k2, k3, k4⟩ := h
  have hc := code.1
  have hg := grown_setCell w gw j v
  have hob : (Value.slice d.A1 d.n1 t.c1).ownBlock = some gw := by rw [hA]; rfl
  have keep : ∀ {e size n : Nat} {v' : Value} {xs : List Value}, OwS w base S e size v' n xs → e ≠ 33 → OwS (w.setCell ⟨gw, j, none⟩ v) base S e size v' n xs := fun ho hne => ⟨ho.1.kept hg (by have := own_ne ho.1 hc hne; rwa [hob] at this), ho.2⟩
  refine ⟨fun k hk => ?_, ⟨?_, code.2⟩, by rw [← lc]; exact hll, lm, ⟨vm, keep hm (by decide), fun i hi => ?_⟩, lr, ⟨vr, keep hr (by decide), fun i hi => ?_⟩, ls, ⟨vs, keep hsn (by decide), hl4, h3, fun i hi => ?_⟩, k1, k2, k3, k4⟩
  · rw [show (w.setCell ⟨gw, j, none⟩ v).heap.size = w.heap.size by simp]; exact lo k hk
  · rw [hA] at hc ⊢
    have := own_setN hc j v
    rw [hl] at this
    exact this
  · obtain ⟨Ai, ni, ci, h1, h2⟩ := im i hi
    exact ⟨Ai, ni, ci, h1, keep h2 (by decide)⟩
  · obtain ⟨Ai, ni, ci, h1, h2, h3⟩ := ir i hi
    exact ⟨Ai, ni, ci, h1, keep h2 (by decide), h3⟩
  · obtain ⟨Ai, ni, ci, h1, h2, h3⟩ := is i hi
    exact ⟨Ai, ni, ci, h1, keep h2 (by decide), h3⟩
set_option maxHeartbeats 2000000 in
set_option maxRecDepth 100000 in
theorem putsBad_any (b g base g0 B : Nat) (F : Nat → Prop) (p : Prg) (e : Apd) (a : Ac) (w : World) (hs : LS w b g base F p) (ha : AR w B e a) (hk : a.kind = 2) (hx : a.at_ < 0 ∨ (p.code.length : Int) ≤ a.at_) (hB : B ≤ g0) (hb : g0 ≤ b) (_ : g0 ≤ g) (_ : p.code.length ≤ 1048576) :
    Calls Tryd.prog 11 #[.pointer (some ⟨b, 0, none⟩), .pointer (some ⟨g, 0, none⟩), .agg (acs e a)] w fun x w' => x = .returned (.bool true) ∧ LS w' b g base F p ∧ Stay F g0 w w' := by
  obtain ⟨⟨Sb, Sw, d, t, d', hbb, hpb, hww, hpw, hap, hF⟩, hlb, hlg, hne, hbs⟩ := hs
  have HFF := Lib.hid hF
  clear hF
  have hba := (Below.refl w.heap.size w).alloc (Nat.le_refl _) (.cells (acs e a) 45)
  have hnew := heap_alloc_new w (.cells (acs e a) 45)
  have hsa : (w.alloc (.cells (acs e a) 45)).heap.size = w.heap.size + 1 := by simp
  have HNEW := Lib.hid hnew
  have HPB := Lib.hid (hpb.later hba)
  have HPW := Lib.hid (hpw.later hba)
  have HBB := Lib.hid (hbb.below hba hbb.lt)
  have hgs : g < w.heap.size := (Array.getElem?_eq_some_iff.1 hww).1
  have hbsz : b < w.heap.size := hbb.lt
  have HWW := Lib.hid (show BlkW _ g d' p from (hba.block g hgs).trans hww)
  have HAR := Lib.hid (ha.below (hba.mono (by omega)))
  have HAP := Lib.hid hap
  have HBA := Lib.hid hba
  have hlc : p.code.length = d.n1 := hpb.lc
  have hlc' : p.code.length = d'.n1 := hpw.lc
  have hrd := (RR.reads ha.code (by decide)).below (hba.mono (show B ≤ w.heap.size by omega))
  have HRD := Lib.hid (show Reads (w.alloc (.cells (acs e a) 45)) B 3 e.A1 e.n1 (inv a.code) from hrd)
  have hb1 := ha.b1
  clear hba hnew hpb hpw hbb hww ha hap hrd
  have HK := Lib.hid hk
  clear hk
  unfold acs at *
  go_enter Tryd.func11, Tryd.ntmps11
  go_upto_region 1 with fail
  generalize hwa : w.alloc (.cells #[.int .i64 a.kind, .int .i64 a.at_, .int .i64 a.to_, .slice e.A1 e.n1 e.c1, .slice e.A2 e.n2 e.c2, .slice e.A3 e.n3 e.c3, .int .i64 a.spec.msg, .slice e.A4 e.n4 e.c4, .int .i64 a.spec.blk] 45) = wa at *
  obtain ⟨q, hq⟩ : ∃ q, w.heap.size = q := ⟨_, rfl⟩
  rw [hq] at hsa HNEW HBA HFF hgs hbsz hbs ⊢
  have HQ := Lib.hid hq
  have HSA := Lib.hid hsa
  clear hwa hq
  have k0 : wa.cell? ⟨q, 0, none⟩ = some (.int .i64 2) := by rw [blk_cell HNEW.out, ← HK.out]; rfl
  have k1 : wa.cell? ⟨q, 1, none⟩ = some (.int .i64 a.at_) := by rw [blk_cell HNEW.out]; rfl
  have k2 : wa.cell? ⟨q, 2, none⟩ = some (.int .i64 a.to_) := by rw [blk_cell HNEW.out]; rfl
  have HPA := Lib.hid (PatchBad_any b d p a.at_ a.to_ wa HBB.out (by rw [← hlc]; exact hx))
  have kw : wa.cell? ⟨g, 0, none⟩ = some (.slice d'.A1 d'.n1 d'.c1) := blk_cell HWW.out
  have hfin : LS wa b g base F p ∧ Stay F g0 w wa := ⟨⟨⟨Sb, Sw, d, t, d', HBB.out, HPB.out, HWW.out, HPW.out, HAP.out, fun k hk => by
    obtain ⟨f1, f2, f3, f4, f5⟩ := HFF.out k hk
    exact ⟨by omega, f2, f3, f4, f5⟩⟩, hlb, hlg, hne, by omega⟩, HBA.out.mono (by omega), fun k hk => HBA.out.block k (HFF.out k hk).1⟩
  have HFIN := Lib.hid hfin
  clear hfin
  go_wp2_with fail
  refine HPA.out.mono ?_
  rintro x w3 ⟨rfl, rfl⟩
  by_cases h0 : a.at_ < 0
  · clear hx
    go_wp2_with fail
    go_quiet (fail)
    go_wp2_with fail
    go_ret
    exact ⟨rfl, HFIN.out.1.drewN _, bl_drewN2 HFIN.out.2.1 _, HFIN.out.2.2⟩
  · have h1 : (d'.n1 : Int) ≤ a.at_ := by rw [← hlc']; exact hx.resolve_left h0
    clear hx
    go_wp2_with fail
    go_quiet (fail)
    go_wp2_with fail
    go_ret
    exact ⟨rfl, HFIN.out.1.drewN _, bl_drewN2 HFIN.out.2.1 _, HFIN.out.2.2⟩
set_option maxHeartbeats 2000000 in
set_option maxRecDepth 100000 in
theorem puts2_any (b g base g0 B : Nat) (F : Nat → Prop) (p : Prg) (e : Apd) (a : Ac) (w : World) (hs : LS w b g base F p) (ha : AR w B e a) (hk : a.kind = 2) (k : Nat) (hx : a.at_ = (k : Int)) (hkl : k < p.code.length) (hB : B ≤ g0) (hb : g0 ≤ b) (_ : g0 ≤ g) (_ : p.code.length ≤ 1048576) :
    Calls Tryd.prog 11 #[.pointer (some ⟨b, 0, none⟩), .pointer (some ⟨g, 0, none⟩), .agg (acs e a)] w fun x w' => x = .returned (.bool true) ∧ LS w' b g base F { p with code := p.code.set k { iat p.code k with a := a.to_ } } ∧ Stay F g0 w w' := by
  obtain ⟨⟨Sb, Sw, d, t, d', hbb, hpb, hww, hpw, hap, hF⟩, hlb, hlg, hne, hbs⟩ := hs
  have HFF := Lib.hid hF
  clear hF
  have hba := (Below.refl w.heap.size w).alloc (Nat.le_refl _) (.cells (acs e a) 45)
  have hnew := heap_alloc_new w (.cells (acs e a) 45)
  have hsa : (w.alloc (.cells (acs e a) 45)).heap.size = w.heap.size + 1 := by simp
  have HNEW := Lib.hid hnew
  have HPB := Lib.hid (hpb.later hba)
  have HPW := Lib.hid (hpw.later hba)
  have HBB := Lib.hid (hbb.below hba hbb.lt)
  have hgs : g < w.heap.size := (Array.getElem?_eq_some_iff.1 hww).1
  have hbsz : b < w.heap.size := hbb.lt
  have HWW := Lib.hid (show BlkW _ g d' p from (hba.block g hgs).trans hww)
  have HAR := Lib.hid (ha.below (hba.mono (by omega)))
  have HAP := Lib.hid hap
  have HBA := Lib.hid hba
  have hlc : p.code.length = d.n1 := hpb.lc
  have hlc' : p.code.length = d'.n1 := hpw.lc
  have hrd := (RR.reads ha.code (by decide)).below (hba.mono (show B ≤ w.heap.size by omega))
  have HRD := Lib.hid (show Reads (w.alloc (.cells (acs e a) 45)) B 3 e.A1 e.n1 (inv a.code) from hrd)
  have hb1 := ha.b1
  clear hba hnew hpb hpw hbb hww ha hap hrd
  have HK := Lib.hid hk
  have HX := Lib.hid hx
  clear hk hx
  unfold acs at *
  go_enter Tryd.func11, Tryd.ntmps11
  go_upto_region 1 with fail
  generalize hwa : w.alloc (.cells #[.int .i64 a.kind, .int .i64 a.at_, .int .i64 a.to_, .slice e.A1 e.n1 e.c1, .slice e.A2 e.n2 e.c2, .slice e.A3 e.n3 e.c3, .int .i64 a.spec.msg, .slice e.A4 e.n4 e.c4, .int .i64 a.spec.blk] 45) = wa at *
  obtain ⟨q, hq⟩ : ∃ q, w.heap.size = q := ⟨_, rfl⟩
  rw [hq] at hsa HNEW HBA HFF hgs hbsz hbs ⊢
  have HQ := Lib.hid hq
  have HSA := Lib.hid hsa
  clear hwa hq
  have k0 : wa.cell? ⟨q, 0, none⟩ = some (.int .i64 2) := by rw [blk_cell HNEW.out, ← HK.out]; rfl
  have k1 : wa.cell? ⟨q, 1, none⟩ = some (.int .i64 a.at_) := by rw [blk_cell HNEW.out]; rfl
  have k2 : wa.cell? ⟨q, 2, none⟩ = some (.int .i64 a.to_) := by rw [blk_cell HNEW.out]; rfl
  rw [HX.out] at k1
  have hk1 : k < d.n1 := by omega
  have hk2 : k < d'.n1 := by omega
  have HPA := Lib.hid (Patch_any b base Sb d t p k a.to_ wa HBB.out HPB.out hk1 hlb (by omega) (by omega))
  have h0 : ¬ (k : Int) < 0 := by omega
  have h1 : ¬ (d'.n1 : Int) ≤ (k : Int) := by omega
  obtain ⟨gw, hgw⟩ := own_at HPW.out.code.1 (by omega)
  have hki : (k : Int) < (d'.n1 : Int) := by omega
  have HGW := Lib.hid hgw
  clear hgw
  go_wp2_with fail
  refine HPA.out.mono ?_
  rintro x w5 ⟨rfl, S', d2, t2, r1, r2, r3, r4⟩
  have hw5 : BlkW w5 g d' p := (r4.block g (by omega) (by intro h; injection h with h; exact hne h.symm)).trans HWW.out
  have hq5 := (r4.block q (by omega) (by intro h; injection h with h; omega)).trans HNEW.out
  have hz5 := r4.size
  have hpw5 := HPW.out.kept (w' := w5) (fun j hj => r4.block j (HPW.out.lo j hj).2 (by intro h; injection h with h; have := (HPW.out.lo j hj).1; omega)) (fun _ h => h) (fun j hj => ⟨(HPW.out.lo j hj).1, by have := (HPW.out.lo j hj).2; omega⟩)
  have q1 : w5.cell? ⟨q, 1, none⟩ = some (.int .i64 (k : Int)) := by rw [blk_cell hq5, ← HX.out]; rfl
  have q2 : w5.cell? ⟨q, 2, none⟩ = some (.int .i64 a.to_) := by rw [blk_cell hq5]; rfl
  have kg : w5.cell? ⟨g, 0, none⟩ = some (.slice (some ⟨gw, 0, none⟩) d'.n1 d'.c1) := by rw [blk_cell hw5, ← HGW.out]; rfl
  have R1 := Lib.hid r1
  have R2 := Lib.hid r2
  have R3 := Lib.hid r3
  have R4 := Lib.hid r4
  have HW5 := Lib.hid hw5
  have HPW5 := Lib.hid hpw5
  clear r1 r2 r3 r4 hw5 hpw5 hq5 k0 k1 k2 HPA
  go_wp2_with fail
  go_quiet (fail)
  go_upto_region 16 with fail
  have HL5 := Lib.hid (show BlkB (w5.drewN nq) b d2 { p with code := p.code.set k { iat p.code k with a := a.to_ } } from R1.out)
  have HP5 := Lib.hid (R2.out.kept (w' := w5.drewN nq) (fun _ _ => rfl) (fun _ h => h) R2.out.lo)
  have HV5 := Lib.hid (HPW5.out.kept (w' := w5.drewN nq) (fun _ _ => rfl) (fun _ h => h) HPW5.out.lo)
  have HWD := Lib.hid (show BlkW (w5.drewN nq) g d' p from HW5.out)
  have HZD := Lib.hid (show (w5.drewN nq).heap.size = w5.heap.size from rfl)
  have HBD := Lib.hid (show Below g0 w (w5.drewN nq) from ⟨R4.out.os.trans HBA.out.os, R4.out.tape.trans HBA.out.tape, R4.out.output.trans HBA.out.output, by rw [HQ.out]; show q ≤ w5.heap.size; omega, fun j hj => (R4.out.block j (by omega) (by intro h; injection h with h; omega)).trans (HBA.out.block j (by omega))⟩)
  have HFD := Lib.hid (show ∀ k, F k → (w5.drewN nq).heap[k]? = w.heap[k]? from fun k hk => (R4.out.block k (by have := (HFF.out k hk).1; omega) (by intro h; injection h with h; exact (HFF.out k hk).2.1 h)).trans (HBA.out.block k (HFF.out k hk).1))
  have KG := Lib.hid (show (w5.drewN nq).drew.cell? ⟨g, 0, none⟩ = some (.slice (some ⟨gw, 0, none⟩) d'.n1 d'.c1) from kg)
  have K1 := Lib.hid (show (w5.drewN nq).drew.cell? ⟨q, 1, none⟩ = some (.int .i64 (k : Int)) from q1)
  have K2 := Lib.hid (show (w5.drewN nq).drew.cell? ⟨q, 2, none⟩ = some (.int .i64 a.to_) from q2)
  clear kg q1 q2
  generalize w5.drewN nq = wd at *
  have hown := HV5.out.code.1
  rw [HGW.out] at hown
  have KC := Lib.hid (show wd.drew.cell? ⟨gw, k * 3 + 1, none⟩ = some (.int .i64 (iat p.code k).a) from own_cellN hown (inv_at p.code k hkl))
  have FC := Lib.hid (show wd.drew.frozen? ⟨gw, k * 3 + 1, none⟩ = false from own_freeN hown (k * 3 + 1))
  have hgb := (hown.lt gw rfl).1
  have hgwS : Sw gw := HV5.out.code.2 gw (by rw [HGW.out]; rfl)
  clear hown
  refine wp_region_noPanic ?_
  refine wp_region_until (S := fun W => W.cell? ⟨g, 0, none⟩ = some (.slice (some ⟨gw, 0, none⟩) d'.n1 d'.c1) ∧ W.cell? ⟨q, 1, none⟩ = some (.int .i64 (k : Int)) ∧ W.cell? ⟨q, 2, none⟩ = some (.int .i64 a.to_)) 10 (by kernel_rfl) ?_ (fun hHeld => ?_)
  · (try dsimp only)
    exact ⟨KG.out, K1.out, K2.out⟩
  refine wpAnyU_takeY (i := 0) (v := ?v1) rfl (by kernel_rfl) (fun _ _ _ h => h) (Or.inl ⟨by rfl, ?y1⟩) (by assumption) ?r1
  case y1 => (intro W; first | (go_simp; done) | (go_simp; with_reducible rfl))
  (try simp only [List.getElem_toArray, List.getElem_cons_zero, Act.put, List.setIfInBounds_toArray, List.set_cons_zero, List.set_cons_succ])
  refine wpAnyU_takeY (i := 1) (v := ?v2) rfl (by kernel_rfl) (fun _ _ _ h => h) (Or.inl ⟨by rfl, ?y2⟩) (by assumption) ?r2
  case y2 => (intro W; first | (go_simp; done) | (go_simp; with_reducible rfl))
  (try simp only [List.getElem_toArray, List.getElem_cons_zero, List.getElem_cons_succ, Act.put, List.setIfInBounds_toArray, List.set_cons_zero, List.set_cons_succ])
  refine wpAnyU_takeY (i := 2) (v := ?v3) rfl (by kernel_rfl) (fun _ _ _ h => h) (Or.inl ⟨by rfl, ?y3⟩) (by assumption) ?r3
  case y3 => (intro W; first | (go_simp; done) | (go_simp; with_reducible rfl))
  (try simp only [List.getElem_toArray, List.getElem_cons_zero, List.getElem_cons_succ, Act.put, List.setIfInBounds_toArray, List.set_cons_zero, List.set_cons_succ])
  refine wpAnyU_takeW (i := 3) (v := ?v4) rfl (by kernel_rfl) (fun _ _ _ h => h) (Or.inl ⟨by rfl, ?y4⟩) (by assumption) ?r4
  case y4 => (intro W hSW; (try dsimp only at hSW); first | (go_simp; done) | (go_simp; with_reducible rfl))
  (try simp only [List.getElem_toArray, List.getElem_cons_zero, List.getElem_cons_succ, Act.put, List.setIfInBounds_toArray, List.set_cons_zero, List.set_cons_succ])
  refine wpAnyU_takeY (i := 4) (v := ?v5) rfl (by kernel_rfl) (fun _ _ _ h => h) (Or.inl ⟨by rfl, ?y5⟩) (by assumption) ?r5
  case y5 => (intro W; first | (go_simp; done) | (go_simp; with_reducible rfl))
  (try simp only [List.getElem_toArray, List.getElem_cons_zero, List.getElem_cons_succ, Act.put, List.setIfInBounds_toArray, List.set_cons_zero, List.set_cons_succ])
  refine wpAnyU_takeW (i := 5) (v := ?v6) rfl (by kernel_rfl) (fun _ _ _ h => h) (Or.inl ⟨by rfl, ?y6⟩) (by assumption) ?r6
  case y6 => (intro W hSW; (try dsimp only at hSW); first | (go_simp; done) | (go_simp; with_reducible rfl))
  (try simp only [List.getElem_toArray, List.getElem_cons_zero, List.getElem_cons_succ, Act.put, List.setIfInBounds_toArray, List.set_cons_zero, List.set_cons_succ])
  refine wpAnyU_takeY (i := 6) (v := ?v7) rfl (by kernel_rfl) (fun _ _ _ h => h) (Or.inl ⟨by rfl, ?y7⟩) (by assumption) ?r7
  case y7 => (intro W; first | (go_simp; done) | (go_simp; with_reducible rfl))
  (try simp only [List.getElem_toArray, List.getElem_cons_zero, List.getElem_cons_succ, Act.put, List.setIfInBounds_toArray, List.set_cons_zero, List.set_cons_succ])
  refine wpAnyU_takeW (i := 7) (v := ?v8) rfl (by kernel_rfl) (fun _ _ _ h => h) (Or.inl ⟨by rfl, ?y8⟩) (by assumption) ?r8
  case y8 => (intro W hSW; (try dsimp only at hSW); first | (go_simp; done) | (go_simp; with_reducible rfl))
  (try simp only [List.getElem_toArray, List.getElem_cons_zero, List.getElem_cons_succ, Act.put, List.setIfInBounds_toArray, List.set_cons_zero, List.set_cons_succ])
  refine wpAnyU_takeY (i := 8) (v := ?v9) rfl (by kernel_rfl) (fun _ _ _ h => h) (Or.inl ⟨by rfl, ?y9⟩) (by assumption) ?r9
  case y9 => (intro W; first | (go_simp; done) | (go_simp; with_reducible rfl))
  (try simp only [List.getElem_toArray, List.getElem_cons_zero, List.getElem_cons_succ, Act.put, List.setIfInBounds_toArray, List.set_cons_zero, List.set_cons_succ])
  refine wpAnyU_takeY (i := 9) (v := ?v10) rfl (by kernel_rfl) (fun _ _ _ h => h) (Or.inl ⟨by rfl, ?y10⟩) (by assumption) ?r10
  case y10 => (intro W; first | (go_simp; done) | (go_simp; with_reducible rfl))
  (try simp only [List.getElem_toArray, List.getElem_cons_zero, List.getElem_cons_succ, Act.put, List.setIfInBounds_toArray, List.set_cons_zero, List.set_cons_succ])
  refine wpAnyU_at (c := 10) rfl (by kernel_rfl) (by rfl) (fun K hK => ?_)
  have HK := Lib.hid hK
  clear hK
  have kc := KC.out
  have fc := FC.out
  go_simp
  refine HK.out _ _ ?_
  clear HK K
  (try simp only [List.getElem_toArray, List.getElem_cons_zero, List.getElem_cons_succ, Act.put, List.setIfInBounds_toArray, List.set_cons_zero, List.set_cons_succ])
  refine wpAny_done (by kernel_rfl) ?_ _
  refine NoPanic.normal ?_
  clear kc fc hHeld
  have HF := Lib.hid (HV5.out.setCode HGW.out (k * 3 + 1) (.int .i64 a.to_) (inv_set p.code k a.to_ hkl) (by rw [List.length_set]) (rfl : (0 : Nat) = 0))
  have hWs : ∀ (v : Value) (j : Nat), j ≠ gw → (wd.setCell ⟨gw, k * 3 + 1, none⟩ v).heap[j]? = wd.heap[j]? := fun v j hj => Below.heap_setCell wd ⟨gw, k * 3 + 1, none⟩ v j hj
  have HWS := Lib.hid hWs
  clear hWs
  go_wp2_with fail
  go_ret
  have hlog := HPW.out.lo gw hgwS
  have hsz : (wd.setCell ⟨gw, k * 3 + 1, none⟩ (.int .i64 a.to_)).heap.size = wd.heap.size := by simp
  have hSg : ∀ j, S' j → ¬ Sw j := fun j hj hw => by
    rcases R3.out j hj with h | h
    · exact HAP.out j h hw
    · have := (HPW.out.lo j hw).2; omega
  refine ⟨rfl, LS.drew ⟨⟨S', Sw, d2, t2, d', ?_, ?_, ?_, HF.out, hSg, ?_⟩, hlb, hlg, hne, by rw [hsz, HZD.out]; omega⟩, ?_, ?_⟩
  · exact (HWS.out _ b (by omega)).trans HL5.out
  · refine HP5.out.kept (fun j hj => HWS.out _ j (fun h => hSg j hj (h ▸ hgwS))) (fun _ h => h) fun j hj => ⟨(HP5.out.lo j hj).1, by rw [hsz]; exact (HP5.out.lo j hj).2⟩
  · exact (HWS.out _ g (by omega)).trans HWD.out
  · intro k hk
    obtain ⟨f1, f2, f3, f4, f5⟩ := HFF.out k hk
    refine ⟨by rw [hsz, HZD.out]; omega, f2, f3, fun h => ?_, f5⟩
    rcases R3.out k h with h3 | h3
    · exact f4 h3
    · omega
  · exact (HBD.out.setCell (p := ⟨gw, k * 3 + 1, none⟩) (show g0 ≤ gw by omega) (.int .i64 a.to_)).drew
  · intro k hk
    exact (HWS.out _ k (fun h => (HFF.out k hk).2.2.2.2 (h ▸ hgwS))).trans (HFD.out k hk)
end Go.Proofs.YtkmcjjoicpgjfaaDoor
/-
  shallotlaw18.puts and names, at the kinds that are none of theirs. Conditions: the sizes that slices can have.
-/
namespace Go.Proofs.YtkmcjjoicpgjfaaDoor
open Go Go.RowKit Go.Sh

set_option maxHeartbeats 2000000 in
set_option maxRecDepth 100000 in
theorem puts0_any (b g base g0 B : Nat) (F : Nat → Prop) (p : Prg) (e : Apd) (a : Ac) (w : World) (hs : LS w b g base F p) (ha : AR w B e a) (hk1 : a.kind ≠ 1) (hk2 : a.kind ≠ 2) (hk3 : a.kind ≠ 3) (hB : B ≤ g0) (hb : g0 ≤ b) (_ : g0 ≤ g) (_ : p.code.length ≤ 1048576) :
    Calls Tryd.prog 11 #[.pointer (some ⟨b, 0, none⟩), .pointer (some ⟨g, 0, none⟩), .agg (acs e a)] w fun x w' => x = .returned (.bool true) ∧ LS w' b g base F p ∧ Stay F g0 w w' := by
  obtain ⟨⟨Sb, Sw, d, t, d', hbb, hpb, hww, hpw, hap, hF⟩, hlb, hlg, hne, hbs⟩ := hs
  have HFF := Lib.hid hF
  clear hF
  have hba := (Below.refl w.heap.size w).alloc (Nat.le_refl _) (.cells (acs e a) 45)
  have hnew := heap_alloc_new w (.cells (acs e a) 45)
  have hsa : (w.alloc (.cells (acs e a) 45)).heap.size = w.heap.size + 1 := by simp
  have HNEW := Lib.hid hnew
  have HPB := Lib.hid (hpb.later hba)
  have HPW := Lib.hid (hpw.later hba)
  have HBB := Lib.hid (hbb.below hba hbb.lt)
  have hgs : g < w.heap.size := (Array.getElem?_eq_some_iff.1 hww).1
  have hbsz : b < w.heap.size := hbb.lt
  have HWW := Lib.hid (show BlkW _ g d' p from (hba.block g hgs).trans hww)
  have HAR := Lib.hid (ha.below (hba.mono (by omega)))
  have HAP := Lib.hid hap
  have HBA := Lib.hid hba
  have hlc : p.code.length = d.n1 := hpb.lc
  have hlc' : p.code.length = d'.n1 := hpw.lc
  have hrd := (RR.reads ha.code (by decide)).below (hba.mono (show B ≤ w.heap.size by omega))
  have HRD := Lib.hid (show Reads (w.alloc (.cells (acs e a) 45)) B 3 e.A1 e.n1 (inv a.code) from hrd)
  have hb1 := ha.b1
  clear hba hnew hpb hpw hbb hww ha hap hrd
  have t1 : (a.kind == 1) = false := by rw [beq_eq_false_iff_ne]; exact hk1
  have t2 : (a.kind == 2) = false := by rw [beq_eq_false_iff_ne]; exact hk2
  have t3 : (a.kind == 3) = false := by rw [beq_eq_false_iff_ne]; exact hk3
  clear hk1 hk2 hk3
  unfold acs at *
  go_enter Tryd.func11, Tryd.ntmps11
  go_upto_region 1 with fail
  generalize hwa : w.alloc (.cells #[.int .i64 a.kind, .int .i64 a.at_, .int .i64 a.to_, .slice e.A1 e.n1 e.c1, .slice e.A2 e.n2 e.c2, .slice e.A3 e.n3 e.c3, .int .i64 a.spec.msg, .slice e.A4 e.n4 e.c4, .int .i64 a.spec.blk] 45) = wa at *
  obtain ⟨q, hq⟩ : ∃ q, w.heap.size = q := ⟨_, rfl⟩
  rw [hq] at hsa HNEW HBA HFF hgs hbsz hbs ⊢
  have HQ := Lib.hid hq
  have HSA := Lib.hid hsa
  clear hwa hq
  have k0 : wa.cell? ⟨q, 0, none⟩ = some (.int .i64 a.kind) := by rw [blk_cell HNEW.out]; rfl
  have hfin : LS wa b g base F p ∧ Stay F g0 w wa := ⟨⟨⟨Sb, Sw, d, t, d', HBB.out, HPB.out, HWW.out, HPW.out, HAP.out, fun k hk => by
    obtain ⟨f1, f2, f3, f4, f5⟩ := HFF.out k hk
    exact ⟨by omega, f2, f3, f4, f5⟩⟩, hlb, hlg, hne, by omega⟩, HBA.out.mono (by omega), fun k hk => HBA.out.block k (HFF.out k hk).1⟩
  have HFIN := Lib.hid hfin
  clear hfin
  go_wp2_with fail
  go_ret
  exact ⟨rfl, HFIN.out⟩
set_option maxHeartbeats 2000000 in
set_option maxRecDepth 100000 in
theorem names0_any (b g base g0 B : Nat) (F : Nat → Prop) (p : Prg) (e : Apd) (a : Ac) (w : World) (hs : LS w b g base F p) (ha : AR w B e a) (hk4 : a.kind ≠ 4) (hk5 : a.kind ≠ 5) (hB : B ≤ g0) (hb : g0 ≤ b) (_ : g0 ≤ g) (_ : p.code.length ≤ 1048576) :
    Calls Tryd.prog 12 #[.pointer (some ⟨b, 0, none⟩), .pointer (some ⟨g, 0, none⟩), .agg (acs e a)] w fun x w' => x = .returned (.bool true) ∧ LS w' b g base F p ∧ Stay F g0 w w' := by
  obtain ⟨⟨Sb, Sw, d, t, d', hbb, hpb, hww, hpw, hap, hF⟩, hlb, hlg, hne, hbs⟩ := hs
  have HFF := Lib.hid hF
  clear hF
  have hba := (Below.refl w.heap.size w).alloc (Nat.le_refl _) (.cells (acs e a) 45)
  have hnew := heap_alloc_new w (.cells (acs e a) 45)
  have hsa : (w.alloc (.cells (acs e a) 45)).heap.size = w.heap.size + 1 := by simp
  have HNEW := Lib.hid hnew
  have HPB := Lib.hid (hpb.later hba)
  have HPW := Lib.hid (hpw.later hba)
  have HBB := Lib.hid (hbb.below hba hbb.lt)
  have hgs : g < w.heap.size := (Array.getElem?_eq_some_iff.1 hww).1
  have hbsz : b < w.heap.size := hbb.lt
  have HWW := Lib.hid (show BlkW _ g d' p from (hba.block g hgs).trans hww)
  have HAR := Lib.hid (ha.below (hba.mono (by omega)))
  have HAP := Lib.hid hap
  have HBA := Lib.hid hba
  have hlc : p.code.length = d.n1 := hpb.lc
  have hlc' : p.code.length = d'.n1 := hpw.lc
  have hrd := (RR.reads ha.code (by decide)).below (hba.mono (show B ≤ w.heap.size by omega))
  have HRD := Lib.hid (show Reads (w.alloc (.cells (acs e a) 45)) B 3 e.A1 e.n1 (inv a.code) from hrd)
  have hb1 := ha.b1
  clear hba hnew hpb hpw hbb hww ha hap hrd
  have t4 : (a.kind == 4) = false := by rw [beq_eq_false_iff_ne]; exact hk4
  have t5 : (a.kind == 5) = false := by rw [beq_eq_false_iff_ne]; exact hk5
  clear hk4 hk5
  unfold acs at *
  go_enter Tryd.func12, Tryd.ntmps12
  go_upto_region 1 with fail
  generalize hwa : w.alloc (.cells #[.int .i64 a.kind, .int .i64 a.at_, .int .i64 a.to_, .slice e.A1 e.n1 e.c1, .slice e.A2 e.n2 e.c2, .slice e.A3 e.n3 e.c3, .int .i64 a.spec.msg, .slice e.A4 e.n4 e.c4, .int .i64 a.spec.blk] 45) = wa at *
  obtain ⟨q, hq⟩ : ∃ q, w.heap.size = q := ⟨_, rfl⟩
  rw [hq] at hsa HNEW HBA HFF hgs hbsz hbs ⊢
  have HQ := Lib.hid hq
  have HSA := Lib.hid hsa
  clear hwa hq
  have k0 : wa.cell? ⟨q, 0, none⟩ = some (.int .i64 a.kind) := by rw [blk_cell HNEW.out]; rfl
  have hfin : LS wa b g base F p ∧ Stay F g0 w wa := ⟨⟨⟨Sb, Sw, d, t, d', HBB.out, HPB.out, HWW.out, HPW.out, HAP.out, fun k hk => by
    obtain ⟨f1, f2, f3, f4, f5⟩ := HFF.out k hk
    exact ⟨by omega, f2, f3, f4, f5⟩⟩, hlb, hlg, hne, by omega⟩, HBA.out.mono (by omega), fun k hk => HBA.out.block k (HFF.out k hk).1⟩
  have HFIN := Lib.hid hfin
  clear hfin
  go_wp2_with fail
  go_ret
  exact ⟨rfl, HFIN.out⟩
end Go.Proofs.YtkmcjjoicpgjfaaDoor
/-
  Contracts of shallotref01.mark, shallotref01.Spare and shallotref01.Kept: marked bytes; a copy with marked spare room behind it; whether it is as it was. Conditions: the sizes that slices can have.
-/
namespace Go.Proofs.YtkmcjjoicpgjfaaDoor
open Go Go.RowKit Go.Sh

/-- what list i holds at place j -/
def mk (i j : Nat) : UInt8 := UInt8.ofNat (17 * i + 3 * j + 1)
theorem mk_nat (i j : Nat) : ((mk i j).toNat : Int) = (17 * (i : Int) + 3 * (j : Int) + 1) % 256 := by
  simp [mk]
set_option maxRecDepth 100000 in
theorem mark_any (i j : Nat) (w : World) (hi : i ≤ 1125899906842624) (hj : j ≤ 1125899906842624) :
    Calls Tryd.prog 52 #[.int .i64 (i : Int), .int .i64 (j : Int)] w (fun e w' => e = .returned (.int .u8 ((mk i j).toNat : Int)) ∧ w = w') := by
  have HE := Lib.hid (mk_nat i j)
  go_enter Tryd.func52, Tryd.ntmps52
  go_wp2
  go_ret
  refine ⟨?_, rfl⟩
  rw [HE.out]
  rfl

/-- the marked spare room behind n bytes -/
def spvK (n k : Nat) : UInt8 := UInt8.ofNat (160 + (n + k) % 31)
theorem spv_nat (n k : Nat) : ((spvK n k).toNat : Int) = 160 + ((n : Int) + (k : Int)) % 31 := by
  have : (160 + (n + k) % 31) % 256 = 160 + (n + k) % 31 := by omega
  simp [spvK]
  omega
def spareTo (n k : Nat) : List UInt8 := (List.range k).map (spvK n)
theorem length_spareTo (n k : Nat) : (spareTo n k).length = k := by simp [spareTo]
theorem spareTo_succ (n k : Nat) : spareTo n (k + 1) = spareTo n k ++ [spvK n k] := by simp [spareTo, List.range_succ]
/-- what Spare makes of l -/
def spared (l : List UInt8) : List UInt8 := l ++ spareTo l.length 40
theorem length_spared (l : List UInt8) : (spared l).length = l.length + 40 := by simp [spared, length_spareTo]
theorem fill_succ (l : List UInt8) (k : Nat) (hk : k < 40) : (l ++ (spareTo l.length k ++ zs (40 - k))).set (l.length + k) (spvK l.length k) = l ++ (spareTo l.length (k + 1) ++ zs (40 - (k + 1))) := by
  have hz : zs (40 - k) = 0 :: zs (40 - (k + 1)) := by
    rw [show 40 - k = (40 - (k + 1)) + 1 by omega]
    rfl
  rw [List.set_append_right _ _ (by omega), Nat.add_sub_cancel_left, List.set_append_right _ _ (by rw [length_spareTo]; exact Nat.le_refl _), length_spareTo, Nat.sub_self, hz, List.set_cons_zero, spareTo_succ, List.append_assoc]
  rfl
theorem bv_put' (l : List UInt8) (i : Nat) (x : UInt8) : (bv l).set i (.int .u8 (x.toNat : Int)) = bv (l.set i x) := by simp [bv, List.map_set]

def SparePost (w : World) (n : Nat) (l : List UInt8) (e : Ending) (w' : World) : Prop :=
  ∃ g, e = .returned (.tuple #[.slice (some ⟨g, 0, none⟩) n (n + 40), .slice (some ⟨g, 0, none⟩) (n + 40) (n + 40)]) ∧ w'.ownsRow w.heap.size 5 1 (.slice (some ⟨g, 0, none⟩) (n + 40) (n + 40)) (n + 40) (bv (spared l)) ∧ Below w.heap.size w w'

set_option maxRecDepth 100000 in
theorem Spare_any (A : Option Addr) (n c : Nat) (l : List UInt8) (w : World) (B : Nat) (hr : RB w B A n l) (hB : B ≤ w.heap.size) (hn : n ≤ 140737488355328) :
    Calls Tryd.prog 20 #[.slice A n c] w (SparePost w n l) := by
  have HL := Lib.hid hr.len
  have HR := Lib.hid hr
  clear hr
  go_enter Tryd.func20, Tryd.ntmps20
  go_wp2_with (at_make; refine wl_makeB TB rfl (.tmp 8) (.tmp 8) rfl .i64 .i64 _ _ rfl rfl (n + 40) ?m1 ?m2 ?m3 w.heap.size (Nat.le_refl _) ?m5)
  case m1 => omega
  case m2 => omega
  case m3 => omega
  case m5 =>
    intro w1 hown hg hlt
    have HO := Lib.hid hown
    have HB := Lib.hid (show Below w.heap.size w w1 from (Below.refl _ _).grown hg (Nat.le_refl _) (by simp))
    clear hown hg
    go_wp2_with (with_reducible refine wl_copy TB rfl (.tmp 10) (.tmp 11) rfl _ (n + 40) (n + 40) rfl A n c rfl w.heap.size _ HO.out B (bv l) ?c1 (bv_one l) ?c2)
    case c1 => exact HR.out.below (HB.out.mono hB)
    case c2 =>
      intro w2 hown2 hg2
      have e3 : (bv l).take (n + 40) ++ (bv (zs (n + 40))).drop n = bv (l ++ (spareTo l.length 0 ++ zs (40 - 0))) := by
        rw [List.take_of_length_le (by rw [length_bv, HL.out]; omega), bv_append]
        simp [bv, zs, spareTo]
      rw [e3] at hown2
      have HO2 := Lib.hid hown2
      have HB2 := Lib.hid (HB.out.grown hg2 HB.out.size (by simp [Value.ownBlock]))
      clear hown2 hg2 HO HB e3
      go_wp2
      go_loopw [5] (fun i wr => ∃ k : Nat, k ≤ 40 ∧ i = .int .i64 ((n : Int) + (k : Int)) ∧ wr.ownsRow w.heap.size 5 1 (.slice (some ⟨w.heap.size, 0, none⟩) (n + 40) (n + 40)) (n + 40) (bv (l ++ (spareTo l.length k ++ zs (40 - k)))) ∧ Below w.heap.size w wr) (fun i _ => n + 40 - (intOf i).toNat)
      case atStart => exact ⟨0, by omega, by simp, HO2.out, HB2.out⟩
      case round =>
        obtain ⟨k, hk, rfl, hown, hb⟩ := hrel
        have HO := Lib.hid hown
        have HBr := Lib.hid hb
        clear hown hb HO2 HB2
        by_cases hlt : k < 40
        · have hcx := HO.out.cellAt (n + k) (by omega)
          have hcc : ∃ u, (bv (l ++ (spareTo l.length k ++ zs (40 - k))))[n + k]? = some u := ⟨_, List.getElem?_eq_getElem (by rw [length_bv]; simp [length_spareTo, length_zs, HL.out]; omega)⟩
          obtain ⟨u, hu⟩ := hcc
          rw [hu] at hcx
          have hf := HO.out.frozenAt (n + k)
          have HE := Lib.hid (spv_nat n k)
          have i0 : (0 : Int) ≤ (n : Int) + (k : Int) := by omega
          have i1 : (n : Int) + (k : Int) < (n : Int) + 40 := by omega
          have e2 : ((n : Int) + (k : Int)).toNat = n + k := by omega
          clear hu
          go_wp2
          refine ⟨⟨k + 1, by omega, ?_, ?_, HBr.out.setCell (Nat.le_refl _) _⟩, ?_⟩
          · congr 1
          · have h := (HO.out.stored (n + k) (.int .u8 ((spvK n k).toNat : Int))).1
            have hfs := fill_succ l k hlt
            rw [HL.out] at hfs
            rw [bv_put', HL.out, hfs, HE.out] at h
            rw [HL.out]
            exact h
          · simp [intOf]
            omega
        · obtain rfl : k = 40 := by omega
          have hfin := HO.out
          rw [show l ++ (spareTo l.length 40 ++ zs (40 - 40)) = spared l by simp [spared, zs]] at hfin
          have HF := Lib.hid hfin
          clear hfin HO
          have hrun : ∀ W, (Instr.slice 39 (.slice (some ⟨w.heap.size, 0, none⟩) (n + 40) (n + 40)) none (some (.int .i64 (n : Int))) none).run Tryd.prog W = .ok (.slice (some ⟨w.heap.size, 0, none⟩) n (n + 40)) W := fun W => run_sl_hi TB W _ _ _ .i64 n (by omega)
          go_wp2
          go_ret2
          exact ⟨_, rfl, HF.out, HBr.out⟩

set_option maxRecDepth 100000 in
/-- bytes as Spare made them are told to be kept -/
theorem Kept_any (A A' : Option Addr) (n c c' : Nat) (l : List UInt8) (w : World) (B B' : Nat) (hf : RB w B A (n + 40) (spared l)) (hr : RB w B' A' n l) (hn : n ≤ 140737488355328) :
    Calls Tryd.prog 21 #[.slice A (n + 40) c, .slice A' n c'] w (EqPost w true) := by
  have HL := Lib.hid hr.len
  have HR := Lib.hid hr
  have HF := Lib.hid hf
  have hq : (((n : Int) + 40) != ((n : Int) + 40)) = false := by simp
  have hq' : (((n + 40 : Nat) : Int) != ((n : Int) + 40)) = false := by simp
  clear hr hf
  go_enter Tryd.func21, Tryd.ntmps21
  go_wp2
  go_loopw [5] (fun i wr => ∃ k nd : Nat, k ≤ n + 40 ∧ i = .int .i64 k ∧ wr = w.drewN nd) (fun i _ => n + 40 - (intOf i).toNat)
  case atStart => exact ⟨0, 0, by omega, rfl, rfl⟩
  case round =>
    obtain ⟨k, nd, hk, rfl, rfl⟩ := hrel
    by_cases hlt : k < n + 40
    · obtain ⟨ad, rfl, _, hcx⟩ := HF.out.at_ hlt
      by_cases hkn : k < n
      · obtain ⟨ad', rfl, _, hcy⟩ := HR.out.at_ hkn
        have hbe : bt (spared l) k = bt l k := by
          unfold bt spared
          simp [List.getElem?_append_left (show k < l.length by rw [HL.out]; exact hkn)]
        rw [hbe] at hcx
        have b1 := bt_lo l k
        have b2 := bt_hi l k
        have d1 : decide (k < n) = true := by simpa using hkn
        have d2 : (bt l k != bt l k) = false := by simp
        have d3 : decide (n ≤ k) = false := by simpa using hkn
        clear hbe
        generalize bt l k = x at *
        go_wp2
        go_quiet (fail)
        go_wp2
        exact ⟨⟨k + 1, nd + nq, by omega, by go_num, rfl⟩, by simp [intOf]; omega⟩
      · have hbe : bt (spared l) k = 160 + (k : Int) % 31 := by
          unfold bt spared
          have hk2 : k = l.length + (k - l.length) := by rw [HL.out]; omega
          have := spv_nat l.length (k - l.length)
          simp only [List.getD_eq_getElem?_getD]
          rw [List.getElem?_append_right (by rw [HL.out]; omega)]
          simp only [spareTo, List.getElem?_map]
          rw [List.getElem?_range (by rw [HL.out]; omega)]
          simp only [Option.map_some, Option.getD_some]
          rw [this]
          rw [HL.out]
          congr 2
          omega
        rw [hbe] at hcx
        have i0 : (0 : Int) ≤ (k : Int) := by omega
        have i1 : (k : Int) < ((n + 40 : Nat) : Int) := by omega
        have d1 : decide (k < n) = false := by simpa using hkn
        have d2 : ((160 + (k : Int) % 31) != (160 + (k : Int) % 31)) = false := by simp
        have d3 : decide (n ≤ k) = true := by simp; omega
        have w1 : IntKind.i64.wrap (160 + (k : Int) % 31) = 160 + (k : Int) % 31 := by rw [IntKind.wrap_i64]; omega
        have w2 : IntKind.u8.wrap (160 + (k : Int) % 31) = 160 + (k : Int) % 31 := by rw [IntKind.wrap_u8]; omega
        have w3 : (k : Int).tmod 31 = (k : Int) % 31 := Int.tmod_eq_emod_of_nonneg (by omega)
        clear hbe
        go_wp2
        go_quiet (fail)
        go_wp2
        exact ⟨⟨k + 1, nd + nq, by omega, by go_num, rfl⟩, by simp [intOf]; omega⟩
    · go_wp2
      go_ret
      exact ⟨rfl, nd, rfl⟩
end Go.Proofs.YtkmcjjoicpgjfaaDoor
/-
  Contracts of shallotref01.Over: each byte is turned; the row may go on behind. Conditions: the sizes that slices can have.
-/
namespace Go.Proofs.YtkmcjjoicpgjfaaDoor
open Go Go.RowKit Go.Sh

/-- every byte turned by 0x5A -/
def ovr (l : List UInt8) : List UInt8 := l.map fun x => x ^^^ 90
def ovrK (l : List UInt8) (k : Nat) : List UInt8 := (l.take k).map (fun x => x ^^^ 90) ++ l.drop k
theorem length_ovr (l : List UInt8) : (ovr l).length = l.length := by simp [ovr]
theorem length_ovrK (l : List UInt8) (k : Nat) : (ovrK l k).length = l.length := by simp [ovrK]; omega
theorem bt_ovrK {l r : List UInt8} {k : Nat} (h : k < l.length) : bt (ovrK l k ++ r) k = bt l k := by
  unfold bt ovrK
  simp only [List.getD_eq_getElem?_getD]
  rw [List.getElem?_append_left (by simp; omega), List.getElem?_append_right (by simp; omega)]
  simp
  rw [show k - min k l.length = 0 by omega]
  simp
theorem ovrK_succ {l r : List UInt8} {k : Nat} (h : k < l.length) : ovrK l (k + 1) ++ r = (ovrK l k ++ r).set k (l.getD k 0 ^^^ 90) := by
  rw [List.set_append_left _ _ (by rw [length_ovrK]; exact h)]
  congr 1
  unfold ovrK
  have hl : ((l.take k).map (fun x => x ^^^ 90)).length = k := by simp; omega
  rw [List.set_append_right _ _ (by omega), hl, Nat.sub_self, List.drop_eq_getElem_cons (show k < l.length from h), List.set_cons_zero, List.take_succ_eq_append_getElem h, List.map_append, List.append_assoc]
  simp [h]

set_option maxRecDepth 100000 in
theorem OverAt_any (g n m c c' base : Nat) (l r : List UInt8) (w : World) (h : w.ownsRow base 5 1 (.slice (some ⟨g, 0, none⟩) (n + m) c') (n + m) (bv (l ++ r))) (hl : l.length = n) (hn : n + m ≤ 140737488355328) :
    Calls Tryd.prog 22 #[.slice (some ⟨g, 0, none⟩) n c] w (fun e w' => e = .returned (.tuple #[]) ∧ w'.ownsRow base 5 1 (.slice (some ⟨g, 0, none⟩) (n + m) c') (n + m) (bv (ovr l ++ r)) ∧ w.grownBy w' (some g)) := by
  have HL := Lib.hid hl
  have H0 := Lib.hid h
  clear h hl
  go_enter Tryd.func22, Tryd.ntmps22
  go_wp2
  go_loopw [2] (fun i wr => ∃ k : Nat, k ≤ n ∧ i = .int .i64 k ∧ wr.ownsRow base 5 1 (.slice (some ⟨g, 0, none⟩) (n + m) c') (n + m) (bv (ovrK l k ++ r)) ∧ w.grownBy wr (some g)) (fun i _ => n - (intOf i).toNat)
  case atStart => exact ⟨0, by omega, rfl, by simpa [ovrK] using H0.out, World.grownBy.refl _ _⟩
  case round =>
    obtain ⟨k, hk, rfl, hown, hg⟩ := hrel
    have HO := Lib.hid hown
    have HG := Lib.hid hg
    clear hown hg
    by_cases hlt : k < n
    · have hc := HO.out.cellAt k (by omega)
      rw [bv_at _ _ (by rw [List.length_append, length_ovrK, HL.out]; omega), bt_ovrK (by rw [HL.out]; exact hlt)] at hc
      have hf := HO.out.frozenAt k
      go_wp2
      refine ⟨⟨k + 1, by omega, by go_num, ?_, HG.out.trans (HO.out.stored k _).2⟩, by simp [intOf]; omega⟩
      have h := (HO.out.stored k (.int .u8 ((l.getD k 0 ^^^ 90).toNat : Int))).1
      rw [bv_put', ← ovrK_succ (by rw [HL.out]; exact hlt)] at h
      unfold bt
      have e : bits BinOp.xor IntKind.u8 ((l.getD k 0).toNat : Int) 90 = ((l.getD k 0 ^^^ 90).toNat : Int) := bits_u8_xor (l.getD k 0) 90
      rw [e]
      exact h
    · obtain rfl : k = n := by omega
      have hfin := HO.out
      rw [show ovrK l k = ovr l by simp [ovrK, ovr, List.take_of_length_le (Nat.le_of_eq HL.out), List.drop_eq_nil_of_le (Nat.le_of_eq HL.out)]] at hfin
      have HF := Lib.hid hfin
      clear hfin
      go_wp2
      go_end0
      exact ⟨rfl, HF.out, HG.out⟩

set_option maxRecDepth 100000 in
/-- a row of the call's own, nil or not -/
theorem OverOwn_any (A : Option Addr) (n c base : Nat) (l : List UInt8) (w : World) (h : w.ownsRow base 5 1 (.slice A n c) n (bv l)) (hn : n ≤ 140737488355328) :
    Calls Tryd.prog 22 #[.slice A n c] w (fun e w' => e = .returned (.tuple #[]) ∧ w'.ownsRow base 5 1 (.slice A n c) n (bv (ovr l)) ∧ w.grownBy w' (Value.slice A n c).ownBlock) := by
  have hl : l.length = n := by have := h.1; rw [length_bv] at this; omega
  rcases h.2 with ⟨hv, h0⟩ | ⟨g, cap, cur, hv, _⟩
  · simp only [Value.slice.injEq] at hv
    obtain ⟨rfl, rfl, rfl⟩ := hv
    obtain rfl : l = [] := List.eq_nil_of_length_eq_zero (by omega)
    have HO := Lib.hid h
    clear h h0 hl
    go_enter Tryd.func22, Tryd.ntmps22
    go_wp2
    go_loopw [2] (fun i wr => i = .int .i64 0 ∧ wr = w) (fun _ _ => 0)
    case atStart => exact ⟨rfl, rfl⟩
    case round =>
      obtain ⟨rfl, rfl⟩ := hrel
      go_wp2
      go_end0
      exact ⟨rfl, HO.out, World.grownBy.refl _ _⟩
  · injection hv with hA _ hc
    subst hA
    have h' := OverAt_any g n 0 c c base l [] w (by simpa using h) hl (by omega)
    simp only [List.append_nil, Nat.add_zero] at h'
    exact h'.mono fun e w' hh => hh
end Go.Proofs.YtkmcjjoicpgjfaaDoor
/-
  shallotlaw18.puts, its third kind (Msg). Conditions: the sizes that slices can have.
-/
namespace Go.Proofs.YtkmcjjoicpgjfaaDoor
open Go Go.RowKit Go.Sh

set_option maxHeartbeats 2000000 in
set_option maxRecDepth 100000 in
theorem puts3a_any (b g base g0 B : Nat) (F : Nat → Prop) (p : Prg) (e : Apd) (a : Ac) (w : World) (hs : LS w b g base F p) (ha : AR w B e a) (hk : a.kind = 3) (hf : fnd (fun x => decide (x = a.text)) p.msgs < p.msgs.length) (hm : p.msgs.length ≤ 1048576) (hmi : ∀ x ∈ p.msgs, x.length ≤ 1048576) (hB : B ≤ g0) (hb : g0 ≤ b) (_ : g0 ≤ g) (_ : p.code.length ≤ 1048576) :
    Calls Tryd.prog 11 #[.pointer (some ⟨b, 0, none⟩), .pointer (some ⟨g, 0, none⟩), .agg (acs e a)] w fun x w' => x = .returned (.bool true) ∧ LS w' b g base F p ∧ Stay F g0 w w' := by
  obtain ⟨⟨Sb, Sw, d, t, d', hbb, hpb, hww, hpw, hap, hF⟩, hlb, hlg, hne, hbs⟩ := hs
  have HFF := Lib.hid hF
  clear hF
  have hba := (Below.refl w.heap.size w).alloc (Nat.le_refl _) (.cells (acs e a) 45)
  have hnew := heap_alloc_new w (.cells (acs e a) 45)
  have hsa : (w.alloc (.cells (acs e a) 45)).heap.size = w.heap.size + 1 := by simp
  have HNEW := Lib.hid hnew
  have HPB := Lib.hid (hpb.later hba)
  have HPW := Lib.hid (hpw.later hba)
  have HBB := Lib.hid (hbb.below hba hbb.lt)
  have hgs : g < w.heap.size := (Array.getElem?_eq_some_iff.1 hww).1
  have hbsz : b < w.heap.size := hbb.lt
  have HWW := Lib.hid (show BlkW _ g d' p from (hba.block g hgs).trans hww)
  have HAR := Lib.hid (ha.below (hba.mono (by omega)))
  have HAP := Lib.hid hap
  have HBA := Lib.hid hba
  have hlc : p.code.length = d.n1 := hpb.lc
  have hlc' : p.code.length = d'.n1 := hpw.lc
  have hrd := (RR.reads ha.code (by decide)).below (hba.mono (show B ≤ w.heap.size by omega))
  have HRD := Lib.hid (show Reads (w.alloc (.cells (acs e a) 45)) B 3 e.A1 e.n1 (inv a.code) from hrd)
  have hb1 := ha.b1
  clear hba hnew hpb hpw hbb hww ha hap hrd
  have HK := Lib.hid hk
  have hlm : p.msgs.length = d.n2 := HPB.out.lm
  have hlm' : p.msgs.length = d'.n2 := HPW.out.lm
  clear hk
  unfold acs at *
  go_enter Tryd.func11, Tryd.ntmps11
  go_upto_region 1 with fail
  generalize hwa : w.alloc (.cells #[.int .i64 a.kind, .int .i64 a.at_, .int .i64 a.to_, .slice e.A1 e.n1 e.c1, .slice e.A2 e.n2 e.c2, .slice e.A3 e.n3 e.c3, .int .i64 a.spec.msg, .slice e.A4 e.n4 e.c4, .int .i64 a.spec.blk] 45) = wa at *
  obtain ⟨q, hq⟩ : ∃ q, w.heap.size = q := ⟨_, rfl⟩
  rw [hq] at hsa HNEW HBA HFF hgs hbsz hbs ⊢
  have HQ := Lib.hid hq
  have HSA := Lib.hid hsa
  clear hwa hq
  have k0 : wa.cell? ⟨q, 0, none⟩ = some (.int .i64 3) := by rw [blk_cell HNEW.out, ← HK.out]; rfl
  have k4 : wa.cell? ⟨q, 4, none⟩ = some (.slice e.A2 e.n2 e.c2) := by rw [blk_cell HNEW.out]; rfl
  have kw : wa.cell? ⟨g, 1, none⟩ = some (.slice d'.A2 d'.n2 d'.c2) := blk_cell HWW.out
  have hpp : msgP p a.text = p := by rw [msgP, if_pos hf]
  have HPP := Lib.hid hpp
  have hb2 := HAR.out.b2
  obtain ⟨K, hK⟩ : ∃ K, fnd (fun x => decide (x = a.text)) p.msgs = K := ⟨_, rfl⟩
  have HMD := Lib.hid (show ∀ nd, Calls Tryd.prog 34 #[.slice d'.A2 d'.n2 d'.c2, .slice e.A2 e.n2 e.c2] (wa.drewN nd) (fun x w'' => x = .returned (.int .i64 ((fnd (fun x => decide (x = a.text)) p.msgs : Nat) : Int)) ∧ ∃ m, w'' = wa.drewN m) from fun nd => (made_any d'.A2 e.A2 d'.n2 d'.c2 e.n2 e.c2 _ _ p.msgs a.text (wa.drewN nd) (show RBB (wa.drewN nd) wa.heap.size d'.A2 d'.n2 p.msgs from HPW.out.rbb) (HAR.out.text.drewN nd) (by omega) (fun x hx => by have := hmi x hx; omega)).mono (fun x w'' h => ⟨h.1, by
    obtain ⟨dd, rfl⟩ := h.2
    exact ⟨nd + dd, by first | rfl | simp⟩⟩))
  rw [hK] at HMD hf
  have HKK := Lib.hid hK
  have HMI := Lib.hid hmi
  have hkn : ((K : Int) == (d'.n2 : Int)) = false := by rw [beq_eq_false_iff_ne]; omega
  clear hK hpp hmi
  go_wp2_with fail
  go_quiet ((go_at_call 34; exact HMD.out _))
  go_upto_region 22 with fail
  have TBB := Lib.hid (show BlkB (wa.drewN nq) b d p from HBB.out)
  have TPB := Lib.hid (HPB.out.kept (w' := wa.drewN nq) (fun _ _ => rfl) (fun _ h => h) HPB.out.lo)
  have TWW := Lib.hid (show BlkW (wa.drewN nq) g d' p from HWW.out)
  have TPW := Lib.hid (HPW.out.kept (w' := wa.drewN nq) (fun _ _ => rfl) (fun _ h => h) HPW.out.lo)
  have TBL := Lib.hid (show Below g0 w (wa.drewN nq) from bl_drewN2 (HBA.out.mono (by omega)) nq)
  have TFR := Lib.hid (show ∀ k, F k → (wa.drewN nq).heap[k]? = w.heap[k]? from fun k hk => HBA.out.block k (HFF.out k hk).1)
  have TTX := Lib.hid (show RB (wa.drewN nq) B e.A2 e.n2 a.text from HAR.out.text)
  have TZ := Lib.hid (show q + 1 ≤ (wa.drewN nq).heap.size by show q + 1 ≤ wa.heap.size; omega)
  have k4v : (wa.drewN nq).cell? ⟨q, 4, none⟩ = some (.slice e.A2 e.n2 e.c2) := k4
  clear k0 k4 kw
  generalize wa.drewN nq = wv at *
  have TNE := HAP
  have tz := TZ.out
  have HCP := Lib.hid (Copy_any e.A2 e.n2 e.c2 a.text wv B TTX.out (by omega) (by omega))
  go_wp2_with fail
  clear k4v
  refine HCP.out.mono ?_
  rintro x w2 ⟨g7, c7, rfl, hown, hb2v⟩
  have hz2 := hb2v.size
  have hog : wv.heap.size ≤ g7 ∧ g7 < w2.heap.size := hown.lt g7 rfl
  have hbb2 := TBB.out.below hb2v (by omega)
  have hpb2 := TPB.out.later hb2v
  have HMG := Lib.hid (Msg_any b base Sb d t p (some ⟨g7, 0, none⟩) e.n2 c7 w2.heap.size a.text w2 hbb2 hpb2 (RB.of_own hown) hlb (by omega) (Nat.le_refl _) (by omega) (by omega))
  rw [HKK.out] at HMG
  have HOW := Lib.hid hown
  have HB2 := Lib.hid hb2v
  have HPB2 := Lib.hid hpb2
  have hkk : ((K : Int) != (K : Int)) = false := by simp
  clear hown hb2v hbb2 hpb2 HCP
  go_wp2_with fail
  refine HMG.out.mono ?_
  rintro x w3 ⟨rfl, S3, d3, t3, r1, r2, r3, r4⟩
  have hz3 := r4.size
  have hown3 := HOW.out.kept r4 (.inr (by intro h; injection h with h; have h : g7 = b := h; omega))
  have HOV := Lib.hid (OverAt_any g7 e.n2 0 c7 c7 wv.heap.size a.text [] w3 (by simpa using hown3) (by have := TTX.out.len; exact this) (by omega))
  have R1 := Lib.hid r1
  have R2 := Lib.hid r2
  have R3 := Lib.hid r3
  have R4 := Lib.hid r4
  clear r1 r2 r3 r4 hown3 HMG
  go_wp2_with fail
  refine HOV.out.mono ?_
  rintro x w4 ⟨rfl, _, hg4⟩
  have HG4 := Lib.hid hg4
  clear hg4 HOV
  go_wp2_with fail
  go_ret
  have hg4 := HG4.out
  have hz4 := hg4.size
  have hS3 : ∀ k, S3 k → k ≠ g7 := fun k hk h => by
    rcases R3.out k hk with h1 | h1
    · have := (TPB.out.lo k h1).2; omega
    · omega
  have hold : ∀ k, k < wv.heap.size → k ≠ b → w4.heap[k]? = wv.heap[k]? := fun k hk hkb =>
    (hg4.block k (by omega) (by intro h; injection h with h; omega)).trans ((R4.out.block k (by omega) (by intro h; injection h with h; exact hkb h)).trans (HB2.out.block k hk))
  refine ⟨rfl, ⟨⟨S3, Sw, d3, t3, d', ?_, ?_, ?_, ?_, ?_, ?_⟩, hlb, hlg, hne, by omega⟩, ?_, ?_⟩
  · have := R1.out
    rw [HPP.out] at this
    exact (hg4.block b (by omega) (by intro h; injection h with h; omega)).trans this
  · have := R2.out
    rw [HPP.out] at this
    exact this.kept (fun k hk => hg4.block k (this.lo k hk).2 (by intro h; injection h with h; exact hS3 k hk h)) (fun _ h => h) fun k hk => ⟨(this.lo k hk).1, by have := (this.lo k hk).2; omega⟩
  · exact (hold g (by omega) (fun h => hne h.symm)).trans TWW.out
  · exact TPW.out.kept (fun k hk => hold k (TPW.out.lo k hk).2 (by have := (TPW.out.lo k hk).1; omega)) (fun _ h => h) fun k hk => ⟨(TPW.out.lo k hk).1, by have := (TPW.out.lo k hk).2; omega⟩
  · intro k hk hk2
    rcases R3.out k hk with h1 | h1
    · exact TNE.out k h1 hk2
    · have := (TPW.out.lo k hk2).2; omega
  · intro k hk
    obtain ⟨f1, f2, f3, f4, f5⟩ := HFF.out k hk
    refine ⟨by omega, f2, f3, fun h => ?_, f5⟩
    rcases R3.out k h with h3 | h3
    · exact f4 h3
    · omega
  · exact ⟨hg4.os.trans (R4.out.os.trans (HB2.out.os.trans TBL.out.os)), hg4.tape.trans (R4.out.tape.trans (HB2.out.tape.trans TBL.out.tape)), hg4.output.trans (R4.out.output.trans (HB2.out.output.trans TBL.out.output)), by have := TBL.out.size; omega, fun k hk => (hold k (by omega) (by omega)).trans (TBL.out.block k hk)⟩
  · intro k hk
    obtain ⟨f1, f2, f3, f4, f5⟩ := HFF.out k hk
    exact (hold k (by omega) f2).trans (TFR.out k hk)
end Go.Proofs.YtkmcjjoicpgjfaaDoor
/-
  A message more in the law's own program: its rows behind the append. Conditions: none.
-/
namespace Go.Proofs.YtkmcjjoicpgjfaaDoor
open Go Go.RowKit Go.Sh

theorem PO.addMsg {w w' : World} {base z : Nat} {S : Nat → Prop} {d : Pad} {p : Prg} (h : PO w base S d d p) {A7 A' : Option Addr} {n7 c7 c' : Nat} {l : List UInt8} (hin : w.ownsRow base 5 1 (.slice A7 n7 c7) n7 (bv l)) (hz : ∀ k, (Value.slice A7 n7 c7).ownBlock = some k → z ≤ k)
    {vm : List Value} (hm : OwS w base S 39 1 (.slice d.A2 d.n2 d.c2) d.n2 vm) (im : ∀ i, i < d.n2 → ∃ Ai ni ci, vm[i]? = some (.slice Ai ni ci) ∧ OwS w base S 5 1 (.slice Ai ni ci) ni (bv (lat p.msgs i)))
    (hg : w.grownBy w' (Value.slice d.A2 d.n2 d.c2).ownBlock) (ho : w'.ownsRow base 39 1 (.slice A' (d.n2 + 1) c') (d.n2 + 1) (vm ++ [.slice A7 n7 c7]))
    (hA : (Value.slice A' (d.n2 + 1) c').ownBlock = (Value.slice d.A2 d.n2 d.c2).ownBlock ∨ (Value.slice A' (d.n2 + 1) c').ownBlock = some w.heap.size) (hzw : z ≤ w.heap.size) (hbz : base ≤ z) :
    PO w' base (fun k => S k ∨ (z ≤ k ∧ k < w'.heap.size)) { d with A2 := A', n2 := d.n2 + 1, c2 := c' } { d with A2 := A', n2 := d.n2 + 1, c2 := c' } { p with msgs := p.msgs ++ [l] } := by
  obtain ⟨lo, code, lc, lm, _, lr, ⟨vr, hr, ir⟩, ls, ⟨vs, hsn, hl4, h3, is⟩, k1, k2, k3, k4⟩ := h
  have keep : ∀ {e size n : Nat} {v' : Value} {xs : List Value}, OwS w base S e size v' n xs → e ≠ 39 → OwS w' base (fun k => S k ∨ (z ≤ k ∧ k < w'.heap.size)) e size v' n xs := fun ho hne => ⟨ho.1.kept hg (own_ne ho.1 hm.1 hne), fun k hk => .inl (ho.2 k hk)⟩
  have hvl : vm.length = d.n2 := by have := hm.1.1; omega
  refine ⟨fun k hk => ?_, keep code (by decide), lc, ?_, ⟨vm ++ [.slice A7 n7 c7], ⟨ho, fun k hk => ?_⟩, fun i hi => ?_⟩, lr, ⟨vr, keep hr (by decide), fun i hi => ?_⟩, ls, ⟨vs, keep hsn (by decide), hl4, h3, fun i hi => ?_⟩, k1, own_cap ho, k3, k4⟩
  · rcases hk with hk | hk
    · exact ⟨(lo k hk).1, Nat.lt_of_lt_of_le (lo k hk).2 hg.size⟩
    · exact ⟨by omega, hk.2⟩
  · show (p.msgs ++ [l]).length = d.n2 + 1
    rw [List.length_append, lm]; rfl
  · rcases hA with h | h
    · exact .inl (hm.2 k (h.symm.trans hk))
    · have h2 := (ho.lt k hk).2
      have hk2 : (Value.slice A' (d.n2 + 1) c').ownBlock = some k := hk
      rw [h] at hk2
      injection hk2 with hk2
      exact .inr ⟨by omega, h2⟩
  · by_cases e : i < d.n2
    · obtain ⟨Ai, ni, ci, h1, h2⟩ := im i e
      have e1 : lat (p.msgs ++ [l]) i = lat p.msgs i := by simp [lat, List.getElem?_append_left (show i < p.msgs.length by omega)]
      refine ⟨Ai, ni, ci, by rw [List.getElem?_append_left (by omega)]; exact h1, ?_⟩
      rw [show lat ({ p with msgs := p.msgs ++ [l] } : Prg).msgs i = lat p.msgs i from e1]
      exact keep h2 (by decide)
    · have hie : i = d.n2 := by have : i < d.n2 + 1 := hi; omega
      subst hie
      have e1 : lat (p.msgs ++ [l]) d.n2 = l := by simp [lat, ← lm]
      refine ⟨A7, n7, c7, by rw [List.getElem?_append_right (by omega), hvl, Nat.sub_self]; rfl, ?_, fun k hk => ?_⟩
      · rw [show lat ({ p with msgs := p.msgs ++ [l] } : Prg).msgs d.n2 = l from e1]
        exact hin.kept hg (own_ne hin hm.1 (by decide))
      · exact .inr ⟨hz k hk, Nat.lt_of_lt_of_le (hin.lt k hk).2 hg.size⟩
  · obtain ⟨Ai, ni, ci, h1, h2, h3⟩ := ir i hi
    exact ⟨Ai, ni, ci, h1, keep h2 (by decide), h3⟩
  · obtain ⟨Ai, ni, ci, h1, h2, h3⟩ := is i hi
    exact ⟨Ai, ni, ci, h1, keep h2 (by decide), h3⟩
end Go.Proofs.YtkmcjjoicpgjfaaDoor
/-
  shallotlaw18.puts, its third kind (Msg), where the message is new. Conditions: the sizes that slices can have.
-/
namespace Go.Proofs.YtkmcjjoicpgjfaaDoor
open Go Go.RowKit Go.Sh

set_option maxHeartbeats 2000000 in
set_option maxRecDepth 100000 in
theorem puts3b_any (b g base g0 B : Nat) (F : Nat → Prop) (p : Prg) (e : Apd) (a : Ac) (w : World) (hs : LS w b g base F p) (ha : AR w B e a) (hk : a.kind = 3) (hf : fnd (fun x => decide (x = a.text)) p.msgs = p.msgs.length) (hm : p.msgs.length ≤ 1048576) (hmi : ∀ x ∈ p.msgs, x.length ≤ 1048576) (hB : B ≤ g0) (hb : g0 ≤ b) (_ : g0 ≤ g) (_ : p.code.length ≤ 1048576) :
    Calls Tryd.prog 11 #[.pointer (some ⟨b, 0, none⟩), .pointer (some ⟨g, 0, none⟩), .agg (acs e a)] w fun x w' => x = .returned (.bool true) ∧ LS w' b g base F { p with msgs := p.msgs ++ [a.text] } ∧ Stay F g0 w w' := by
  obtain ⟨⟨Sb, Sw, d, t, d', hbb, hpb, hww, hpw, hap, hF⟩, hlb, hlg, hne, hbs⟩ := hs
  have HFF := Lib.hid hF
  clear hF
  have hba := (Below.refl w.heap.size w).alloc (Nat.le_refl _) (.cells (acs e a) 45)
  have hnew := heap_alloc_new w (.cells (acs e a) 45)
  have hsa : (w.alloc (.cells (acs e a) 45)).heap.size = w.heap.size + 1 := by simp
  have HNEW := Lib.hid hnew
  have HPB := Lib.hid (hpb.later hba)
  have HPW := Lib.hid (hpw.later hba)
  have HLOW := Lib.hid hpw.lo
  have HBB := Lib.hid (hbb.below hba hbb.lt)
  have hgs : g < w.heap.size := (Array.getElem?_eq_some_iff.1 hww).1
  have hbsz : b < w.heap.size := hbb.lt
  have HWW := Lib.hid (show BlkW _ g d' p from (hba.block g hgs).trans hww)
  have HAR := Lib.hid (ha.below (hba.mono (by omega)))
  have HAP := Lib.hid hap
  have HBA := Lib.hid hba
  have hlc : p.code.length = d.n1 := hpb.lc
  have hlc' : p.code.length = d'.n1 := hpw.lc
  have hrd := (RR.reads ha.code (by decide)).below (hba.mono (show B ≤ w.heap.size by omega))
  have HRD := Lib.hid (show Reads (w.alloc (.cells (acs e a) 45)) B 3 e.A1 e.n1 (inv a.code) from hrd)
  have hb1 := ha.b1
  clear hba hnew hpb hpw hbb hww ha hap hrd
  have HK := Lib.hid hk
  have hlm : p.msgs.length = d.n2 := HPB.out.lm
  have hlm' : p.msgs.length = d'.n2 := HPW.out.lm
  clear hk
  unfold acs at *
  go_enter Tryd.func11, Tryd.ntmps11
  go_upto_region 1 with fail
  generalize hwa : w.alloc (.cells #[.int .i64 a.kind, .int .i64 a.at_, .int .i64 a.to_, .slice e.A1 e.n1 e.c1, .slice e.A2 e.n2 e.c2, .slice e.A3 e.n3 e.c3, .int .i64 a.spec.msg, .slice e.A4 e.n4 e.c4, .int .i64 a.spec.blk] 45) = wa at *
  obtain ⟨q, hq⟩ : ∃ q, w.heap.size = q := ⟨_, rfl⟩
  rw [hq] at hsa HNEW HBA HFF hgs hbsz hbs ⊢
  have HQ := Lib.hid hq
  have HSA := Lib.hid hsa
  clear hwa hq
  have k0 : wa.cell? ⟨q, 0, none⟩ = some (.int .i64 3) := by rw [blk_cell HNEW.out, ← HK.out]; rfl
  have k4 : wa.cell? ⟨q, 4, none⟩ = some (.slice e.A2 e.n2 e.c2) := by rw [blk_cell HNEW.out]; rfl
  have kw : wa.cell? ⟨g, 1, none⟩ = some (.slice d'.A2 d'.n2 d'.c2) := blk_cell HWW.out
  have hpp : msgP p a.text = { p with msgs := p.msgs ++ [a.text] } := by rw [msgP, if_neg (by rw [hf]; omega)]
  have HPP := Lib.hid hpp
  have hb2 := HAR.out.b2
  obtain ⟨K, hK⟩ : ∃ K, fnd (fun x => decide (x = a.text)) p.msgs = K := ⟨_, rfl⟩
  have HMD := Lib.hid (show ∀ nd, Calls Tryd.prog 34 #[.slice d'.A2 d'.n2 d'.c2, .slice e.A2 e.n2 e.c2] (wa.drewN nd) (fun x w'' => x = .returned (.int .i64 ((fnd (fun x => decide (x = a.text)) p.msgs : Nat) : Int)) ∧ ∃ m, w'' = wa.drewN m) from fun nd => (made_any d'.A2 e.A2 d'.n2 d'.c2 e.n2 e.c2 _ _ p.msgs a.text (wa.drewN nd) (show RBB (wa.drewN nd) wa.heap.size d'.A2 d'.n2 p.msgs from HPW.out.rbb) (HAR.out.text.drewN nd) (by omega) (fun x hx => by have := hmi x hx; omega)).mono (fun x w'' h => ⟨h.1, by
    obtain ⟨dd, rfl⟩ := h.2
    exact ⟨nd + dd, by first | rfl | simp⟩⟩))
  rw [hK] at HMD hf
  have HKK := Lib.hid hK
  have HMI := Lib.hid hmi
  have hkn : ((K : Int) == (d'.n2 : Int)) = true := by rw [beq_iff_eq]; omega
  clear hK hpp hmi
  go_wp2_with fail
  go_quiet ((go_at_call 34; exact HMD.out _))
  have TBK := Lib.hid (show BlkB (wa.drewN nq) b d p from HBB.out)
  have TPB := Lib.hid (HPB.out.kept (w' := wa.drewN nq) (fun _ _ => rfl) (fun _ h => h) HPB.out.lo)
  have TWW := Lib.hid (show BlkW (wa.drewN nq) g d' p from HWW.out)
  have TPW := Lib.hid (HPW.out.kept (w' := wa.drewN nq) (fun _ _ => rfl) (fun _ h => h) HPW.out.lo)
  have TBL := Lib.hid (show Below g0 w (wa.drewN nq) from bl_drewN2 (HBA.out.mono (by omega)) nq)
  have TFR := Lib.hid (show ∀ k, F k → (wa.drewN nq).heap[k]? = w.heap[k]? from fun k hk => HBA.out.block k (HFF.out k hk).1)
  have TTX := Lib.hid (show RB (wa.drewN nq) B e.A2 e.n2 a.text from HAR.out.text)
  have TZ := Lib.hid (show q + 1 ≤ (wa.drewN nq).heap.size by show q + 1 ≤ wa.heap.size; omega)
  have k4v : (wa.drewN nq).cell? ⟨q, 4, none⟩ = some (.slice e.A2 e.n2 e.c2) := k4
  have kwv : (wa.drewN nq).cell? ⟨g, 1, none⟩ = some (.slice d'.A2 d'.n2 d'.c2) := kw
  have hqv : (wa.drewN nq).heap[q]? = _ := HNEW.out
  have HQV := Lib.hid hqv
  clear k0 k4 kw hqv
  generalize wa.drewN nq = wv at *
  have KW1 := Lib.hid (show wv.drew.cell? ⟨g, 1, none⟩ = some (.slice d'.A2 d'.n2 d'.c2) from kwv)
  have KW4 := Lib.hid (show wv.drew.cell? ⟨q, 4, none⟩ = some (.slice e.A2 e.n2 e.c2) from k4v)
  have tz := TZ.out
  have HCP := Lib.hid (Copy_any e.A2 e.n2 e.c2 a.text wv.drew B (show RB wv.drew B e.A2 e.n2 a.text from TTX.out) (show B ≤ wv.heap.size by omega) (by omega))
  go_upto_region 21 with fail
  clear kwv k4v
  refine wp_region_noPanic ?_
  refine wp_region_until (S := fun W => W.cell? ⟨g, 1, none⟩ = some (.slice d'.A2 d'.n2 d'.c2) ∧ W.cell? ⟨q, 4, none⟩ = some (.slice e.A2 e.n2 e.c2)) 12 (by kernel_rfl) ?_ (fun hHeld => ?_)
  · (try dsimp only)
    exact ⟨KW1.out, KW4.out⟩
  refine wpAnyU_takeY (i := 0) (v := ?v1) rfl (by kernel_rfl) (fun _ _ _ h => h) (Or.inl ⟨by rfl, ?y1⟩) (by assumption) ?r1
  case y1 => (intro W; first | (go_simp; done) | (go_simp; with_reducible rfl))
  (try simp only [List.getElem_toArray, List.getElem_cons_zero, Act.put, List.setIfInBounds_toArray, List.set_cons_zero, List.set_cons_succ])
  refine wpAnyU_takeY (i := 1) (v := ?v2) rfl (by kernel_rfl) (fun _ _ _ h => h) (Or.inl ⟨by rfl, ?y2⟩) (by assumption) ?r2
  case y2 => (intro W; first | (go_simp; done) | (go_simp; with_reducible rfl))
  (try simp only [List.getElem_toArray, List.getElem_cons_zero, List.getElem_cons_succ, Act.put, List.setIfInBounds_toArray, List.set_cons_zero, List.set_cons_succ])
  refine wpAnyU_takeY (i := 2) (v := ?v3) rfl (by kernel_rfl) (fun _ _ _ h => h) (Or.inl ⟨by rfl, ?y3⟩) (by assumption) ?r3
  case y3 => (intro W; first | (go_simp; done) | (go_simp; with_reducible rfl))
  (try simp only [List.getElem_toArray, List.getElem_cons_zero, List.getElem_cons_succ, Act.put, List.setIfInBounds_toArray, List.set_cons_zero, List.set_cons_succ])
  refine wpAnyU_takeY (i := 3) (v := ?v4) rfl (by kernel_rfl) (fun _ _ _ h => h) (Or.inl ⟨by rfl, ?y4⟩) (by assumption) ?r4
  case y4 => (intro W; first | (go_simp; done) | (go_simp; with_reducible rfl))
  (try simp only [List.getElem_toArray, List.getElem_cons_zero, List.getElem_cons_succ, Act.put, List.setIfInBounds_toArray, List.set_cons_zero, List.set_cons_succ])
  refine wpAnyU_takeW (i := 4) (v := ?v5) rfl (by kernel_rfl) (fun _ _ _ h => h) (Or.inl ⟨by rfl, ?y5⟩) (by assumption) ?r5
  case y5 => (intro W hSW; (try dsimp only at hSW); first | (go_simp; done) | (go_simp; with_reducible rfl))
  (try simp only [List.getElem_toArray, List.getElem_cons_zero, List.getElem_cons_succ, Act.put, List.setIfInBounds_toArray, List.set_cons_zero, List.set_cons_succ])
  refine wpAnyU_takeY (i := 5) (v := ?v6) rfl (by kernel_rfl) (fun _ _ _ h => h) (Or.inl ⟨by rfl, ?y6⟩) (by assumption) ?r6
  case y6 => (intro W; first | (go_simp; done) | (go_simp; with_reducible rfl))
  (try simp only [List.getElem_toArray, List.getElem_cons_zero, List.getElem_cons_succ, Act.put, List.setIfInBounds_toArray, List.set_cons_zero, List.set_cons_succ])
  refine wpAnyU_takeW (i := 6) (v := ?v7) rfl (by kernel_rfl) (fun _ _ _ h => h) (Or.inl ⟨by rfl, ?y7⟩) (by assumption) ?r7
  case y7 => (intro W hSW; (try dsimp only at hSW); first | (go_simp; done) | (go_simp; with_reducible rfl))
  (try simp only [List.getElem_toArray, List.getElem_cons_zero, List.getElem_cons_succ, Act.put, List.setIfInBounds_toArray, List.set_cons_zero, List.set_cons_succ])
  refine wpAnyU_one (i := 7) rfl (by decide) (by kernel_rfl) (by rfl) (fun K' hK' => ?_)
  have HKP := Lib.hid hK'
  clear hK'
  go_simp
  refine HCP.out.mono ?_
  rintro x w2 ⟨g7, c7, rfl, hown7, hb7⟩
  have hg2 : BlkW w2 g d' p := (hb7.block g (show g < wv.heap.size by omega)).trans (show BlkW wv.drew g d' p from TWW.out)
  have hq2 := (hb7.block q (show q < wv.heap.size by omega)).trans (show wv.drew.heap[q]? = _ from HQV.out)
  have KB1 := Lib.hid (show w2.cell? ⟨g, 1, none⟩ = some (.slice d'.A2 d'.n2 d'.c2) from blk_cell hg2)
  have KB4 := Lib.hid (show w2.cell? ⟨q, 4, none⟩ = some (.slice e.A2 e.n2 e.c2) from blk_cell hq2)
  refine HKP.out _ _ ⟨KB1.out, KB4.out⟩ ?_
  clear HKP K'
  (try simp only [List.getElem_toArray, List.getElem_cons_zero, List.getElem_cons_succ, Act.put, List.setIfInBounds_toArray, List.set_cons_zero, List.set_cons_succ])
  have hz2 : wv.heap.size ≤ w2.heap.size := hb7.size
  have hog : wv.heap.size ≤ g7 ∧ g7 < w2.heap.size := hown7.lt g7 rfl
  have hal := (Below.refl w2.heap.size w2).alloc (Nat.le_refl _) (.cells #[.slice (some ⟨g7, 0, none⟩) e.n2 c7] 39)
  have hs3 : (w2.alloc (.cells #[.slice (some ⟨g7, 0, none⟩) e.n2 c7] 39)).heap.size = w2.heap.size + 1 := by simp
  have hpw2 : PO w2 base Sw d' d' p := TPW.out.kept (fun k hk => hb7.block k (TPW.out.lo k hk).2) (fun _ h => h) fun k hk => ⟨(TPW.out.lo k hk).1, by have := (TPW.out.lo k hk).2; omega⟩
  have hpw3 := hpw2.later hal
  obtain ⟨vm, hvm, him⟩ := hpw3.msgs
  have hin3 := own_later (own_base hown7 (show base ≤ wv.heap.size by omega)) hal
  have hlit := Reads.lit w2 39 [.slice (some ⟨g7, 0, none⟩) e.n2 c7] 1 1 rfl w2.heap.size rfl
  have hg3 := (hal.block g (by omega)).trans hg2
  have hq3 := (hal.block q (by omega)).trans hq2
  have KD1 := Lib.hid (show (w2.alloc (.cells #[.slice (some ⟨g7, 0, none⟩) e.n2 c7] 39)).cell? ⟨g, 1, none⟩ = some (.slice d'.A2 d'.n2 d'.c2) from blk_cell hg3)
  have KD4 := Lib.hid (show (w2.alloc (.cells #[.slice (some ⟨g7, 0, none⟩) e.n2 c7] 39)).cell? ⟨q, 4, none⟩ = some (.slice e.A2 e.n2 e.c2) from blk_cell hq3)
  refine wpAnyU_one (i := 8) rfl (by decide) (by kernel_rfl) (by rfl) (fun K' hK' => ?_)
  have HKP := Lib.hid hK'
  clear hK'
  go_simp
  refine HKP.out _ _ ⟨KD1.out, KD4.out⟩ ?_
  clear HKP K'
  (try simp only [List.getElem_toArray, List.getElem_cons_zero, List.getElem_cons_succ, Act.put, List.setIfInBounds_toArray, List.set_cons_zero, List.set_cons_succ])
  obtain ⟨A8, c8, w6, hrun, hown8, hg8, hA8⟩ := run_app (P := Tryd.prog) TBB (w2.alloc (.cells #[.slice (some ⟨g7, 0, none⟩) e.n2 c7] 39)) 26 base _ d'.n2 vm hvm.1 (w2.heap.size + 1) (some ⟨w2.heap.size, 0, none⟩) 1 1 _ hlit (fun u hu => by obtain rfl := List.mem_singleton.1 hu; rfl) (by omega) (by omega) (by rw [hs3]; omega)
  have hob : ∀ k, (Value.slice d'.A2 d'.n2 d'.c2).ownBlock = some k → base ≤ k ∧ k < w.heap.size := fun k hk => HLOW.out k (hvm.2 k hk)
  have hqw : w.heap.size = q := HQ.out
  have hpw6 := hpw3.addMsg hin3 (z := wv.heap.size) (fun k hk => by injection hk with hk; have hk : g7 = k := hk; omega) hvm him hg8 hown8 (by rcases hA8 with h | h; exact .inl h; exact .inr h) (by omega) (by omega)
  have hz6 : w2.heap.size + 1 ≤ w6.heap.size := by have := hg8.size; omega
  have hg6 : BlkW w6 g d' p := (hg8.block g (by omega) (by intro h; have := (hob g h.symm).1; omega)).trans hg3
  have hq6 := (hg8.block q (by omega) (by intro h; have := (hob q h.symm).2; omega)).trans hq3
  have KE1 := Lib.hid (show w6.cell? ⟨g, 1, none⟩ = some (.slice d'.A2 d'.n2 d'.c2) from blk_cell hg6)
  have KE4 := Lib.hid (show w6.cell? ⟨q, 4, none⟩ = some (.slice e.A2 e.n2 e.c2) from blk_cell hq6)
  have FE1 := Lib.hid (show w6.frozen? ⟨g, 1, none⟩ = false from frozen_of_row _ _ 1 _ _ hg6)
  have HRUN := Lib.hid hrun
  clear hrun
  refine wpAnyU_one (i := 9) rfl (by decide) (by kernel_rfl) (by rfl) (fun K' hK' => ?_)
  have HKP := Lib.hid hK'
  clear hK'
  refine Lib.wp_append_run _ (.tmp 110) (.tmp 114) 26 26 rfl _ _ rfl rfl _ _ HRUN.out ?_
  refine HKP.out _ _ ⟨KE1.out, KE4.out⟩ ?_
  clear HKP K'
  (try simp only [List.getElem_toArray, List.getElem_cons_zero, List.getElem_cons_succ, Act.put, List.setIfInBounds_toArray, List.set_cons_zero, List.set_cons_succ])
  have hHeld2 : w6.cell? ⟨g, 1, none⟩ = some (.slice d'.A2 d'.n2 d'.c2) ∧ w6.cell? ⟨q, 4, none⟩ = some (.slice e.A2 e.n2 e.c2) := ⟨KE1.out, KE4.out⟩
  refine wpAnyU_takeY (i := 10) (v := ?v51) rfl (by kernel_rfl) (fun _ _ _ h => h) (Or.inl ⟨by rfl, ?y51⟩) (by assumption) ?r51
  case y51 => (intro W; first | (go_simp; done) | (go_simp; with_reducible rfl))
  (try simp only [List.getElem_toArray, List.getElem_cons_zero, List.getElem_cons_succ, Act.put, List.setIfInBounds_toArray, List.set_cons_zero, List.set_cons_succ])
  refine wpAnyU_takeY (i := 11) (v := ?v52) rfl (by kernel_rfl) (fun _ _ _ h => h) (Or.inl ⟨by rfl, ?y52⟩) (by assumption) ?r52
  case y52 => (intro W; first | (go_simp; done) | (go_simp; with_reducible rfl))
  (try simp only [List.getElem_toArray, List.getElem_cons_zero, List.getElem_cons_succ, Act.put, List.setIfInBounds_toArray, List.set_cons_zero, List.set_cons_succ])
  refine wpAnyU_at (c := 12) rfl (by kernel_rfl) (by rfl) (fun K hK => ?_)
  have HK := Lib.hid hK
  clear hK
  have kc := KE1.out
  have fc := FE1.out
  go_simp
  refine HK.out _ _ ?_
  clear HK K
  (try simp only [List.getElem_toArray, List.getElem_cons_zero, List.getElem_cons_succ, Act.put, List.setIfInBounds_toArray, List.set_cons_zero, List.set_cons_succ])
  refine wpAny_done (by kernel_rfl) ?_ _
  refine NoPanic.normal ?_
  clear kc fc hHeld hHeld2
  have hbase6 : ∀ k, k < wv.heap.size → ¬ Sw k → k ≠ g → (w6.setCell ⟨g, 1, none⟩ (.slice A8 (d'.n2 + 1) c8)).heap[k]? = wv.heap[k]? := fun k hk hns hkg => by
    have h1 : (w6.setCell ⟨g, 1, none⟩ (.slice A8 (d'.n2 + 1) c8)).heap[k]? = w6.heap[k]? := Below.heap_setCell w6 ⟨g, 1, none⟩ _ k hkg
    rw [h1, hg8.block k (by omega) (fun h => hns (hvm.2 k h.symm)), hal.block k (by omega)]
    exact hb7.block k hk
  have hsW : (w6.setCell ⟨g, 1, none⟩ (.slice A8 (d'.n2 + 1) c8)).heap.size = w6.heap.size := by simp
  have hnS : ∀ k, k < base → ¬ Sw k := fun k hk h => by have := (TPW.out.lo k h).1; omega
  have UBK := Lib.hid (show BlkB (w6.setCell ⟨g, 1, none⟩ (.slice A8 (d'.n2 + 1) c8)) b d p from (hbase6 b (by omega) (hnS b hlb) hne).trans TBK.out)
  have UPB := Lib.hid (TPB.out.kept (w' := (w6.setCell ⟨g, 1, none⟩ (.slice A8 (d'.n2 + 1) c8))) (fun k hk => hbase6 k (TPB.out.lo k hk).2 (HAP.out k hk) (by have := (TPB.out.lo k hk).1; omega)) (fun _ h => h) fun k hk => ⟨(TPB.out.lo k hk).1, by have := (TPB.out.lo k hk).2; omega⟩)
  have UWW := Lib.hid (show BlkW (w6.setCell ⟨g, 1, none⟩ (.slice A8 (d'.n2 + 1) c8)) g { d' with A2 := A8, n2 := d'.n2 + 1, c2 := c8 } { p with msgs := p.msgs ++ [a.text] } from blk_set hg6 _)
  have UPW := Lib.hid (hpw6.kept (w' := (w6.setCell ⟨g, 1, none⟩ (.slice A8 (d'.n2 + 1) c8))) (fun k hk => Below.heap_setCell w6 ⟨g, 1, none⟩ _ k (show k ≠ g by have := (hpw6.lo k hk).1; omega)) (fun _ h => h) fun k hk => ⟨(hpw6.lo k hk).1, by have := (hpw6.lo k hk).2; omega⟩)
  have UNE := Lib.hid (show ∀ k, Sb k → ¬ (Sw k ∨ (wv.heap.size ≤ k ∧ k < w6.heap.size)) from fun k hk h => by
    rcases h with h | h
    · exact HAP.out k hk h
    · have := (TPB.out.lo k hk).2; omega)
  have hosW := grown_setCell w6 g 1 (.slice A8 (d'.n2 + 1) c8)
  have UBL := Lib.hid (show Below g0 w (w6.setCell ⟨g, 1, none⟩ (.slice A8 (d'.n2 + 1) c8)) from ⟨hosW.os.trans (hg8.os.trans (hal.os.trans (hb7.os.trans TBL.out.os))), hosW.tape.trans (hg8.tape.trans (hal.tape.trans (hb7.tape.trans TBL.out.tape))), hosW.output.trans (hg8.output.trans (hal.output.trans (hb7.output.trans TBL.out.output))), by have := TBL.out.size; omega, fun k hk => (hbase6 k (by omega) (hnS k (by omega)) (by omega)).trans (TBL.out.block k hk)⟩)
  have UFR := Lib.hid (show ∀ k, F k → (w6.setCell ⟨g, 1, none⟩ (.slice A8 (d'.n2 + 1) c8)).heap[k]? = w.heap[k]? from fun k hk => by
    obtain ⟨f1, f2, f3, f4, f5⟩ := HFF.out k hk
    exact (hbase6 k (by omega) f5 f3).trans (TFR.out k hk))
  have UNF := Lib.hid (show ∀ k, F k → ¬ (Sw k ∨ (wv.heap.size ≤ k ∧ k < w6.heap.size)) from fun k hk h => by
    obtain ⟨f1, f2, f3, f4, f5⟩ := HFF.out k hk
    rcases h with h | h
    · exact f5 h
    · omega)
  have hBB : Below B wv (w6.setCell ⟨g, 1, none⟩ (.slice A8 (d'.n2 + 1) c8)) := ⟨hosW.os.trans (hg8.os.trans (hal.os.trans hb7.os)), hosW.tape.trans (hg8.tape.trans (hal.tape.trans hb7.tape)), hosW.output.trans (hg8.output.trans (hal.output.trans hb7.output)), by omega, fun k hk => hbase6 k (by omega) (hnS k (by omega)) (by omega)⟩
  have UTX := Lib.hid (TTX.out.below hBB)
  have UZ := Lib.hid (show q + 1 ≤ (w6.setCell ⟨g, 1, none⟩ (.slice A8 (d'.n2 + 1) c8)).heap.size by omega)
  have k4v : (w6.setCell ⟨g, 1, none⟩ (.slice A8 (d'.n2 + 1) c8)).cell? ⟨q, 4, none⟩ = some (.slice e.A2 e.n2 e.c2) := by
    have h := (Below.heap_setCell w6 ⟨g, 1, none⟩ (.slice A8 (d'.n2 + 1) c8) q (show q ≠ g by omega)).trans hq6
    rw [blk_cell h]; rfl
  have HSW := Lib.hid (show ∀ k, Sw k ∨ (wv.heap.size ≤ k ∧ k < w6.heap.size) → True from fun _ _ => trivial)
  clear hbase6 hsW hnS TBK TPB TWW TPW TBL TFR TTX TZ hosW hBB hg8 hal hb7 hvm him hin3 hlit hpw2 hpw3 hpw6 hown7 hown8 hg2 hq2 hg3 hq3 hg6 hq6 hA8 hob KB1 KB4 KD1 KD4 KE1 KE4 FE1 HRUN KW1 KW4 HQV HCP HSW hs3 tz
  have TBK := UBK
  have TPB := UPB
  have TWW := UWW
  have TPW := UPW
  have TNE := UNE
  have TBL := UBL
  have TFR := UFR
  have TTX := UTX
  have TZ := UZ
  clear UBK UPB UWW UPW UNE UBL UTX UZ UFR
  generalize (w6.setCell ⟨g, 1, none⟩ (.slice A8 (d'.n2 + 1) c8)) = wu at *
  have tz := TZ.out
  have HCP := Lib.hid (Copy_any e.A2 e.n2 e.c2 a.text wu B TTX.out (by omega) (by omega))
  go_wp2_with fail
  clear k4v
  refine HCP.out.mono ?_
  rintro x x2 ⟨g9, c9, rfl, hown, hb2v⟩
  have hy2 := hb2v.size
  have hoh : wu.heap.size ≤ g9 ∧ g9 < x2.heap.size := hown.lt g9 rfl
  have hbb2 := TBK.out.below hb2v (by omega)
  have hpb2 := TPB.out.later hb2v
  have HMG := Lib.hid (Msg_any b base Sb d t p (some ⟨g9, 0, none⟩) e.n2 c9 x2.heap.size a.text x2 hbb2 hpb2 (RB.of_own hown) hlb (by omega) (Nat.le_refl _) (by omega) (by omega))
  rw [HKK.out] at HMG
  have HOW := Lib.hid hown
  have HB2 := Lib.hid hb2v
  have HPB2 := Lib.hid hpb2
  have hkk : ((K : Int) != (K : Int)) = false := by simp
  clear hown hb2v hbb2 hpb2 HCP
  go_wp2_with fail
  refine HMG.out.mono ?_
  rintro x x3 ⟨rfl, S3, d3, t3, r1, r2, r3, r4⟩
  have hy3 := r4.size
  have hown3 := HOW.out.kept r4 (.inr (by intro h; injection h with h; have h : g9 = b := h; omega))
  have HOV := Lib.hid (OverAt_any g9 e.n2 0 c9 c9 wu.heap.size a.text [] x3 (by simpa using hown3) (by have := TTX.out.len; exact this) (by omega))
  have R1 := Lib.hid r1
  have R2 := Lib.hid r2
  have R3 := Lib.hid r3
  have R4 := Lib.hid r4
  clear r1 r2 r3 r4 hown3 HMG
  go_wp2_with fail
  refine HOV.out.mono ?_
  rintro x x4 ⟨rfl, _, hg4⟩
  have HG4 := Lib.hid hg4
  clear hg4 HOV
  go_wp2_with fail
  go_ret
  have hg4 := HG4.out
  have hy4 := hg4.size
  have hS3 : ∀ k, S3 k → k ≠ g9 := fun k hk h => by
    rcases R3.out k hk with h1 | h1
    · have := (TPB.out.lo k h1).2; omega
    · omega
  have hold : ∀ k, k < wu.heap.size → k ≠ b → x4.heap[k]? = wu.heap[k]? := fun k hk hkb =>
    (hg4.block k (by omega) (by intro h; injection h with h; omega)).trans ((R4.out.block k (by omega) (by intro h; injection h with h; exact hkb h)).trans (HB2.out.block k hk))
  refine ⟨rfl, ⟨⟨S3, (fun k => Sw k ∨ (wv.heap.size ≤ k ∧ k < w6.heap.size)), d3, t3, { d' with A2 := A8, n2 := d'.n2 + 1, c2 := c8 }, ?_, ?_, ?_, ?_, ?_, ?_⟩, hlb, hlg, hne, by omega⟩, ?_, ?_⟩
  · have := R1.out
    rw [HPP.out] at this
    exact (hg4.block b (by omega) (by intro h; injection h with h; omega)).trans this
  · have := R2.out
    rw [HPP.out] at this
    exact this.kept (fun k hk => hg4.block k (this.lo k hk).2 (by intro h; injection h with h; exact hS3 k hk h)) (fun _ h => h) fun k hk => ⟨(this.lo k hk).1, by have := (this.lo k hk).2; omega⟩
  · exact (hold g (by omega) (fun h => hne h.symm)).trans TWW.out
  · exact TPW.out.kept (fun k hk => hold k (TPW.out.lo k hk).2 (by have := (TPW.out.lo k hk).1; omega)) (fun _ h => h) fun k hk => ⟨(TPW.out.lo k hk).1, by have := (TPW.out.lo k hk).2; omega⟩
  · intro k hk hk2
    rcases R3.out k hk with h1 | h1
    · exact TNE.out k h1 hk2
    · have := (TPW.out.lo k hk2).2; omega
  · intro k hk
    obtain ⟨f1, f2, f3, f4, f5⟩ := HFF.out k hk
    refine ⟨by omega, f2, f3, fun h => ?_, UNF.out k hk⟩
    rcases R3.out k h with h3 | h3
    · exact f4 h3
    · omega
  · exact ⟨hg4.os.trans (R4.out.os.trans (HB2.out.os.trans TBL.out.os)), hg4.tape.trans (R4.out.tape.trans (HB2.out.tape.trans TBL.out.tape)), hg4.output.trans (R4.out.output.trans (HB2.out.output.trans TBL.out.output)), by have := TBL.out.size; omega, fun k hk => (hold k (by omega) (by omega)).trans (TBL.out.block k hk)⟩
  · intro k hk
    obtain ⟨f1, f2, f3, f4, f5⟩ := HFF.out k hk
    exact (hold k (by omega) f2).trans (TFR.out k hk)
end Go.Proofs.YtkmcjjoicpgjfaaDoor
/-
  shallotlaw18.puts at every kind: what both programs are behind it. Conditions: the sizes that slices can have.
-/
namespace Go.Proofs.YtkmcjjoicpgjfaaDoor
open Go Go.RowKit Go.Sh

/-- what the program is behind puts -/
def putP (p : Prg) (a : Ac) : Prg :=
  if a.kind = 1 then { p with code := p.code ++ a.code }
  else if a.kind = 2 then (if 0 ≤ a.at_ ∧ a.at_ < (p.code.length : Int) then { p with code := p.code.set a.at_.toNat { iat p.code a.at_.toNat with a := a.to_ } } else p)
  else if a.kind = 3 then msgP p a.text
  else p
theorem fnd_lt_or {α : Type} (f : α → Bool) (l : List α) : fnd f l < l.length ∨ fnd f l = l.length := Nat.lt_or_eq_of_le (fnd_le f l)
theorem puts_any (b g base g0 B : Nat) (F : Nat → Prop) (p : Prg) (e : Apd) (a : Ac) (w : World) (hs : LS w b g base F p) (ha : AR w B e a) (hB : B ≤ g0) (hb : g0 ≤ b) (hg : g0 ≤ g) (hn : p.code.length ≤ 1048576) (hm : p.msgs.length ≤ 1048576) (hmi : ∀ x ∈ p.msgs, x.length ≤ 1048576) :
    Calls Tryd.prog 11 #[.pointer (some ⟨b, 0, none⟩), .pointer (some ⟨g, 0, none⟩), .agg (acs e a)] w fun x w' => x = .returned (.bool true) ∧ LS w' b g base F (putP p a) ∧ Stay F g0 w w' := by
  by_cases h1 : a.kind = 1
  · rw [show putP p a = { p with code := p.code ++ a.code } by rw [putP, if_pos h1]]
    exact puts1_any b g base g0 B F p e a w hs ha h1 hB hb hg hn
  · by_cases h2 : a.kind = 2
    · by_cases hr : 0 ≤ a.at_ ∧ a.at_ < (p.code.length : Int)
      · rw [show putP p a = { p with code := p.code.set a.at_.toNat { iat p.code a.at_.toNat with a := a.to_ } } by rw [putP, if_neg h1, if_pos h2, if_pos hr]]
        exact puts2_any b g base g0 B F p e a w hs ha h2 a.at_.toNat (by omega) (by omega) hB hb hg hn
      · rw [show putP p a = p by rw [putP, if_neg h1, if_pos h2, if_neg hr]]
        exact putsBad_any b g base g0 B F p e a w hs ha h2 (by omega) hB hb hg hn
    · by_cases h3 : a.kind = 3
      · rw [show putP p a = msgP p a.text by rw [putP, if_neg h1, if_neg h2, if_pos h3]]
        rcases fnd_lt_or (fun x => decide (x = a.text)) p.msgs with hf | hf
        · rw [show msgP p a.text = p by rw [msgP, if_pos hf]]
          exact puts3a_any b g base g0 B F p e a w hs ha h3 hf hm hmi hB hb hg hn
        · rw [show msgP p a.text = { p with msgs := p.msgs ++ [a.text] } by rw [msgP, if_neg (by rw [hf]; omega)]]
          exact puts3b_any b g base g0 B F p e a w hs ha h3 hf hm hmi hB hb hg hn
      · rw [show putP p a = p by rw [putP, if_neg h1, if_neg h2, if_neg h3]]
        exact puts0_any b g base g0 B F p e a w hs ha h1 h2 h3 hB hb hg hn
end Go.Proofs.YtkmcjjoicpgjfaaDoor
/-
  A route more in the law's own program: its rows behind the append. Conditions: none.
-/
namespace Go.Proofs.YtkmcjjoicpgjfaaDoor
open Go Go.RowKit Go.Sh

theorem PO.addRts {w w' : World} {base z : Nat} {S : Nat → Prop} {d : Pad} {p : Prg} (h : PO w base S d d p) {A7 A' : Option Addr} {n7 c7 c' : Nat} {l : List Sp} (hin : w.ownsRow base 66 3 (.slice A7 n7 c7) n7 (spv l)) (hll : l.length = n7) (hz : ∀ k, (Value.slice A7 n7 c7).ownBlock = some k → z ≤ k)
    {vm : List Value} (hm : OwS w base S 40 1 (.slice d.A3 d.n3 d.c3) d.n3 vm) (im : ∀ i, i < d.n3 → ∃ Ai ni ci, vm[i]? = some (.slice Ai ni ci) ∧ OwS w base S 66 3 (.slice Ai ni ci) ni (spv (rat p.rts i)) ∧ (rat p.rts i).length = ni)
    (hg : w.grownBy w' (Value.slice d.A3 d.n3 d.c3).ownBlock) (ho : w'.ownsRow base 40 1 (.slice A' (d.n3 + 1) c') (d.n3 + 1) (vm ++ [.slice A7 n7 c7]))
    (hA : (Value.slice A' (d.n3 + 1) c').ownBlock = (Value.slice d.A3 d.n3 d.c3).ownBlock ∨ (Value.slice A' (d.n3 + 1) c').ownBlock = some w.heap.size) (hzw : z ≤ w.heap.size) (hbz : base ≤ z) :
    PO w' base (fun k => S k ∨ (z ≤ k ∧ k < w'.heap.size)) { d with A3 := A', n3 := d.n3 + 1, c3 := c' } { d with A3 := A', n3 := d.n3 + 1, c3 := c' } { p with rts := p.rts ++ [l] } := by
  obtain ⟨lo, code, lc, lm, ⟨vr, hr, ir⟩, lr, _, ls, ⟨vs, hsn, hl4, h3, is⟩, k1, k2, k3, k4⟩ := h
  have keep : ∀ {e size n : Nat} {v' : Value} {xs : List Value}, OwS w base S e size v' n xs → e ≠ 40 → OwS w' base (fun k => S k ∨ (z ≤ k ∧ k < w'.heap.size)) e size v' n xs := fun ho hne => ⟨ho.1.kept hg (own_ne ho.1 hm.1 hne), fun k hk => .inl (ho.2 k hk)⟩
  have hvl : vm.length = d.n3 := by have := hm.1.1; omega
  refine ⟨fun k hk => ?_, keep code (by decide), lc, lm, ⟨vr, keep hr (by decide), fun i hi => ?_⟩, ?_, ⟨vm ++ [.slice A7 n7 c7], ⟨ho, fun k hk => ?_⟩, fun i hi => ?_⟩, ls, ⟨vs, keep hsn (by decide), hl4, h3, fun i hi => ?_⟩, k1, k2, own_cap ho, k4⟩
  · rcases hk with hk | hk
    · exact ⟨(lo k hk).1, Nat.lt_of_lt_of_le (lo k hk).2 hg.size⟩
    · exact ⟨by omega, hk.2⟩
  · obtain ⟨Ai, ni, ci, h1, h2⟩ := ir i hi
    exact ⟨Ai, ni, ci, h1, keep h2 (by decide)⟩
  · show (p.rts ++ [l]).length = d.n3 + 1
    rw [List.length_append, lr]; rfl
  · rcases hA with h | h
    · exact .inl (hm.2 k (h.symm.trans hk))
    · have h2 := (ho.lt k hk).2
      have hk2 : (Value.slice A' (d.n3 + 1) c').ownBlock = some k := hk
      rw [h] at hk2
      injection hk2 with hk2
      exact .inr ⟨by omega, h2⟩
  · by_cases e : i < d.n3
    · obtain ⟨Ai, ni, ci, h1, h2, h3⟩ := im i e
      have e1 : rat (p.rts ++ [l]) i = rat p.rts i := by simp [rat, List.getElem?_append_left (show i < p.rts.length by omega)]
      refine ⟨Ai, ni, ci, by rw [List.getElem?_append_left (by omega)]; exact h1, ?_⟩
      rw [show rat ({ p with rts := p.rts ++ [l] } : Prg).rts i = rat p.rts i from e1]
      exact ⟨keep h2 (by decide), h3⟩
    · have hie : i = d.n3 := by have : i < d.n3 + 1 := hi; omega
      subst hie
      have e1 : rat (p.rts ++ [l]) d.n3 = l := by simp [rat, ← lr]
      refine ⟨A7, n7, c7, by rw [List.getElem?_append_right (by omega), hvl, Nat.sub_self]; rfl, ⟨?_, fun k hk => ?_⟩, ?_⟩
      · rw [show rat ({ p with rts := p.rts ++ [l] } : Prg).rts d.n3 = l from e1]
        exact hin.kept hg (own_ne hin hm.1 (by decide))
      · exact .inr ⟨hz k hk, Nat.lt_of_lt_of_le (hin.lt k hk).2 hg.size⟩
      · rw [show rat ({ p with rts := p.rts ++ [l] } : Prg).rts d.n3 = l from e1]; exact hll
  · obtain ⟨Ai, ni, ci, h1, h2, h3⟩ := is i hi
    exact ⟨Ai, ni, ci, h1, keep h2 (by decide), h3⟩
end Go.Proofs.YtkmcjjoicpgjfaaDoor
/-
  A send more in the law's own program: its rows behind the append. Conditions: none.
-/
namespace Go.Proofs.YtkmcjjoicpgjfaaDoor
open Go Go.RowKit Go.Sh

theorem PO.addSnd {w w' : World} {base z : Nat} {S : Nat → Prop} {d : Pad} {p : Prg} (h : PO w base S d d p) {A7 A' : Option Addr} {n7 c7 c' : Nat} {s : Snd} (hin : w.ownsRow base 3 1 (.slice A7 n7 c7) n7 (iv s.rts)) (hzs : ∀ x ∈ s.rts, -9223372036854775808 ≤ x ∧ x ≤ 9223372036854775807) (hz : ∀ k, (Value.slice A7 n7 c7).ownBlock = some k → z ≤ k)
    {css : List (List Value)} (hm : OwS w base S 43 3 (.slice d.A4 d.n4 d.c4) d.n4 css.flatten) (hcl : css.length = d.n4) (h3 : ∀ cs ∈ css, cs.length = 3)
    (im : ∀ i, i < d.n4 → ∃ Ai ni ci, css[i]? = some [.int .i64 (dat p.snds i).msg, .slice Ai ni ci, .int .i64 (dat p.snds i).blk] ∧ OwS w base S 3 1 (.slice Ai ni ci) ni (iv (dat p.snds i).rts) ∧ ∀ z ∈ (dat p.snds i).rts, -9223372036854775808 ≤ z ∧ z ≤ 9223372036854775807)
    (hg : w.grownBy w' (Value.slice d.A4 d.n4 d.c4).ownBlock) (ho : w'.ownsRow base 43 3 (.slice A' (d.n4 + 1) c') (d.n4 + 1) (css.flatten ++ [.int .i64 s.msg, .slice A7 n7 c7, .int .i64 s.blk]))
    (hA : (Value.slice A' (d.n4 + 1) c').ownBlock = (Value.slice d.A4 d.n4 d.c4).ownBlock ∨ (Value.slice A' (d.n4 + 1) c').ownBlock = some w.heap.size) (hzw : z ≤ w.heap.size) (hbz : base ≤ z) :
    PO w' base (fun k => S k ∨ (z ≤ k ∧ k < w'.heap.size)) { d with A4 := A', n4 := d.n4 + 1, c4 := c' } { d with A4 := A', n4 := d.n4 + 1, c4 := c' } { p with snds := p.snds ++ [s] } := by
  obtain ⟨lo, code, lc, lm, ⟨vr, hr, ir⟩, lr, ⟨vt, ht, it'⟩, ls, _, k1, k2, k3, k4⟩ := h
  have keep : ∀ {e size n : Nat} {v' : Value} {xs : List Value}, OwS w base S e size v' n xs → e ≠ 43 → OwS w' base (fun k => S k ∨ (z ≤ k ∧ k < w'.heap.size)) e size v' n xs := fun ho hne => ⟨ho.1.kept hg (own_ne ho.1 hm.1 hne), fun k hk => .inl (ho.2 k hk)⟩
  refine ⟨fun k hk => ?_, keep code (by decide), lc, lm, ⟨vr, keep hr (by decide), fun i hi => ?_⟩, lr, ⟨vt, keep ht (by decide), fun i hi => ?_⟩, ?_, ⟨css ++ [[.int .i64 s.msg, .slice A7 n7 c7, .int .i64 s.blk]], ⟨?_, fun k hk => ?_⟩, ?_, fun cs hcs => ?_, fun i hi => ?_⟩, k1, k2, k3, own_cap ho⟩
  · rcases hk with hk | hk
    · exact ⟨(lo k hk).1, Nat.lt_of_lt_of_le (lo k hk).2 hg.size⟩
    · exact ⟨by omega, hk.2⟩
  · obtain ⟨Ai, ni, ci, h1, h2⟩ := ir i hi
    exact ⟨Ai, ni, ci, h1, keep h2 (by decide)⟩
  · obtain ⟨Ai, ni, ci, h1, h2, h3⟩ := it' i hi
    exact ⟨Ai, ni, ci, h1, keep h2 (by decide), h3⟩
  · show (p.snds ++ [s]).length = d.n4 + 1
    rw [List.length_append, ls]; rfl
  · have e2 : (css ++ [[Value.int .i64 s.msg, .slice A7 n7 c7, .int .i64 s.blk]]).flatten = css.flatten ++ [.int .i64 s.msg, .slice A7 n7 c7, .int .i64 s.blk] := by simp
    rw [e2]
    exact ho
  · rcases hA with h | h
    · exact .inl (hm.2 k (h.symm.trans hk))
    · have h2 := (ho.lt k hk).2
      have hk2 : (Value.slice A' (d.n4 + 1) c').ownBlock = some k := hk
      rw [h] at hk2
      injection hk2 with hk2
      exact .inr ⟨by omega, h2⟩
  · show (css ++ [[Value.int .i64 s.msg, .slice A7 n7 c7, .int .i64 s.blk]]).length = d.n4 + 1
    rw [List.length_append, hcl]; rfl
  · rcases List.mem_append.1 hcs with h | h
    · exact h3 cs h
    · obtain rfl := List.mem_singleton.1 h; rfl
  · by_cases e : i < d.n4
    · obtain ⟨Ai, ni, ci, h1, h2, h4⟩ := im i e
      have e1 : dat (p.snds ++ [s]) i = dat p.snds i := by simp [dat, List.getElem?_append_left (show i < p.snds.length by omega)]
      rw [show dat ({ p with snds := p.snds ++ [s] } : Prg).snds i = dat p.snds i from e1]
      exact ⟨Ai, ni, ci, by rw [List.getElem?_append_left (by omega)]; exact h1, keep h2 (by decide), h4⟩
    · have hie : i = d.n4 := by have : i < d.n4 + 1 := hi; omega
      subst hie
      have e1 : dat (p.snds ++ [s]) d.n4 = s := by simp [dat, ← ls]
      rw [show dat ({ p with snds := p.snds ++ [s] } : Prg).snds d.n4 = s from e1]
      exact ⟨A7, n7, c7, by rw [List.getElem?_append_right (by omega), hcl, Nat.sub_self]; rfl, ⟨hin.kept hg (own_ne hin hm.1 (by decide)), fun k hk => .inr ⟨hz k hk, Nat.lt_of_lt_of_le (hin.lt k hk).2 hg.size⟩⟩, hzs⟩
end Go.Proofs.YtkmcjjoicpgjfaaDoor
/-
  shallotlaw18.names, its first kind (Route). Conditions: the sizes that slices can have.
-/
namespace Go.Proofs.YtkmcjjoicpgjfaaDoor
open Go Go.RowKit Go.Sh

set_option maxRecDepth 100000 in
theorem spv_at : ∀ (l : List Sp) (k : Nat), k < l.length → (spv l)[k * 3 + 1]? = some (.int .i64 (sat l k).dl)
  | [], k, h => by simp at h
  | i :: l, 0, _ => rfl
  | i :: l, k + 1, h => by
    have ih := spv_at l k (by simpa using h)
    have e : spv (i :: l) = i.cells ++ spv l := rfl
    rw [e, List.getElem?_append_right (by simp [Sp.cells]; omega), show (k + 1) * 3 + 1 - i.cells.length = k * 3 + 1 by simp [Sp.cells]; omega, ih]
    simp [sat]
set_option maxRecDepth 100000 in
theorem spv_set : ∀ (l : List Sp) (k : Nat) (x : Int), k < l.length → (spv l).set (k * 3 + 1) (.int .i64 x) = spv (l.set k { sat l k with dl := x })
  | [], k, _, h => by simp at h
  | i :: l, 0, x, _ => rfl
  | i :: l, k + 1, x, h => by
    have ih := spv_set l k x (by simpa using h)
    have e : ∀ (j : Sp) (l : List Sp), spv (j :: l) = j.cells ++ spv l := fun _ _ => rfl
    rw [e, List.set_append_right _ _ (by simp [Sp.cells]; omega), show (k + 1) * 3 + 1 - i.cells.length = k * 3 + 1 by simp [Sp.cells]; omega, ih, List.set_cons_succ, e]
    simp [sat]
theorem spv_length (l : List Sp) : (spv l).length = l.length * 3 := by
  unfold spv
  induction l with
  | nil => rfl
  | cons i l ih => rw [List.map_cons, List.flatten_cons, List.length_append, ih]; simp [Sp.cells]; omega
set_option maxHeartbeats 8000000 in
set_option maxRecDepth 100000 in
theorem names4_any (b g base g0 B : Nat) (F : Nat → Prop) (p : Prg) (e : Apd) (a : Ac) (w : World) (hs : LS w b g base F p) (ha : AR w B e a) (hk : a.kind = 4) (hm : p.rts.length ≤ 1048576) (hmi : ∀ x ∈ p.rts, x.length ≤ 1048576) (hB : B ≤ g0) (hb : g0 ≤ b) (_ : g0 ≤ g) :
    Calls Tryd.prog 12 #[.pointer (some ⟨b, 0, none⟩), .pointer (some ⟨g, 0, none⟩), .agg (acs e a)] w fun x w' => x = .returned (.bool true) ∧ LS w' b g base F (rtsP p a.stops) ∧ Stay F g0 w w' := by
  obtain ⟨P', hP⟩ : ∃ P', rtsP p a.stops = P' := ⟨_, rfl⟩
  rw [hP]
  have HP := Lib.hid hP
  clear hP
  obtain ⟨⟨Sb, Sw, d, t, d', hbb, hpb, hww, hpw, hap, hF⟩, hlb, hlg, hne, hbs⟩ := hs
  have HFF := Lib.hid hF
  clear hF
  have hba := (Below.refl w.heap.size w).alloc (Nat.le_refl _) (.cells (acs e a) 45)
  have hnew := heap_alloc_new w (.cells (acs e a) 45)
  have hsa : (w.alloc (.cells (acs e a) 45)).heap.size = w.heap.size + 1 := by simp
  have HNEW := Lib.hid hnew
  have HPB := Lib.hid (hpb.later hba)
  have HPW := Lib.hid (hpw.later hba)
  have HLOW := Lib.hid hpw.lo
  have HBB := Lib.hid (hbb.below hba hbb.lt)
  have hgs : g < w.heap.size := (Array.getElem?_eq_some_iff.1 hww).1
  have hbsz : b < w.heap.size := hbb.lt
  have HWW := Lib.hid (show BlkW _ g d' p from (hba.block g hgs).trans hww)
  have HAR := Lib.hid (ha.below (hba.mono (by omega)))
  have HAP := Lib.hid hap
  have HBA := Lib.hid hba
  clear hba hnew hpb hpw hbb hww ha hap
  have HK := Lib.hid hk
  have hlm : p.rts.length = d.n3 := HPB.out.lr
  have hlm' : p.rts.length = d'.n3 := HPW.out.lr
  clear hk
  unfold acs at *
  go_enter Tryd.func12, Tryd.ntmps12
  go_upto_region 1 with fail
  generalize hwa : w.alloc (.cells #[.int .i64 a.kind, .int .i64 a.at_, .int .i64 a.to_, .slice e.A1 e.n1 e.c1, .slice e.A2 e.n2 e.c2, .slice e.A3 e.n3 e.c3, .int .i64 a.spec.msg, .slice e.A4 e.n4 e.c4, .int .i64 a.spec.blk] 45) = wa at *
  obtain ⟨q, hq⟩ : ∃ q, w.heap.size = q := ⟨_, rfl⟩
  rw [hq] at hsa HNEW HBA HFF hgs hbsz hbs ⊢
  have HQ := Lib.hid hq
  have HSA := Lib.hid hsa
  clear hwa hq
  have k0 : wa.cell? ⟨q, 0, none⟩ = some (.int .i64 4) := by rw [blk_cell HNEW.out, ← HK.out]; rfl
  have k5 : wa.cell? ⟨q, 5, none⟩ = some (.slice e.A3 e.n3 e.c3) := by rw [blk_cell HNEW.out]; rfl
  have kw : wa.cell? ⟨g, 2, none⟩ = some (.slice d'.A3 d'.n3 d'.c3) := blk_cell HWW.out
  have hb2 := HAR.out.b3
  have HM := Lib.hid (show RRt wa wa.heap.size d'.A3 d'.n3 p.rts from HPW.out.rrt)
  have HMI := Lib.hid hmi
  clear hmi
  go_wp2_with fail
  go_loopw [7] (fun i wr => ∃ k dd : Nat, k ≤ d'.n3 ∧ i = .int .i64 (k : Int) ∧ wr = wa.drewN dd ∧ ∀ j, j < k → eqSps (rat p.rts j) a.stops = false) (fun i _ => d'.n3 - (intOf i).toNat)
  case atStart => exact ⟨0, 0, by omega, rfl, rfl, fun j hj => absurd hj (by omega)⟩
  case round =>
    obtain ⟨k, dd, hk, rfl, rfl, hno⟩ := hrel
    have HNO := Lib.hid hno
    clear hno
    by_cases hlk : k < d'.n3
    · obtain ⟨ad, Ai, ni, ci, hAd, hab, hc, hle, hrr⟩ := HM.out.at_ hlk
      have hni : ni ≤ 140737488355328 := by
        have := HMI.out (rat p.rts k) (rat_mem (by rw [hlm']; exact hlk))
        have h2 := hrr.len
        rw [List.length_map] at h2
        omega
      obtain ⟨R, hR⟩ : ∃ R, eqSps (rat p.rts k) a.stops = R := ⟨_, rfl⟩
      have HE := Lib.hid (fun W (B1 : Nat) (h : RR W B1 3 Ai ni ((rat p.rts k).map Sp.cells)) (h' : RR W B 3 e.A3 e.n3 (a.stops.map Sp.cells)) => SameStops_any Ai e.A3 ni e.n3 ci e.c3 (rat p.rts k) a.stops W _ _ h h' hni (by omega) R (by rw [← hR]; exact eqSps_iff _ _))
      have HRR := Lib.hid hrr
      have HG := Lib.hid (rat_eq (l := p.rts) (k := k) (by rw [hlm']; exact hlk))
      have HQ2 := Lib.hid hR
      have hki : (k : Int) < (d'.n3 : Int) := by omega
      have kw2 : wa.cell? ⟨g, 2, none⟩ = some (.slice (some ad) d'.n3 d'.c3) := by rw [kw, hAd]
      have HAD := Lib.hid hAd
      have KW := Lib.hid kw
      clear hrr hle hR hni hAd kw
      cases R with
      | true =>
        go_wp2_with fail
        go_quiet ((go_at_call 36; exact EqPost.quiet (HE.out _ _ (show RR (wa.drewN _) _ 3 _ _ _ from HRR.out) (show RR (wa.drewN _) _ 3 _ _ _ from HAR.out.stops))))
        have hf : fnd (fun x => eqSps x a.stops) p.rts = k := fnd_at _ _ k _ HG.out HQ2.out fun j y hj hy => by rw [← rat_of hy]; exact HNO.out j hj
        have hpp : P' = p := by rw [← HP.out, rtsP, hf, if_pos (by rw [hlm']; exact hlk)]
        have HPP := Lib.hid (show rtsP p a.stops = p by rw [HP.out, hpp])
        have HKK := Lib.hid hf
        have hkn : ((k : Int) == (d'.n3 : Int)) = false := by rw [beq_eq_false_iff_ne]; omega
        have HP2 := Lib.hid hpp
        have kw := KW.out
        clear hf hpp kw2 HG HQ2 HNO HE HRR hc hab KW
        go_upto_region 8 with fail
        have TBK := Lib.hid (show BlkB (wa.drewN (dd + nq)) b d p from HBB.out)
        have TPB := Lib.hid (HPB.out.kept (w' := wa.drewN (dd + nq)) (fun _ _ => rfl) (fun _ h => h) HPB.out.lo)
        have TWW := Lib.hid (show BlkW (wa.drewN (dd + nq)) g d' p from HWW.out)
        have TPW := Lib.hid (HPW.out.kept (w' := wa.drewN (dd + nq)) (fun _ _ => rfl) (fun _ h => h) HPW.out.lo)
        have TBL := Lib.hid (show Below g0 w (wa.drewN (dd + nq)) from bl_drewN2 (HBA.out.mono (by omega)) (dd + nq))
        have TFR := Lib.hid (show ∀ k, F k → (wa.drewN (dd + nq)).heap[k]? = w.heap[k]? from fun k hk => HBA.out.block k (HFF.out k hk).1)
        have TNF := Lib.hid (show ∀ k, F k → ¬ Sw k from fun k hk => (HFF.out k hk).2.2.2.2)
        have TTX := Lib.hid (show RR (wa.drewN (dd + nq)) B 3 e.A3 e.n3 (a.stops.map Sp.cells) from HAR.out.stops)
        have TZ := Lib.hid (show q + 1 ≤ (wa.drewN (dd + nq)).heap.size by show q + 1 ≤ wa.heap.size; omega)
        have k5v : (wa.drewN (dd + nq)).cell? ⟨q, 5, none⟩ = some (.slice e.A3 e.n3 e.c3) := k5
        have kwv : (wa.drewN (dd + nq)).cell? ⟨g, 2, none⟩ = some (.slice d'.A3 d'.n3 d'.c3) := kw
        have hqv : (wa.drewN (dd + nq)).heap[q]? = _ := HNEW.out
        have HQV := Lib.hid hqv
        clear k0 k5 kw hqv
        generalize wa.drewN (dd + nq) = wv at *
        have tz := TZ.out
        have TNE := HAP
        rw [← HP2.out] at TWW TPW
        obtain ⟨SW, DW, UWW, UPW, UNE, UNF⟩ : ∃ (SW : Nat → Prop) (DW : Pad), Hid (BlkW wv g DW P') ∧ Hid (PO wv base SW DW DW P') ∧ Hid (∀ k, Sb k → ¬ SW k) ∧ Hid (∀ k, F k → ¬ SW k) := ⟨_, _, TWW, TPW, TNE, TNF⟩
        clear TWW TPW TNE TNF
        obtain ⟨z, hz⟩ : ∃ z, wv.heap.size = z := ⟨_, rfl⟩
        rw [hz] at tz
        have HZ := Lib.hid hz
        have hrd : Reads wv B 3 e.A3 e.n3 (spv a.stops) := RR.reads TTX.out (by decide)
        have hlen : a.stops.length = e.n3 := by have := TTX.out.len; rwa [List.length_map] at this
        have hlitb : (wv.alloc (.cells #[] 66)).ownsRow z 66 3 (.slice (some ⟨z, 0, none⟩) 0 0) 0 [] := by
          have := World.ownsRow_lit (base := z) (e := 66) (size := 3) wv #[] 0 (by omega) (by simp) rfl
          rwa [hz] at this
        have HLT := Lib.hid hlitb
        have HRD2 := Lib.hid (hrd.alloc (show B ≤ wv.heap.size by omega) (.cells #[] 66))
        have HBL := Lib.hid ((Below.refl z wv).alloc (by omega) (.cells #[] 66))
        have hbsl : z ≤ (wv.alloc (.cells #[] 66)).heap.size := by simp; omega
        have k5a : (wv.alloc (.cells #[] 66)).cell? ⟨q, 5, none⟩ = some (.slice e.A3 e.n3 e.c3) := by
          rw [HBL.out.cell (p := ⟨q, 5, none⟩) (show q < z by omega)]; exact k5v
        clear hlitb hrd
        go_wp2_with (at_builtin; refine wl_app TSt rfl (.tmp 59) (.tmp 61) rfl (.slice (some ⟨z, 0, none⟩) 0 0) rfl e.A3 e.n3 e.c3 rfl z 0 [] HLT.out B (spv a.stops) HRD2.out (spv_one _) (by omega) (by omega) hbsl ?_)
        intro A7 c7 w3 hown hg3 _
        try simp only [Nat.zero_add, List.nil_append] at hown ⊢
        have hb3 : Below z wv w3 := HBL.out.grown hg3 hbsl (fun j hj => by injection hj with hj; have hj : z = j := hj; omega)
        have hz3 := hb3.size
        have hbb3 : BlkB w3 b d p := TBK.out.below hb3 (by omega)
        have hpb3 := TPB.out.later (hb3.mono (by omega))
        have HRO := Lib.hid (Route_any b base Sb d t p A7 e.n3 c7 w3.heap.size a.stops w3 hbb3 hpb3 (RR.of_own hown (by rw [List.length_map]; exact hlen) (spv_len _)) hlb (by omega) (Nat.le_refl _) (by omega) (by omega) (fun r hr => by have := HMI.out r hr; omega))
        rw [HKK.out, HP.out] at HRO
        have HOW := Lib.hid hown
        have HB3 := Lib.hid hb3
        have hkk : ((k : Int) != (k : Int)) = false := by simp
        clear hown hg3 hb3 hbb3 hpb3 HLT HRD2 HBL hbsl k5v k5a
        go_wp2_with fail
        refine HRO.out.mono ?_
        rintro x w5 ⟨rfl, S', d2, t2, r1, r2, r3, r4⟩
        have hown5 : w5.ownsRow z 66 3 (.slice A7 e.n3 c7) e.n3 (spv a.stops) := HOW.out.kept r4 (.inr fun h => by have := (HOW.out.lt b h).1; omega)
        have hz5 : w3.heap.size ≤ w5.heap.size := r4.size
        have HOW5 := Lib.hid hown5
        have R1 := Lib.hid r1
        have R2 := Lib.hid r2
        have R3 := Lib.hid (show ∀ k, S' k → Sb k ∨ w3.heap.size ≤ k from r3)
        have R4 := Lib.hid r4
        clear hown5 r1 r2 r3 r4 HRO
        go_wp2_with fail
        go_loopw [70, 9] (fun i _ wr => ∃ (j : Nat) (l' : List Sp), j ≤ e.n3 ∧ i = .int .i64 (j : Int) ∧ l'.length = e.n3 ∧ wr.ownsRow z 66 3 (.slice A7 e.n3 c7) e.n3 (spv l') ∧ w5.grownBy wr (Value.slice A7 e.n3 c7).ownBlock) (fun i _ _ => e.n3 - (intOf i).toNat)
        case atStart => exact ⟨0, a.stops, by omega, rfl, hlen, HOW5.out, World.grownBy.refl _ _⟩
        case round =>
          obtain ⟨j, l', hj, rfl, hl', hown, hgr⟩ := hrel
          by_cases hlt : j < e.n3
          · obtain ⟨gg, rfl⟩ := own_at hown (by omega)
            have hca := own_cellN hown (spv_at l' j (by omega))
            have hfa := own_freeN hown (j * 3 + 1)
            have hset := own_setN hown (j * 3 + 1) (.int .i64 (wrap64 ((sat l' j).dl + 1)))
            rw [spv_set l' j _ (by omega)] at hset
            have HSET := Lib.hid hset
            have HGR := Lib.hid (show w5.grownBy (wr.setCell ⟨gg, j * 3 + 1, none⟩ (.int .i64 (wrap64 ((sat l' j).dl + 1)))) (some gg) from (show w5.grownBy wr (some gg) from hgr).trans (grown_setCell wr gg (j * 3 + 1) _))
            have HL' := Lib.hid (show (l'.set j { sat l' j with dl := wrap64 ((sat l' j).dl + 1) }).length = e.n3 by rw [List.length_set]; exact hl')
            clear hset hgr hown hl'
            generalize l'.set j { sat l' j with dl := wrap64 ((sat l' j).dl + 1) } = l2 at *
            generalize (sat l' j).dl = ia at *
            go_wp2_with fail
            exact ⟨⟨j + 1, l2, by omega, by go_num, HL'.out, HSET.out, HGR.out⟩, by simp [intOf]; omega⟩
          · obtain rfl : j = e.n3 := by omega
            clear hj
            have HG4 := Lib.hid hgr
            clear hgr hown hl' l'
            go_wp2_with fail
            go_ret
            have hg4 := HG4.out
            have hy4 := hg4.size
            have hgl : ∀ j, (Value.slice A7 e.n3 c7).ownBlock = some j → z ≤ j ∧ j < w3.heap.size := fun j hj => HOW.out.lt j hj
            have hold : ∀ k, k < z → k ≠ b → wr.heap[k]? = wv.heap[k]? := fun k hk hkb =>
              (hg4.block k (by omega) (by intro h; have := (hgl k h.symm).1; omega)).trans ((R4.out.block k (by omega) (by intro h; injection h with h; exact hkb h)).trans (HB3.out.block k hk))
            have hzz := HZ.out
            refine ⟨rfl, ⟨⟨S', SW, d2, t2, DW, ?_, ?_, ?_, ?_, ?_, ?_⟩, hlb, hlg, hne, by omega⟩, ?_, ?_⟩
            · exact (hg4.block b (by omega) (by intro h; have := (hgl b h.symm).1; omega)).trans R1.out
            · refine R2.out.kept (fun k hk => hg4.block k (R2.out.lo k hk).2 ?_) (fun _ h => h) fun k hk => ⟨(R2.out.lo k hk).1, by have := (R2.out.lo k hk).2; omega⟩
              intro h
              have h2 := hgl k h.symm
              rcases R3.out k hk with h3 | h3
              · have := (TPB.out.lo k h3).2; omega
              · omega
            · exact (hold g (by omega) (fun h => hne h.symm)).trans UWW.out
            · exact UPW.out.kept (fun k hk => hold k (by have := (UPW.out.lo k hk).2; omega) (by have := (UPW.out.lo k hk).1; omega)) (fun _ h => h) fun k hk => ⟨(UPW.out.lo k hk).1, by have := (UPW.out.lo k hk).2; omega⟩
            · intro k hk hk2
              rcases R3.out k hk with h1 | h1
              · exact UNE.out k h1 hk2
              · have := (UPW.out.lo k hk2).2; omega
            · intro k hk
              obtain ⟨f1, f2, f3, f4, f5⟩ := HFF.out k hk
              refine ⟨by omega, f2, f3, fun h => ?_, UNF.out k hk⟩
              rcases R3.out k h with h3 | h3
              · exact f4 h3
              · omega
            · exact ⟨hg4.os.trans (R4.out.os.trans (HB3.out.os.trans TBL.out.os)), hg4.tape.trans (R4.out.tape.trans (HB3.out.tape.trans TBL.out.tape)), hg4.output.trans (R4.out.output.trans (HB3.out.output.trans TBL.out.output)), by have := TBL.out.size; omega, fun k hk => (hold k (by omega) (by omega)).trans (TBL.out.block k hk)⟩
            · intro k hk
              obtain ⟨f1, f2, f3, f4, f5⟩ := HFF.out k hk
              exact (hold k (by omega) f2).trans (TFR.out k hk)
      | false =>
        go_wp2_with fail
        go_quiet ((go_at_call 36; exact EqPost.quiet (HE.out _ _ (show RR (wa.drewN _) _ 3 _ _ _ from HRR.out) (show RR (wa.drewN _) _ 3 _ _ _ from HAR.out.stops))))
        go_wp2_with fail
        exact ⟨⟨k + 1, dd + nq, by omega, by go_num, by first | rfl | simp, fun j hj => by
          by_cases e : j = k
          · rw [e]; exact HQ2.out
          · exact HNO.out j (by omega)⟩, by simp [intOf]; omega⟩
    · have hki : ¬ (k : Int) < (d'.n3 : Int) := by omega
      have hkn : ((k : Int) == (d'.n3 : Int)) = true := by rw [beq_iff_eq]; omega
      have hf : fnd (fun x => eqSps x a.stops) p.rts = k := by rw [show k = p.rts.length by omega]; exact fnd_none _ _ fun j y hy => by rw [← rat_of hy]; exact HNO.out j (by have := (List.getElem?_eq_some_iff.1 hy).1; omega)
      have hpp : P' = { p with rts := p.rts ++ [a.stops] } := by rw [← HP.out, rtsP, hf, if_neg (by omega)]
      have HPP := Lib.hid (show rtsP p a.stops = { p with rts := p.rts ++ [a.stops] } by rw [HP.out, hpp])
      have HKK := Lib.hid hf
      have HP2 := Lib.hid hpp
      clear hf hpp HNO
      go_wp2_with fail
      go_quiet (fail)
      simp only [World.drewN_drewN]
      have TBK := Lib.hid (show BlkB (wa.drewN (dd + nq)) b d p from HBB.out)
      have TPB := Lib.hid (HPB.out.kept (w' := wa.drewN (dd + nq)) (fun _ _ => rfl) (fun _ h => h) HPB.out.lo)
      have TWW := Lib.hid (show BlkW (wa.drewN (dd + nq)) g d' p from HWW.out)
      have TPW := Lib.hid (HPW.out.kept (w' := wa.drewN (dd + nq)) (fun _ _ => rfl) (fun _ h => h) HPW.out.lo)
      have TBL := Lib.hid (show Below g0 w (wa.drewN (dd + nq)) from bl_drewN2 (HBA.out.mono (by omega)) (dd + nq))
      have TFR := Lib.hid (show ∀ k, F k → (wa.drewN (dd + nq)).heap[k]? = w.heap[k]? from fun k hk => HBA.out.block k (HFF.out k hk).1)
      have TNF := Lib.hid (show ∀ k, F k → ¬ Sw k from fun k hk => (HFF.out k hk).2.2.2.2)
      have TTX := Lib.hid (show RR (wa.drewN (dd + nq)) B 3 e.A3 e.n3 (a.stops.map Sp.cells) from HAR.out.stops)
      have TZ := Lib.hid (show q + 1 ≤ (wa.drewN (dd + nq)).heap.size by show q + 1 ≤ wa.heap.size; omega)
      have k5v : (wa.drewN (dd + nq)).cell? ⟨q, 5, none⟩ = some (.slice e.A3 e.n3 e.c3) := k5
      have kwv : (wa.drewN (dd + nq)).cell? ⟨g, 2, none⟩ = some (.slice d'.A3 d'.n3 d'.c3) := kw
      have hqv : (wa.drewN (dd + nq)).heap[q]? = _ := HNEW.out
      have HQV := Lib.hid hqv
      clear k0 k5 kw hqv
      generalize wa.drewN (dd + nq) = wv at *
      have tz := TZ.out
      go_upto_region 7 with fail
      have KW1 := Lib.hid (show wv.drew.cell? ⟨g, 2, none⟩ = some (.slice d'.A3 d'.n3 d'.c3) from kwv)
      have KW4 := Lib.hid (show wv.drew.cell? ⟨q, 5, none⟩ = some (.slice e.A3 e.n3 e.c3) from k5v)
      obtain ⟨z, hz⟩ : ∃ z, wv.heap.size = z := ⟨_, rfl⟩
      have hrd0 : Reads wv B 3 e.A3 e.n3 (spv a.stops) := RR.reads TTX.out (by decide)
      have hlen : a.stops.length = e.n3 := by have := TTX.out.len; rwa [List.length_map] at this
      have hbz : q + 1 ≤ z := by omega
      have hbA : Below z wv (wv.drew.alloc (.cells #[] 66)) := ((Below.refl z wv).drew).alloc (by show z ≤ wv.heap.size; omega) _
      have hlA : (wv.drew.alloc (.cells #[] 66)).ownsRow z 66 3 (.slice (some ⟨z, 0, none⟩) 0 0) 0 [] := by
        have := World.ownsRow_lit (base := z) (e := 66) (size := 3) wv.drew #[] 0 (by show z ≤ wv.heap.size; omega) (by decide) rfl
        rwa [show wv.drew.heap.size = z from hz] at this
      have hsA : (wv.drew.alloc (.cells #[] 66)).heap.size = z + 1 := by simp [show wv.drew.heap.size = z from hz]
      obtain ⟨A7, c7, w2, hrun1, hown7, hg7, _⟩ := run_app (P := Tryd.prog) TSt (wv.drew.alloc (.cells #[] 66)) 40 z _ 0 [] hlA B e.A3 e.n3 e.c3 (spv a.stops) (hrd0.below (hbA.mono (by omega))) (spv_one _) (by omega) (by omega) (by omega)
      simp only [Nat.zero_add, List.nil_append] at hrun1 hown7
      have hb7 : Below z wv w2 := hbA.grown hg7 (by omega) (fun j hj => by injection hj with hj; have hj : z = j := hj; omega)
      have hz2 : z ≤ w2.heap.size := by have := hb7.size; omega
      have hgA : BlkW (wv.drew.alloc (.cells #[] 66)) g d' p := (hbA.block g (by omega)).trans TWW.out
      have hqA := (hbA.block q (by omega)).trans HQV.out
      have KA1 := Lib.hid (show (wv.drew.alloc (.cells #[] 66)).cell? ⟨g, 2, none⟩ = some (.slice d'.A3 d'.n3 d'.c3) from blk_cell hgA)
      have KA4 := Lib.hid (show (wv.drew.alloc (.cells #[] 66)).cell? ⟨q, 5, none⟩ = some (.slice e.A3 e.n3 e.c3) from blk_cell hqA)
      have hg2 : BlkW w2 g d' p := (hb7.block g (by omega)).trans TWW.out
      have hq2 := (hb7.block q (by omega)).trans HQV.out
      have KB1 := Lib.hid (show w2.cell? ⟨g, 2, none⟩ = some (.slice d'.A3 d'.n3 d'.c3) from blk_cell hg2)
      have KB4 := Lib.hid (show w2.cell? ⟨q, 5, none⟩ = some (.slice e.A3 e.n3 e.c3) from blk_cell hq2)
      have hog : ∀ k, (Value.slice A7 e.n3 c7).ownBlock = some k → z ≤ k ∧ k < w2.heap.size := fun k hk => hown7.lt k hk
      have hal := (Below.refl w2.heap.size w2).alloc (Nat.le_refl _) (.cells #[.slice A7 e.n3 c7] 40)
      have hs3 : (w2.alloc (.cells #[.slice A7 e.n3 c7] 40)).heap.size = w2.heap.size + 1 := by simp
      have hpw2 : PO w2 base Sw d' d' p := TPW.out.kept (fun k hk => hb7.block k (by have := (TPW.out.lo k hk).2; omega)) (fun _ h => h) fun k hk => ⟨(TPW.out.lo k hk).1, by have := (TPW.out.lo k hk).2; omega⟩
      have hpw3 := hpw2.later hal
      obtain ⟨vm, hvm, him⟩ := hpw3.rts
      have hin3 := own_later (own_base hown7 (show base ≤ z by omega)) hal
      have hlit := Reads.lit w2 40 [.slice A7 e.n3 c7] 1 1 rfl w2.heap.size rfl
      have hg3 := (hal.block g (by omega)).trans hg2
      have hq3 := (hal.block q (by omega)).trans hq2
      have KD1 := Lib.hid (show (w2.alloc (.cells #[.slice A7 e.n3 c7] 40)).cell? ⟨g, 2, none⟩ = some (.slice d'.A3 d'.n3 d'.c3) from blk_cell hg3)
      have KD4 := Lib.hid (show (w2.alloc (.cells #[.slice A7 e.n3 c7] 40)).cell? ⟨q, 5, none⟩ = some (.slice e.A3 e.n3 e.c3) from blk_cell hq3)
      obtain ⟨A8, c8, w6, hrun, hown8, hg8, hA8⟩ := run_app (P := Tryd.prog) TSS (w2.alloc (.cells #[.slice A7 e.n3 c7] 40)) 27 base _ d'.n3 vm hvm.1 (w2.heap.size + 1) (some ⟨w2.heap.size, 0, none⟩) 1 1 _ hlit (fun u hu => by obtain rfl := List.mem_singleton.1 hu; rfl) (by omega) (by omega) (by rw [hs3]; omega)
      have hob : ∀ k, (Value.slice d'.A3 d'.n3 d'.c3).ownBlock = some k → base ≤ k ∧ k < w.heap.size := fun k hk => HLOW.out k (hvm.2 k hk)
      have hqw : w.heap.size = q := HQ.out
      have hpw6 := hpw3.addRts hin3 hlen (z := z) (fun k hk => (hog k hk).1) hvm him hg8 hown8 (by rcases hA8 with h | h; exact .inl h; exact .inr h) (by omega) (by omega)
      have hz6 : w2.heap.size + 1 ≤ w6.heap.size := by have := hg8.size; omega
      have hg6 : BlkW w6 g d' p := (hg8.block g (by omega) (by intro h; have := (hob g h.symm).1; omega)).trans hg3
      have hq6 := (hg8.block q (by omega) (by intro h; have := (hob q h.symm).2; omega)).trans hq3
      have KE1 := Lib.hid (show w6.cell? ⟨g, 2, none⟩ = some (.slice d'.A3 d'.n3 d'.c3) from blk_cell hg6)
      have KE4 := Lib.hid (show w6.cell? ⟨q, 5, none⟩ = some (.slice e.A3 e.n3 e.c3) from blk_cell hq6)
      have FE1 := Lib.hid (show w6.frozen? ⟨g, 2, none⟩ = false from frozen_of_row _ _ 2 _ _ hg6)
      have HRUN := Lib.hid hrun
      have HRUN1 := Lib.hid hrun1
      have HHZ := Lib.hid hz
      have hsz0 : wv.drew.heap.size = z := hz
      have HAL := Lib.hid hal
      have HB7 := Lib.hid hb7
      have HG8 := Lib.hid hg8
      have HPW6 := Lib.hid hpw6
      have HG6 := Lib.hid hg6
      have HQ6 := Lib.hid hq6
      have HVM := Lib.hid hvm.2
      clear hrun hrun1 hz hrd0 hbA hlA hgA hqA hg2 hq2 hal hpw2 hpw3 hvm him hin3 hlit hg3 hq3 hown8 hg8 hA8 hpw6 hg6 hq6 hown7 hg7 hb7 hog hob kwv k5v
      refine wp_region_noPanic ?_
      refine wp_region_until (S := fun W => W.cell? ⟨g, 2, none⟩ = some (.slice d'.A3 d'.n3 d'.c3) ∧ W.cell? ⟨q, 5, none⟩ = some (.slice e.A3 e.n3 e.c3)) 13 (by kernel_rfl) ?_ (fun hHeld => ?_)
      · (try dsimp only)
        exact ⟨KW1.out, KW4.out⟩
      refine wpAnyU_takeY (i := 0) (v := ?v1) rfl (by kernel_rfl) (fun _ _ _ h => h) (Or.inl ⟨by rfl, ?y1⟩) (by assumption) ?r1
      case y1 => (intro W; first | (go_simp; done) | (go_simp; with_reducible rfl))
      (try simp only [List.getElem_toArray, List.getElem_cons_zero, Act.put, List.setIfInBounds_toArray, List.set_cons_zero, List.set_cons_succ])
      refine wpAnyU_takeY (i := 1) (v := ?v2) rfl (by kernel_rfl) (fun _ _ _ h => h) (Or.inl ⟨by rfl, ?y2⟩) (by assumption) ?r2
      case y2 => (intro W; first | (go_simp; done) | (go_simp; with_reducible rfl))
      (try simp only [List.getElem_toArray, List.getElem_cons_zero, List.getElem_cons_succ, Act.put, List.setIfInBounds_toArray, List.set_cons_zero, List.set_cons_succ])
      refine wpAnyU_takeY (i := 2) (v := ?v3) rfl (by kernel_rfl) (fun _ _ _ h => h) (Or.inl ⟨by rfl, ?y3⟩) (by assumption) ?r3
      case y3 => (intro W; first | (go_simp; done) | (go_simp; with_reducible rfl))
      (try simp only [List.getElem_toArray, List.getElem_cons_zero, List.getElem_cons_succ, Act.put, List.setIfInBounds_toArray, List.set_cons_zero, List.set_cons_succ])
      refine wpAnyU_takeY (i := 3) (v := ?v4) rfl (by kernel_rfl) (fun _ _ _ h => h) (Or.inl ⟨by rfl, ?y4⟩) (by assumption) ?r4
      case y4 => (intro W; first | (go_simp; done) | (go_simp; with_reducible rfl))
      (try simp only [List.getElem_toArray, List.getElem_cons_zero, List.getElem_cons_succ, Act.put, List.setIfInBounds_toArray, List.set_cons_zero, List.set_cons_succ])
      refine wpAnyU_takeW (i := 4) (v := ?v5) rfl (by kernel_rfl) (fun _ _ _ h => h) (Or.inl ⟨by rfl, ?y5⟩) (by assumption) ?r5
      case y5 => (intro W hSW; (try dsimp only at hSW); first | (go_simp; done) | (go_simp; with_reducible rfl))
      (try simp only [List.getElem_toArray, List.getElem_cons_zero, List.getElem_cons_succ, Act.put, List.setIfInBounds_toArray, List.set_cons_zero, List.set_cons_succ])
      refine wpAnyU_takeY (i := 6) (v := ?v6) rfl (by kernel_rfl) (fun _ _ _ h => h) (Or.inl ⟨by rfl, ?y6⟩) (by assumption) ?r6
      case y6 => (intro W; first | (go_simp; done) | (go_simp; with_reducible rfl))
      (try simp only [List.getElem_toArray, List.getElem_cons_zero, List.getElem_cons_succ, Act.put, List.setIfInBounds_toArray, List.set_cons_zero, List.set_cons_succ])
      refine wpAnyU_takeW (i := 7) (v := ?v7) rfl (by kernel_rfl) (fun _ _ _ h => h) (Or.inl ⟨by rfl, ?y7⟩) (by assumption) ?r7
      case y7 => (intro W hSW; (try dsimp only at hSW); first | (go_simp; done) | (go_simp; with_reducible rfl))
      (try simp only [List.getElem_toArray, List.getElem_cons_zero, List.getElem_cons_succ, Act.put, List.setIfInBounds_toArray, List.set_cons_zero, List.set_cons_succ])
      refine wpAnyU_one (i := 5) rfl (by decide) (by kernel_rfl) (by rfl) (fun K' hK' => ?_)
      have HKP := Lib.hid hK'
      clear hK'
      go_simp
      refine HKP.out _ _ ⟨KA1.out, KA4.out⟩ ?_
      clear HKP K'
      (try simp only [List.getElem_toArray, List.getElem_cons_zero, List.getElem_cons_succ, Act.put, List.setIfInBounds_toArray, List.set_cons_zero, List.set_cons_succ])
      refine wpAnyU_one (i := 8) rfl (by decide) (by kernel_rfl) (by rfl) (fun K' hK' => ?_)
      have HKP := Lib.hid hK'
      clear hK'
      refine Lib.wp_append_run _ (.tmp 51) (.tmp 53) 40 40 rfl _ _ rfl rfl _ _ HRUN1.out ?_
      refine HKP.out _ _ ⟨KB1.out, KB4.out⟩ ?_
      clear HKP K'
      (try simp only [List.getElem_toArray, List.getElem_cons_zero, List.getElem_cons_succ, Act.put, List.setIfInBounds_toArray, List.set_cons_zero, List.set_cons_succ])
      refine wpAnyU_one (i := 9) rfl (by decide) (by kernel_rfl) (by rfl) (fun K' hK' => ?_)
      have HKP := Lib.hid hK'
      clear hK'
      go_simp
      refine HKP.out _ _ ⟨KD1.out, KD4.out⟩ ?_
      clear HKP K'
      (try simp only [List.getElem_toArray, List.getElem_cons_zero, List.getElem_cons_succ, Act.put, List.setIfInBounds_toArray, List.set_cons_zero, List.set_cons_succ])
      refine wpAnyU_one (i := 10) rfl (by decide) (by kernel_rfl) (by rfl) (fun K' hK' => ?_)
      have HKP := Lib.hid hK'
      clear hK'
      refine Lib.wp_append_run _ (.tmp 50) (.tmp 55) 27 27 rfl _ _ rfl rfl _ _ HRUN.out ?_
      refine HKP.out _ _ ⟨KE1.out, KE4.out⟩ ?_
      clear HKP K'
      (try simp only [List.getElem_toArray, List.getElem_cons_zero, List.getElem_cons_succ, Act.put, List.setIfInBounds_toArray, List.set_cons_zero, List.set_cons_succ])
      have hHeld2 : w6.cell? ⟨g, 2, none⟩ = some (.slice d'.A3 d'.n3 d'.c3) ∧ w6.cell? ⟨q, 5, none⟩ = some (.slice e.A3 e.n3 e.c3) := ⟨KE1.out, KE4.out⟩
      refine wpAnyU_takeY (i := 11) (v := ?v51) rfl (by kernel_rfl) (fun _ _ _ h => h) (Or.inl ⟨by rfl, ?y51⟩) (by assumption) ?r51
      case y51 => (intro W; first | (go_simp; done) | (go_simp; with_reducible rfl))
      (try simp only [List.getElem_toArray, List.getElem_cons_zero, List.getElem_cons_succ, Act.put, List.setIfInBounds_toArray, List.set_cons_zero, List.set_cons_succ])
      refine wpAnyU_takeY (i := 12) (v := ?v52) rfl (by kernel_rfl) (fun _ _ _ h => h) (Or.inl ⟨by rfl, ?y52⟩) (by assumption) ?r52
      case y52 => (intro W; first | (go_simp; done) | (go_simp; with_reducible rfl))
      (try simp only [List.getElem_toArray, List.getElem_cons_zero, List.getElem_cons_succ, Act.put, List.setIfInBounds_toArray, List.set_cons_zero, List.set_cons_succ])
      refine wpAnyU_at (c := 13) rfl (by kernel_rfl) (by rfl) (fun K hK => ?_)
      have HK := Lib.hid hK
      clear hK
      have kc := KE1.out
      have fc := FE1.out
      go_simp
      refine HK.out _ _ ?_
      clear HK K
      (try simp only [List.getElem_toArray, List.getElem_cons_zero, List.getElem_cons_succ, Act.put, List.setIfInBounds_toArray, List.set_cons_zero, List.set_cons_succ])
      refine wpAny_done (by kernel_rfl) ?_ _
      refine NoPanic.normal ?_
      clear kc fc hHeld hHeld2
      obtain ⟨wu, hwu⟩ : ∃ wu, wu = w6.setCell ⟨g, 2, none⟩ (.slice A8 (d'.n3 + 1) c8) := ⟨_, rfl⟩
      rw [← hwu]
      have hzz := HHZ.out
      have hbase6 : ∀ k, k < z → ¬ Sw k → k ≠ g → wu.heap[k]? = wv.heap[k]? := fun k hk hns hkg => by
        have h1 : wu.heap[k]? = w6.heap[k]? := by rw [hwu]; exact Below.heap_setCell w6 ⟨g, 2, none⟩ _ k hkg
        rw [h1, HG8.out.block k (by omega) (fun h => hns (HVM.out k h.symm)), HAL.out.block k (by omega)]
        exact HB7.out.block k hk
      have hsW : wu.heap.size = w6.heap.size := by rw [hwu]; simp
      have hnS : ∀ k, k < base → ¬ Sw k := fun k hk h => by have := (TPW.out.lo k h).1; omega
      have UBK := Lib.hid (show BlkB wu b d p from (hbase6 b (by omega) (hnS b hlb) hne).trans TBK.out)
      have UPB := Lib.hid (TPB.out.kept (w' := wu) (fun k hk => hbase6 k (by have := (TPB.out.lo k hk).2; omega) (HAP.out k hk) (by have := (TPB.out.lo k hk).1; omega)) (fun _ h => h) fun k hk => ⟨(TPB.out.lo k hk).1, by have := (TPB.out.lo k hk).2; omega⟩)
      have UWW := Lib.hid (show BlkW wu g { d' with A3 := A8, n3 := d'.n3 + 1, c3 := c8 } { p with rts := p.rts ++ [a.stops] } from by rw [hwu]; exact blk_set HG6.out _)
      have UPW := Lib.hid (HPW6.out.kept (w' := wu) (fun k hk => by rw [hwu]; exact Below.heap_setCell w6 ⟨g, 2, none⟩ _ k (show k ≠ g by have := (HPW6.out.lo k hk).1; omega)) (fun _ h => h) fun k hk => ⟨(HPW6.out.lo k hk).1, by have := (HPW6.out.lo k hk).2; omega⟩)
      have UNE := Lib.hid (show ∀ k, Sb k → ¬ (Sw k ∨ (z ≤ k ∧ k < w6.heap.size)) from fun k hk h => by
        rcases h with h | h
        · exact HAP.out k hk h
        · have := (TPB.out.lo k hk).2; omega)
      have hosW : w6.grownBy wu (some g) := by rw [hwu]; exact grown_setCell w6 g 2 (.slice A8 (d'.n3 + 1) c8)
      have hBB : Below B wv wu := ⟨hosW.os.trans (HG8.out.os.trans (HAL.out.os.trans HB7.out.os)), hosW.tape.trans (HG8.out.tape.trans (HAL.out.tape.trans HB7.out.tape)), hosW.output.trans (HG8.out.output.trans (HAL.out.output.trans HB7.out.output)), by omega, fun k hk => hbase6 k (by omega) (hnS k (by omega)) (by omega)⟩
      have UBL := Lib.hid (show Below g0 w wu from ⟨hosW.os.trans (HG8.out.os.trans (HAL.out.os.trans (HB7.out.os.trans TBL.out.os))), hosW.tape.trans (HG8.out.tape.trans (HAL.out.tape.trans (HB7.out.tape.trans TBL.out.tape))), hosW.output.trans (HG8.out.output.trans (HAL.out.output.trans (HB7.out.output.trans TBL.out.output))), by have := TBL.out.size; omega, fun k hk => (hbase6 k (by omega) (hnS k (by omega)) (by omega)).trans (TBL.out.block k hk)⟩)
      have UFR := Lib.hid (show ∀ k, F k → wu.heap[k]? = w.heap[k]? from fun k hk => by
        obtain ⟨f1, f2, f3, f4, f5⟩ := HFF.out k hk
        exact (hbase6 k (by omega) f5 f3).trans (TFR.out k hk))
      have UNF := Lib.hid (show ∀ k, F k → ¬ (Sw k ∨ (z ≤ k ∧ k < w6.heap.size)) from fun k hk h => by
        obtain ⟨f1, f2, f3, f4, f5⟩ := HFF.out k hk
        rcases h with h | h
        · exact f5 h
        · omega)
      have UTX := Lib.hid (TTX.out.below hBB)
      have UZ := Lib.hid (show q + 1 ≤ wu.heap.size by omega)
      have k5v : wu.cell? ⟨q, 5, none⟩ = some (.slice e.A3 e.n3 e.c3) := by
        have h : wu.heap[q]? = _ := (show wu.heap[q]? = w6.heap[q]? by rw [hwu]; exact Below.heap_setCell w6 ⟨g, 2, none⟩ (.slice A8 (d'.n3 + 1) c8) q (show q ≠ g by omega)).trans HQ6.out
        rw [blk_cell h]; rfl
      clear hbase6 hsW hnS TBK TPB TWW TPW TBL TFR TNF TTX TZ hosW hBB HG8 HAL HB7 HPW6 HG6 HQ6 HVM KW1 KW4 KA1 KA4 KB1 KB4 KD1 KD4 KE1 KE4 FE1 HRUN HRUN1 HQV hs3 tz hsz0 hsA hz2 hz6 hbz hlen HHZ hwu
      obtain ⟨zw, hzw⟩ : ∃ zw, z = zw := ⟨_, rfl⟩
      rw [← HP2.out] at UWW UPW
      have TBK := UBK
      have TPB := UPB
      have TWW := UWW
      have TPW := UPW
      have TNE := UNE
      have TBL := UBL
      have TFR := UFR
      have TNF := UNF
      have TTX := UTX
      have TZ := UZ
      clear UBK UPB UWW UPW UNE UBL UTX UZ UFR UNF hzw zw
      have tz := TZ.out
      obtain ⟨SW, DW, UWW, UPW, UNE, UNF⟩ : ∃ (SW : Nat → Prop) (DW : Pad), Hid (BlkW wu g DW P') ∧ Hid (PO wu base SW DW DW P') ∧ Hid (∀ k, Sb k → ¬ SW k) ∧ Hid (∀ k, F k → ¬ SW k) := ⟨_, _, TWW, TPW, TNE, TNF⟩
      clear TWW TPW TNE TNF
      obtain ⟨zt, hz⟩ : ∃ zt, wu.heap.size = zt := ⟨_, rfl⟩
      rw [hz] at tz
      have HZ := Lib.hid hz
      have hrd : Reads wu B 3 e.A3 e.n3 (spv a.stops) := RR.reads TTX.out (by decide)
      have hlen : a.stops.length = e.n3 := by have := TTX.out.len; rwa [List.length_map] at this
      have hlitb : (wu.alloc (.cells #[] 66)).ownsRow zt 66 3 (.slice (some ⟨zt, 0, none⟩) 0 0) 0 [] := by
        have := World.ownsRow_lit (base := zt) (e := 66) (size := 3) wu #[] 0 (by omega) (by simp) rfl
        rwa [hz] at this
      have HLT := Lib.hid hlitb
      have HRD2 := Lib.hid (hrd.alloc (show B ≤ wu.heap.size by omega) (.cells #[] 66))
      have HBL := Lib.hid ((Below.refl zt wu).alloc (by omega) (.cells #[] 66))
      have hbsl : zt ≤ (wu.alloc (.cells #[] 66)).heap.size := by simp; omega
      have k5a : (wu.alloc (.cells #[] 66)).cell? ⟨q, 5, none⟩ = some (.slice e.A3 e.n3 e.c3) := by
        rw [HBL.out.cell (p := ⟨q, 5, none⟩) (show q < zt by omega)]; exact k5v
      clear hlitb hrd
      go_wp2_with (at_builtin; refine wl_app TSt rfl (.tmp 59) (.tmp 61) rfl (.slice (some ⟨zt, 0, none⟩) 0 0) rfl e.A3 e.n3 e.c3 rfl zt 0 [] HLT.out B (spv a.stops) HRD2.out (spv_one _) (by omega) (by omega) hbsl ?_)
      intro A7 c7 w3 hown hg3 _
      try simp only [Nat.zero_add, List.nil_append] at hown ⊢
      have hb3 : Below zt wu w3 := HBL.out.grown hg3 hbsl (fun j hj => by injection hj with hj; have hj : zt = j := hj; omega)
      have hz3 := hb3.size
      have hbb3 : BlkB w3 b d p := TBK.out.below hb3 (by omega)
      have hpb3 := TPB.out.later (hb3.mono (by omega))
      have HRO := Lib.hid (Route_any b base Sb d t p A7 e.n3 c7 w3.heap.size a.stops w3 hbb3 hpb3 (RR.of_own hown (by rw [List.length_map]; exact hlen) (spv_len _)) hlb (by omega) (Nat.le_refl _) (by omega) (by omega) (fun r hr => by have := HMI.out r hr; omega))
      rw [HKK.out, HP.out] at HRO
      have HOW := Lib.hid hown
      have HB3 := Lib.hid hb3
      have hkk : ((k : Int) != (k : Int)) = false := by simp
      clear hown hg3 hb3 hbb3 hpb3 HLT HRD2 HBL hbsl k5v k5a
      go_wp2_with fail
      refine HRO.out.mono ?_
      rintro x w5 ⟨rfl, S', d2, t2, r1, r2, r3, r4⟩
      have hown5 : w5.ownsRow zt 66 3 (.slice A7 e.n3 c7) e.n3 (spv a.stops) := HOW.out.kept r4 (.inr fun h => by have := (HOW.out.lt b h).1; omega)
      have hz5 : w3.heap.size ≤ w5.heap.size := r4.size
      have HOW5 := Lib.hid hown5
      have R1 := Lib.hid r1
      have R2 := Lib.hid r2
      have R3 := Lib.hid (show ∀ k, S' k → Sb k ∨ w3.heap.size ≤ k from r3)
      have R4 := Lib.hid r4
      clear hown5 r1 r2 r3 r4 HRO
      go_wp2_with fail
      go_loopw [70, 9] (fun i _ wr => ∃ (j : Nat) (l' : List Sp), j ≤ e.n3 ∧ i = .int .i64 (j : Int) ∧ l'.length = e.n3 ∧ wr.ownsRow zt 66 3 (.slice A7 e.n3 c7) e.n3 (spv l') ∧ w5.grownBy wr (Value.slice A7 e.n3 c7).ownBlock) (fun i _ _ => e.n3 - (intOf i).toNat)
      case atStart => exact ⟨0, a.stops, by omega, rfl, hlen, HOW5.out, World.grownBy.refl _ _⟩
      case round =>
        obtain ⟨j, l', hj, rfl, hl', hown, hgr⟩ := hrel
        by_cases hlt : j < e.n3
        · obtain ⟨gg, rfl⟩ := own_at hown (by omega)
          have hca := own_cellN hown (spv_at l' j (by omega))
          have hfa := own_freeN hown (j * 3 + 1)
          have hset := own_setN hown (j * 3 + 1) (.int .i64 (wrap64 ((sat l' j).dl + 1)))
          rw [spv_set l' j _ (by omega)] at hset
          have HSET := Lib.hid hset
          have HGR := Lib.hid (show w5.grownBy (wr.setCell ⟨gg, j * 3 + 1, none⟩ (.int .i64 (wrap64 ((sat l' j).dl + 1)))) (some gg) from (show w5.grownBy wr (some gg) from hgr).trans (grown_setCell wr gg (j * 3 + 1) _))
          have HL' := Lib.hid (show (l'.set j { sat l' j with dl := wrap64 ((sat l' j).dl + 1) }).length = e.n3 by rw [List.length_set]; exact hl')
          clear hset hgr hown hl'
          generalize l'.set j { sat l' j with dl := wrap64 ((sat l' j).dl + 1) } = l2 at *
          generalize (sat l' j).dl = ia at *
          go_wp2_with fail
          exact ⟨⟨j + 1, l2, by omega, by go_num, HL'.out, HSET.out, HGR.out⟩, by simp [intOf]; omega⟩
        · obtain rfl : j = e.n3 := by omega
          clear hj
          have HG4 := Lib.hid hgr
          clear hgr hown hl' l'
          go_wp2_with fail
          go_ret
          have hg4 := HG4.out
          have hy4 := hg4.size
          have hgl : ∀ j, (Value.slice A7 e.n3 c7).ownBlock = some j → zt ≤ j ∧ j < w3.heap.size := fun j hj => HOW.out.lt j hj
          have hold : ∀ k, k < zt → k ≠ b → wr.heap[k]? = wu.heap[k]? := fun k hk hkb =>
            (hg4.block k (by omega) (by intro h; have := (hgl k h.symm).1; omega)).trans ((R4.out.block k (by omega) (by intro h; injection h with h; exact hkb h)).trans (HB3.out.block k hk))
          have hzz := HZ.out
          refine ⟨rfl, ⟨⟨S', SW, d2, t2, DW, ?_, ?_, ?_, ?_, ?_, ?_⟩, hlb, hlg, hne, by omega⟩, ?_, ?_⟩
          · exact (hg4.block b (by omega) (by intro h; have := (hgl b h.symm).1; omega)).trans R1.out
          · refine R2.out.kept (fun k hk => hg4.block k (R2.out.lo k hk).2 ?_) (fun _ h => h) fun k hk => ⟨(R2.out.lo k hk).1, by have := (R2.out.lo k hk).2; omega⟩
            intro h
            have h2 := hgl k h.symm
            rcases R3.out k hk with h3 | h3
            · have := (TPB.out.lo k h3).2; omega
            · omega
          · exact (hold g (by omega) (fun h => hne h.symm)).trans UWW.out
          · exact UPW.out.kept (fun k hk => hold k (by have := (UPW.out.lo k hk).2; omega) (by have := (UPW.out.lo k hk).1; omega)) (fun _ h => h) fun k hk => ⟨(UPW.out.lo k hk).1, by have := (UPW.out.lo k hk).2; omega⟩
          · intro k hk hk2
            rcases R3.out k hk with h1 | h1
            · exact UNE.out k h1 hk2
            · have := (UPW.out.lo k hk2).2; omega
          · intro k hk
            obtain ⟨f1, f2, f3, f4, f5⟩ := HFF.out k hk
            refine ⟨by omega, f2, f3, fun h => ?_, UNF.out k hk⟩
            rcases R3.out k h with h3 | h3
            · exact f4 h3
            · omega
          · exact ⟨hg4.os.trans (R4.out.os.trans (HB3.out.os.trans TBL.out.os)), hg4.tape.trans (R4.out.tape.trans (HB3.out.tape.trans TBL.out.tape)), hg4.output.trans (R4.out.output.trans (HB3.out.output.trans TBL.out.output)), by have := TBL.out.size; omega, fun k hk => (hold k (by omega) (by omega)).trans (TBL.out.block k hk)⟩
          · intro k hk
            obtain ⟨f1, f2, f3, f4, f5⟩ := HFF.out k hk
            exact (hold k (by omega) f2).trans (TFR.out k hk)
end Go.Proofs.YtkmcjjoicpgjfaaDoor
/-
  shallotlaw18.names, its second kind (Send). Conditions: the sizes that slices can have.
-/
namespace Go.Proofs.YtkmcjjoicpgjfaaDoor
open Go Go.RowKit Go.Sh

theorem iv_get2 (l : List Int) {k : Nat} (h : k < l.length) : (iv l)[k]? = some (.int .i64 (it l k)) := by
  unfold iv it
  rw [List.getElem?_map, List.getD_eq_getElem?_getD, List.getElem?_eq_getElem h]
  rfl
theorem iv_put2 (l : List Int) (k : Nat) (x : Int) : (iv l).set k (.int .i64 x) = iv (l.set k x) := by simp [iv, List.map_set]
set_option maxHeartbeats 8000000 in
set_option maxRecDepth 100000 in
theorem names5_any (b g base g0 B : Nat) (F : Nat → Prop) (p : Prg) (e : Apd) (a : Ac) (w : World) (hs : LS w b g base F p) (ha : AR w B e a) (hk : a.kind = 5) (hm : p.snds.length ≤ 1048576) (hmi : ∀ x ∈ p.snds, x.rts.length ≤ 1048576) (hB : B ≤ g0) (hb : g0 ≤ b) (_ : g0 ≤ g) :
    Calls Tryd.prog 12 #[.pointer (some ⟨b, 0, none⟩), .pointer (some ⟨g, 0, none⟩), .agg (acs e a)] w fun x w' => x = .returned (.bool true) ∧ LS w' b g base F (sndP p a.spec) ∧ Stay F g0 w w' := by
  obtain ⟨P', hP⟩ : ∃ P', sndP p a.spec = P' := ⟨_, rfl⟩
  rw [hP]
  have HP := Lib.hid hP
  clear hP
  obtain ⟨⟨Sb, Sw, d, t, d', hbb, hpb, hww, hpw, hap, hF⟩, hlb, hlg, hne, hbs⟩ := hs
  have HFF := Lib.hid hF
  clear hF
  have hba := (Below.refl w.heap.size w).alloc (Nat.le_refl _) (.cells (acs e a) 45)
  have hnew := heap_alloc_new w (.cells (acs e a) 45)
  have hsa : (w.alloc (.cells (acs e a) 45)).heap.size = w.heap.size + 1 := by simp
  have HNEW := Lib.hid hnew
  have HPB := Lib.hid (hpb.later hba)
  have HPW := Lib.hid (hpw.later hba)
  have HLOW := Lib.hid hpw.lo
  have HBB := Lib.hid (hbb.below hba hbb.lt)
  have hgs : g < w.heap.size := (Array.getElem?_eq_some_iff.1 hww).1
  have hbsz : b < w.heap.size := hbb.lt
  have HWW := Lib.hid (show BlkW _ g d' p from (hba.block g hgs).trans hww)
  have HAR := Lib.hid (ha.below (hba.mono (by omega)))
  have HAP := Lib.hid hap
  have HBA := Lib.hid hba
  clear hba hnew hpb hpw hbb hww ha hap
  have HK := Lib.hid hk
  have hlm : p.snds.length = d.n4 := HPB.out.ls
  have hlm' : p.snds.length = d'.n4 := HPW.out.ls
  clear hk
  unfold acs at *
  go_enter Tryd.func12, Tryd.ntmps12
  go_upto_region 1 with fail
  generalize hwa : w.alloc (.cells #[.int .i64 a.kind, .int .i64 a.at_, .int .i64 a.to_, .slice e.A1 e.n1 e.c1, .slice e.A2 e.n2 e.c2, .slice e.A3 e.n3 e.c3, .int .i64 a.spec.msg, .slice e.A4 e.n4 e.c4, .int .i64 a.spec.blk] 45) = wa at *
  obtain ⟨q, hq⟩ : ∃ q, w.heap.size = q := ⟨_, rfl⟩
  rw [hq] at hsa HNEW HBA HFF hgs hbsz hbs ⊢
  have HQ := Lib.hid hq
  have HSA := Lib.hid hsa
  clear hwa hq
  have k0 : wa.cell? ⟨q, 0, none⟩ = some (.int .i64 5) := by rw [blk_cell HNEW.out, ← HK.out]; rfl
  have hb2 := HAR.out.b4
  have HM := Lib.hid (show RSn wa wa.heap.size d'.A4 d'.n4 p.snds from HPW.out.rsn)
  have HMI := Lib.hid hmi
  clear hmi
  go_wp2_with fail
  clear k0
  go_loopw [7] (fun i wr => ∃ k : Nat, k ≤ d'.n4 ∧ i = .int .i64 (k : Int) ∧ Below (q + 1) wa wr ∧ ∀ j, j < k → eqSnd (dat p.snds j) a.spec = false) (fun i _ => d'.n4 - (intOf i).toNat)
  case atStart => exact ⟨0, by omega, rfl, Below.refl _ _, fun j hj => absurd hj (by omega)⟩
  case round =>
    obtain ⟨k, hk, rfl, hbr, hno⟩ := hrel
    have HNO := Lib.hid hno
    have HBR := Lib.hid hbr
    have hqr := hbr.size
    rw [hsa] at hqr
    have hqb := (hbr.block q (by omega)).trans HNEW.out
    have hgb := (hbr.block g (by omega)).trans HWW.out
    have k6 : wr.cell? ⟨q, 6, none⟩ = some (.int .i64 a.spec.msg) := by rw [blk_cell hqb]; rfl
    have k7 : wr.cell? ⟨q, 7, none⟩ = some (.slice e.A4 e.n4 e.c4) := by rw [blk_cell hqb]; rfl
    have k8 : wr.cell? ⟨q, 8, none⟩ = some (.int .i64 a.spec.blk) := by rw [blk_cell hqb]; rfl
    have kw : wr.cell? ⟨g, 3, none⟩ = some (.slice d'.A4 d'.n4 d'.c4) := blk_cell hgb
    have HQB := Lib.hid hqb
    clear hno hgb hqb
    by_cases hlk : k < d'.n4
    · obtain ⟨g4, o4, Ai, ni, ci, hAd, hbb4, e0, e1, e2, hle, hri⟩ := (HM.out.below (hbr.mono (by omega))).at_ hlk
      have hni : ni ≤ 140737488355328 := by
        have := HMI.out (dat p.snds k) (dat_mem (by rw [hlm']; exact hlk))
        rw [hri.len] at this
        omega
      obtain ⟨R, hR⟩ : ∃ R, eqSnd (dat p.snds k) a.spec = R := ⟨_, rfl⟩
      have hrb : RI wr B e.A4 e.n4 a.spec.rts := HAR.out.rts.below (hbr.mono (by omega))
      have HE := Lib.hid (SameSpec_any (dat p.snds k) a.spec Ai e.A4 ni e.n4 ci e.c4 wr.drew wa.heap.size B (show RI wr.drew _ _ _ _ from hri) (show RI wr.drew _ _ _ _ from hrb) (by show wa.heap.size ≤ wr.heap.size; omega) (by show B ≤ wr.heap.size; omega) hni (by omega))
      rw [hR] at HE
      have HG := Lib.hid (dat_eq (l := p.snds) (k := k) (by rw [hlm']; exact hlk))
      have HQ2 := Lib.hid hR
      have hki : (k : Int) < (d'.n4 : Int) := by omega
      have kw2 : wr.cell? ⟨g, 3, none⟩ = some (.slice (some ⟨g4, o4, none⟩) d'.n4 d'.c4) := by rw [kw, hAd]
      have HK8 := Lib.hid (show ∀ W' : World, Below wr.heap.size wr.drew W' → W'.cell? ⟨g, 3, none⟩ = some (.slice (some ⟨g4, o4, none⟩) d'.n4 d'.c4) ∧ W'.cell? ⟨g4, o4 + k * 3, none⟩ = some (.int .i64 (dat p.snds k).msg) ∧ W'.cell? ⟨g4, o4 + k * 3 + 1, none⟩ = some (.slice Ai ni ci) ∧ W'.cell? ⟨g4, o4 + k * 3 + 2, none⟩ = some (.int .i64 (dat p.snds k).blk) ∧ W'.cell? ⟨q, 6, none⟩ = some (.int .i64 a.spec.msg) ∧ W'.cell? ⟨q, 7, none⟩ = some (.slice e.A4 e.n4 e.c4) ∧ W'.cell? ⟨q, 8, none⟩ = some (.int .i64 a.spec.blk) from fun W' h => ⟨(h.cell (p := ⟨g, 3, none⟩) (by show g < _; omega)).trans kw2, (h.cell (p := ⟨g4, o4 + k * 3, none⟩) (by show g4 < _; omega)).trans e0, (h.cell (p := ⟨g4, o4 + k * 3 + 1, none⟩) (by show g4 < _; omega)).trans e1, (h.cell (p := ⟨g4, o4 + k * 3 + 2, none⟩) (by show g4 < _; omega)).trans e2, (h.cell (p := ⟨q, 6, none⟩) (by show q < _; omega)).trans k6, (h.cell (p := ⟨q, 7, none⟩) (by show q < _; omega)).trans k7, (h.cell (p := ⟨q, 8, none⟩) (by show q < _; omega)).trans k8⟩)
      have HKW := Lib.hid kw
      have HKK6 := Lib.hid k6
      have HKK7 := Lib.hid k7
      have HKK8 := Lib.hid k8
      have hop : wr.drew.heap.size = wr.heap.size := rfl
      clear hle hR hAd kw hri hrb hbr
      go_wp2_with fail
      go_region_held3 (fun W' => W'.cell? ⟨g, 3, none⟩ = some (.slice (some ⟨g4, o4, none⟩) d'.n4 d'.c4) ∧ W'.cell? ⟨g4, o4 + k * 3, none⟩ = some (.int .i64 (dat p.snds k).msg) ∧ W'.cell? ⟨g4, o4 + k * 3 + 1, none⟩ = some (.slice Ai ni ci) ∧ W'.cell? ⟨g4, o4 + k * 3 + 2, none⟩ = some (.int .i64 (dat p.snds k).blk) ∧ W'.cell? ⟨q, 6, none⟩ = some (.int .i64 a.spec.msg) ∧ W'.cell? ⟨q, 7, none⟩ = some (.slice e.A4 e.n4 e.c4) ∧ W'.cell? ⟨q, 8, none⟩ = some (.int .i64 a.spec.blk)) (go_keep) ((go_at_call 38; refine HE.out.mono ?_; rintro e w5 ⟨rfl, hb5⟩; obtain ⟨t0, t1, t2, t3, t4, t5, t6⟩ := HK8.out w5 hb5))
      have HBW := Lib.hid (HBR.out.trans ((bl_drewN2 (Below.refl (q + 1) wr) 1).trans (Below.mono hb5 (show q + 1 ≤ wr.heap.size by omega))))
      clear t0 t1 t2 t3 t4 t5 t6 hb5 HKW HK8 HE kw2 HKK6 HKK7 HKK8 e0 e1 e2 k6 k7 k8 hop HQB
      cases R with
      | true =>
        have hf : fnd (fun x => eqSnd x a.spec) p.snds = k := fnd_at _ _ k _ HG.out HQ2.out fun j y hj hy => by rw [← dat_of hy]; exact HNO.out j hj
        have hpp : P' = p := by rw [← HP.out, sndP, hf, if_pos (by rw [hlm']; exact hlk)]
        have HKK := Lib.hid hf
        have HP2 := Lib.hid hpp
        have hkn : ((k : Int) == (d'.n4 : Int)) = false := by rw [beq_eq_false_iff_ne]; omega
        clear hf hpp HG HQ2 HNO HBR hqr
        generalize w5 = wv at *
        have tz : q + 1 ≤ wv.heap.size := by have := HBW.out.size; omega
        obtain ⟨z, hz⟩ : ∃ z, wv.heap.size = z := ⟨_, rfl⟩
        have hqv := (HBW.out.block q (by omega)).trans HNEW.out
        have HKP := Lib.hid (show ∀ W' : World, Below wv.heap.size wv W' → W'.cell? ⟨q, 6, none⟩ = some (.int .i64 a.spec.msg) ∧ W'.cell? ⟨q, 7, none⟩ = some (.slice e.A4 e.n4 e.c4) ∧ W'.cell? ⟨q, 8, none⟩ = some (.int .i64 a.spec.blk) from fun W' h => ⟨by rw [blk_cell ((h.block q (by omega)).trans hqv)]; rfl, by rw [blk_cell ((h.block q (by omega)).trans hqv)]; rfl, by rw [blk_cell ((h.block q (by omega)).trans hqv)]; rfl⟩)
        have HK1 := Lib.hid (show ∀ o1, _ from fun o1 => HKP.out (wv.alloc o1).drew (((Below.refl _ wv).alloc (Nat.le_refl _) _).drew))
        have HK2 := Lib.hid (show ∀ o1 o2, _ from fun o1 o2 => HKP.out ((wv.alloc o1).alloc o2).drew ((((Below.refl _ wv).alloc (Nat.le_refl _) _).alloc (by simp) _).drew))
        obtain ⟨k6, k7, k8⟩ := HKP.out wv.drew (Below.refl _ _).drew
        have HQV := Lib.hid hqv
        have HZ := Lib.hid hz
        clear hqv hz
        go_upto_region 19 with fail
        obtain ⟨tn1, tn2, tn3, tn4⟩ := two_new wv (.cells #[.int .i64 a.spec.msg, .slice e.A4 e.n4 e.c4, .int .i64 a.spec.blk] 43) (.cells #[.int .i64 a.spec.msg, .slice e.A4 e.n4 e.c4, .int .i64 a.spec.blk] 43)
        have TN1 := Lib.hid tn1
        have TN2 := Lib.hid tn2
        have TN3 := Lib.hid tn3
        have TN4 := Lib.hid tn4
        clear tn1 tn2 tn3 tn4
        go_cut [10, 11] (fun v1 v2 wx => ∃ x y : Nat, v1 = .pointer (some ⟨x, 0, none⟩) ∧ v2 = .pointer (some ⟨y, 0, none⟩) ∧ z ≤ x ∧ z ≤ y ∧ x ≠ y ∧ wx.heap.size = z + 2 ∧ wx.heap[x]? = some (.cells #[.int .i64 a.spec.msg, .slice e.A4 e.n4 e.c4, .int .i64 a.spec.blk] 43 (0, 0)) ∧ wx.heap[y]? = some (.cells #[.int .i64 a.spec.msg, .slice e.A4 e.n4 e.c4, .int .i64 a.spec.blk] 43 (0, 0)) ∧ Below z wv wx)
        case first =>
          go_region_held3 (fun W' => W'.cell? ⟨q, 6, none⟩ = some (.int .i64 a.spec.msg) ∧ W'.cell? ⟨q, 7, none⟩ = some (.slice e.A4 e.n4 e.c4) ∧ W'.cell? ⟨q, 8, none⟩ = some (.int .i64 a.spec.blk)) (first | exact HK1.out _ | exact HK2.out _ _ | go_keep) (fail)
          all_goals
            go_wp2_with fail
            go_meet
            have hz := HZ.out
            first
              | exact ⟨_, _, rfl, rfl, by omega, by omega, by omega, by rw [← hz]; exact TN1.out, TN2.out, TN3.out, by rw [← hz]; exact TN4.out.drew⟩
              | exact ⟨_, _, rfl, rfl, by omega, by omega, by omega, by rw [← hz]; exact TN1.out, TN3.out, TN2.out, by rw [← hz]; exact TN4.out.drew⟩
        obtain ⟨x, y, rfl, rfl, hzx, hzy, hxy, hsw, hbx, hby, hbw⟩ := hcut
        clear k6 k7 k8
        have hsz1 := hsw
        have HBZ1 := Lib.hid hbw
        have HBx1 := Lib.hid hbx
        have HBy1 := Lib.hid hby
        have hxs : x < z + 2 := by have := (Array.getElem?_eq_some_iff.1 hbx).1; omega
        have hys : y < z + 2 := by have := (Array.getElem?_eq_some_iff.1 hby).1; omega
        have hzz := HZ.out
        clear hsw hbx hby hbw HK1 HK2 HKP TN1 TN2 TN3 TN4

        have hq1 : wc.heap[q]? = _ := (HBZ1.out.block q (by omega)).trans HQV.out
        have hrd1 : Reads wc B 1 e.A4 e.n4 (iv a.spec.rts) := ((HAR.out.rts.below (HBW.out.mono (show B ≤ q + 1 by omega))).below (HBZ1.out.mono (by omega))).1
        have hlit1 : (wc.alloc (.cells #[] 3)).ownsRow (z + 2) 3 1 (.slice (some ⟨z + 2, 0, none⟩) 0 0) 0 [] := by
          have := World.ownsRow_lit (base := z + 2) (e := 3) (size := 1) wc #[] 0 (by omega) (by simp) rfl
          rwa [hsz1] at this
        have HLT1 := Lib.hid hlit1
        have HBL1 := Lib.hid ((Below.refl (z + 2) wc).alloc (by omega) (.cells #[] 3))
        have HRD1 := Lib.hid (hrd1.alloc (show B ≤ wc.heap.size by omega) (.cells #[] 3))
        have k71 : wc.cell? ⟨q, 7, none⟩ = some (.slice e.A4 e.n4 e.c4) := by rw [blk_cell hq1]; rfl
        have k7a1 : (wc.alloc (.cells #[] 3)).cell? ⟨q, 7, none⟩ = some (.slice e.A4 e.n4 e.c4) := by
          rw [HBL1.out.cell (p := ⟨q, 7, none⟩) (show q < z + 2 by omega)]; exact k71
        have hbsl1 : z + 2 ≤ (wc.alloc (.cells #[] 3)).heap.size := by simp; omega
        clear hlit1 hrd1 hq1
        go_wp2_with (at_builtin; refine wl_app TIt rfl (.tmp 110) (.tmp 113) rfl (.slice (some ⟨z + 2, 0, none⟩) 0 0) rfl e.A4 e.n4 e.c4 rfl (z + 2) 0 [] HLT1.out B (iv a.spec.rts) HRD1.out (iv_one _) (by omega) (by omega) hbsl1 ?_)
        intro A7 c7 w9 hown1 hg1 _
        try simp only [Nat.zero_add, List.nil_append] at hown1 ⊢
        have hb1 : Below (z + 2) wc w9 := HBL1.out.grown hg1 hbsl1 (fun j hj => by injection hj with hj; have hj : z + 2 = j := hj; omega)
        have hw1 := hb1.size
        have hX1 := (hb1.block x (by omega)).trans HBx1.out
        have hY1 := (hb1.block y (by omega)).trans HBy1.out
        have c11 : w9.cell? ⟨x, 1, none⟩ = some (.slice e.A4 e.n4 e.c4) := blk_cell hX1
        have f11 : w9.frozen? ⟨x, 1, none⟩ = false := frozen_of_row _ _ 1 _ _ hX1
        have HXN1 := Lib.hid (show (w9.setCell ⟨x, 1, none⟩ (.slice A7 e.n4 c7)).heap[x]? = some (.cells #[.int .i64 a.spec.msg, .slice A7 e.n4 c7, .int .i64 a.spec.blk] 43 (0, 0)) from blk_set hX1 _)
        have HYN1 := Lib.hid ((Below.heap_setCell w9 ⟨x, 1, none⟩ (.slice A7 e.n4 c7) y (show y ≠ x by omega)).trans hY1)
        have HON1 := Lib.hid (ownsRow_setCell_below hown1 (a := ⟨x, 1, none⟩) (show x < z + 2 by omega) (.slice A7 e.n4 c7))
        have HBN1 := Lib.hid ((HBZ1.out.trans (hb1.mono (by omega))).setCell (p := ⟨x, 1, none⟩) (show z ≤ x by omega) (.slice A7 e.n4 c7))
        have HSN1 := Lib.hid (show (w9.setCell ⟨x, 1, none⟩ (.slice A7 e.n4 c7)).heap.size = w9.heap.size by simp)
        have HLN1 := Lib.hid hown1.lt
        have HBB1 := Lib.hid hb1
        clear hown1 hg1 hb1 hX1 hY1 k71 k7a1 HLT1 HBL1 HRD1 hbsl1
        go_upto_region 21 with fail
        clear c11 f11
        generalize w9.setCell ⟨x, 1, none⟩ (.slice A7 e.n4 c7) = w10 at *
        obtain ⟨z1, hz1⟩ : ∃ z1, w10.heap.size = z1 := ⟨_, rfl⟩
        have hsz2 := hz1
        have hsn1 := HSN1.out
        have hz12 : z + 2 ≤ z1 := by omega
        have HBZ2 := HBN1
        have HBx2 := HXN1
        have HBy2 := HYN1
        have HO72 := HON1
        clear hz1 HBN1 HXN1 HYN1 HON1 HBx1 HBy1 HBZ1 hsz1

        have hq2 : w10.heap[q]? = _ := (HBZ2.out.block q (by omega)).trans HQV.out
        have hrd2 : Reads w10 B 1 e.A4 e.n4 (iv a.spec.rts) := ((HAR.out.rts.below (HBW.out.mono (show B ≤ q + 1 by omega))).below (HBZ2.out.mono (by omega))).1
        have hlit2 : (w10.alloc (.cells #[] 3)).ownsRow z1 3 1 (.slice (some ⟨z1, 0, none⟩) 0 0) 0 [] := by
          have := World.ownsRow_lit (base := z1) (e := 3) (size := 1) w10 #[] 0 (by omega) (by simp) rfl
          rwa [hsz2] at this
        have HLT2 := Lib.hid hlit2
        have HBL2 := Lib.hid ((Below.refl (z1) w10).alloc (by omega) (.cells #[] 3))
        have HRD2 := Lib.hid (hrd2.alloc (show B ≤ w10.heap.size by omega) (.cells #[] 3))
        have k72 : w10.cell? ⟨q, 7, none⟩ = some (.slice e.A4 e.n4 e.c4) := by rw [blk_cell hq2]; rfl
        have k7a2 : (w10.alloc (.cells #[] 3)).cell? ⟨q, 7, none⟩ = some (.slice e.A4 e.n4 e.c4) := by
          rw [HBL2.out.cell (p := ⟨q, 7, none⟩) (show q < z1 by omega)]; exact k72
        have hbsl2 : z1 ≤ (w10.alloc (.cells #[] 3)).heap.size := by simp; omega
        clear hlit2 hrd2 hq2
        go_wp2_with (at_builtin; refine wl_app TIt rfl (.tmp 116) (.tmp 119) rfl (.slice (some ⟨z1, 0, none⟩) 0 0) rfl e.A4 e.n4 e.c4 rfl (z1) 0 [] HLT2.out B (iv a.spec.rts) HRD2.out (iv_one _) (by omega) (by omega) hbsl2 ?_)
        intro A9 c9 w11 hown2 hg2 _
        try simp only [Nat.zero_add, List.nil_append] at hown2 ⊢
        have hb2 : Below (z1) w10 w11 := HBL2.out.grown hg2 hbsl2 (fun j hj => by injection hj with hj; have hj : z1 = j := hj; omega)
        have hw2 := hb2.size
        have hX2 := (hb2.block y (by omega)).trans HBy2.out
        have hY2 := (hb2.block x (by omega)).trans HBx2.out
        have c12 : w11.cell? ⟨y, 1, none⟩ = some (.slice e.A4 e.n4 e.c4) := blk_cell hX2
        have f12 : w11.frozen? ⟨y, 1, none⟩ = false := frozen_of_row _ _ 1 _ _ hX2
        have HXN2 := Lib.hid (show (w11.setCell ⟨y, 1, none⟩ (.slice A9 e.n4 c9)).heap[y]? = some (.cells #[.int .i64 a.spec.msg, .slice A9 e.n4 c9, .int .i64 a.spec.blk] 43 (0, 0)) from blk_set hX2 _)
        have HYN2 := Lib.hid ((Below.heap_setCell w11 ⟨y, 1, none⟩ (.slice A9 e.n4 c9) x (show x ≠ y by omega)).trans hY2)
        have HON2 := Lib.hid (ownsRow_setCell_below hown2 (a := ⟨y, 1, none⟩) (show y < z1 by omega) (.slice A9 e.n4 c9))
        have HBN2 := Lib.hid ((HBZ2.out.trans (hb2.mono (by omega))).setCell (p := ⟨y, 1, none⟩) (show z ≤ y by omega) (.slice A9 e.n4 c9))
        have HSN2 := Lib.hid (show (w11.setCell ⟨y, 1, none⟩ (.slice A9 e.n4 c9)).heap.size = w11.heap.size by simp)
        have HLN2 := Lib.hid hown2.lt
        have HBB2 := Lib.hid hb2
        clear hown2 hg2 hb2 hX2 hY2 k72 k7a2 HLT2 HBL2 HRD2 hbsl2
        go_upto_region 22 with fail
        clear c12 f12
        have hO7 := HO72.out
        have hO7b := own_later hO7 (show Below w10.heap.size w10 w11 from HBB2.out.mono (by omega))
        have HO7 := Lib.hid (ownsRow_setCell_below hO7b (a := ⟨y, 1, none⟩) (show y < z + 2 by omega) (.slice A9 e.n4 c9))
        have HL7 := Lib.hid (show ∀ k, (Value.slice A7 e.n4 c7).ownBlock = some k → z + 2 ≤ k ∧ k < z1 from fun k hk => by have := HO72.out.lt k hk; omega)
        clear hO7 hO7b HO72
        generalize w11.setCell ⟨y, 1, none⟩ (.slice A9 e.n4 c9) = wy at *
        have hsy := HSN2.out
        have HO9 := HON2
        have HBx := HYN2
        have HBy := HXN2
        have HWY := Lib.hid (HBW.out.trans (HBN2.out.mono (show q + 1 ≤ z by omega)))
        have hzy2 : z1 ≤ wy.heap.size := by omega
        clear HON2 HYN2 HXN2 HBx2 HBy2 HBZ2 HSN2 HSN1 HBB1 HBB2 HLN1 HLN2 HBN2
        have TBK := Lib.hid (HBB.out.below HWY.out (by omega))
        have TPB := Lib.hid (HPB.out.later (HWY.out.mono (by omega)))
        have TWW := Lib.hid (show BlkW wy g d' p from (HWY.out.block g (by omega)).trans HWW.out)
        have TPW := Lib.hid (HPW.out.later (HWY.out.mono (by omega)))
        have TBL := Lib.hid (show Below g0 w wy from (HBA.out.mono (by omega)).trans (HWY.out.mono (by omega)))
        have TFR := Lib.hid (show ∀ k, F k → wy.heap[k]? = w.heap[k]? from fun k hk => (HWY.out.block k (by have := (HFF.out k hk).1; omega)).trans (HBA.out.block k (HFF.out k hk).1))
        have TRT := Lib.hid (show ∀ x ∈ a.spec.rts, -9223372036854775808 ≤ x ∧ x ≤ 9223372036854775807 from HAR.out.rts.2)
        have kwy : wy.cell? ⟨g, 3, none⟩ = some (.slice d'.A4 d'.n4 d'.c4) := blk_cell TWW.out
        go_upto_region 24 with fail
        rw [← HP2.out] at TWW TPW
        obtain ⟨SW, DW, UWW, UPW, UNE, UNA, UNF⟩ : ∃ (SW : Nat → Prop) (DW : Pad), Hid (BlkW wy g DW P') ∧ Hid (PO wy base SW DW DW P') ∧ Hid (∀ k, Sb k → ¬ SW k) ∧ Hid (∀ k, (Value.slice A7 e.n4 c7).ownBlock = some k → ¬ SW k) ∧ Hid (∀ k, F k → ¬ SW k) := ⟨Sw, d', TWW, TPW, HAP, Lib.hid fun k hk h => by have := (HL7.out k hk).1; have := (HPW.out.lo k h).2; omega, Lib.hid fun k hk => (HFF.out k hk).2.2.2.2⟩
        clear TWW TPW kwy HO9 HBy
        have hyu : wy.heap.size = wy.heap.size := rfl
        clear hyu
        generalize wy = wu at *
        obtain ⟨zu, hzu⟩ : ∃ zu, wu.heap.size = zu := ⟨_, rfl⟩
        have HZU := Lib.hid hzu
        have x0 : wu.cell? ⟨x, 0, none⟩ = some (.int .i64 a.spec.msg) := blk_cell HBx.out
        have x1 : wu.cell? ⟨x, 1, none⟩ = some (.slice A7 e.n4 c7) := blk_cell HBx.out
        have x2 : wu.cell? ⟨x, 2, none⟩ = some (.int .i64 a.spec.blk) := blk_cell HBx.out
        have hri : RI wu wu.heap.size A7 e.n4 a.spec.rts := RI.of_own HO7.out TRT.out
        have HSE := Lib.hid (Send_any b base Sb d t p A7 e.n4 c7 wu.heap.size a.spec wu TBK.out TPB.out hri hlb (by have := TPB.out.lo; omega) (Nat.le_refl _) (by omega) (by omega) (fun r hr => by have := HMI.out r hr; omega))
        rw [HKK.out, HP.out] at HSE
        have hkk : ((k : Int) != (k : Int)) = false := by simp
        have hxs2 : x < wu.heap.size := (Array.getElem?_eq_some_iff.1 HBx.out).1
        clear hri hzu
        go_wp2_with fail
        clear x0 x1 x2
        refine HSE.out.mono ?_
        rintro x' w5 ⟨rfl, S', d2, t2, r1, r2, r3, r4⟩
        have hbx5 := (r4.block x hxs2 (by intro h; injection h with h; omega)).trans HBx.out
        have hown5 : w5.ownsRow (z + 2) 3 1 (.slice A7 e.n4 c7) e.n4 (iv a.spec.rts) := HO7.out.kept r4 (.inr fun h => by have := (HO7.out.lt b h).1; omega)
        have hz5 : wu.heap.size ≤ w5.heap.size := r4.size
        have hlen : a.spec.rts.length = e.n4 := by have := hown5.1; simpa [iv] using this
        have x1 : w5.cell? ⟨x, 1, none⟩ = some (.slice A7 e.n4 c7) := blk_cell hbx5
        have HOW5 := Lib.hid hown5
        have HBX5 := Lib.hid hbx5
        have R1 := Lib.hid r1
        have R2 := Lib.hid r2
        have R3 := Lib.hid (show ∀ k, S' k → Sb k ∨ wu.heap.size ≤ k from r3)
        have R4 := Lib.hid r4
        clear hown5 r1 r2 r3 r4 hbx5 HSE
        go_wp2_with fail
        clear x1
        go_loopw [147, 12] (fun i _ wr => ∃ (j : Nat) (l' : List Int), j ≤ e.n4 ∧ i = .int .i64 (j : Int) ∧ l'.length = e.n4 ∧ wr.ownsRow (z + 2) 3 1 (.slice A7 e.n4 c7) e.n4 (iv l') ∧ w5.grownBy wr (Value.slice A7 e.n4 c7).ownBlock) (fun i _ _ => e.n4 - (intOf i).toNat)
        case atStart => exact ⟨0, a.spec.rts, by omega, rfl, hlen, HOW5.out, World.grownBy.refl _ _⟩
        case round =>
          obtain ⟨j, l', hj, rfl, hl', hown, hgr⟩ := hrel
          have h7 := HL7.out
          have hbxr := (hgr.block x (by omega) (by intro h; have := (h7 x h.symm).1; omega)).trans HBX5.out
          have x1 : wr.cell? ⟨x, 1, none⟩ = some (.slice A7 e.n4 c7) := blk_cell hbxr
          clear h7 hbxr
          by_cases hlt : j < e.n4
          · obtain ⟨gg, rfl⟩ := own_at hown (by omega)
            have hca := own_cellN hown (iv_get2 l' (k := j) (by omega))
            have hfa := own_freeN hown j
            have hset := own_setN hown j (.int .i64 (wrap64 (it l' j + 1)))
            rw [iv_put2 l' j _] at hset
            have HSET := Lib.hid hset
            have HGR := Lib.hid (show w5.grownBy (wr.setCell ⟨gg, j, none⟩ (.int .i64 (wrap64 (it l' j + 1)))) (some gg) from (show w5.grownBy wr (some gg) from hgr).trans (grown_setCell wr gg j _))
            have HL' := Lib.hid (show (l'.set j (wrap64 (it l' j + 1))).length = e.n4 by rw [List.length_set]; exact hl')
            clear hset hgr hown hl'
            generalize l'.set j (wrap64 (it l' j + 1)) = l2 at *
            generalize it l' j = ia at *
            go_wp2_with fail
            exact ⟨⟨j + 1, l2, by omega, by go_num, HL'.out, HSET.out, HGR.out⟩, by simp [intOf]; omega⟩
          · obtain rfl : j = e.n4 := by omega
            clear hj
            have HG4 := Lib.hid hgr
            clear hgr hown hl' l'
            go_wp2_with fail
            go_ret
            have hg4 := HG4.out
            have hy4 := hg4.size
            have hgl := HL7.out
            have hzz4 := HZU.out
            have hold : ∀ k, k < wu.heap.size → (Value.slice A7 e.n4 c7).ownBlock ≠ some k → k ≠ b → wr.heap[k]? = wu.heap[k]? := fun k hk hn hkb =>
              (hg4.block k (by omega) (fun h => hn h.symm)).trans (R4.out.block k hk (by intro h; injection h with h; exact hkb h))
            have h7b : ∀ k, k < z + 2 → (Value.slice A7 e.n4 c7).ownBlock ≠ some k := fun k hk h => by have := (hgl k h).1; omega
            refine ⟨rfl, ⟨⟨S', SW, d2, t2, DW, ?_, ?_, ?_, ?_, ?_, ?_⟩, hlb, hlg, hne, by omega⟩, ?_, ?_⟩
            · exact (hg4.block b (by omega) (by intro h; have := (hgl b h.symm).1; omega)).trans R1.out
            · refine R2.out.kept (fun k hk => hg4.block k (R2.out.lo k hk).2 ?_) (fun _ h => h) fun k hk => ⟨(R2.out.lo k hk).1, by have := (R2.out.lo k hk).2; omega⟩
              intro h
              have h2 := hgl k h.symm
              rcases R3.out k hk with h3 | h3
              · have := (HPB.out.lo k h3).2; omega
              · omega
            · exact (hold g (by omega) (h7b g (by omega)) (fun h => hne h.symm)).trans UWW.out
            · exact UPW.out.kept (fun k hk => hold k (UPW.out.lo k hk).2 (fun h => UNA.out k h hk) (by have := (UPW.out.lo k hk).1; omega)) (fun _ h => h) fun k hk => ⟨(UPW.out.lo k hk).1, by have := (UPW.out.lo k hk).2; omega⟩
            · intro k hk hk2
              rcases R3.out k hk with h1 | h1
              · exact UNE.out k h1 hk2
              · have := (UPW.out.lo k hk2).2; omega
            · intro k hk
              obtain ⟨f1, f2, f3, f4, f5⟩ := HFF.out k hk
              refine ⟨by omega, f2, f3, fun h => ?_, UNF.out k hk⟩
              rcases R3.out k h with h3 | h3
              · exact f4 h3
              · omega
            · exact ⟨hg4.os.trans (R4.out.os.trans TBL.out.os), hg4.tape.trans (R4.out.tape.trans TBL.out.tape), hg4.output.trans (R4.out.output.trans TBL.out.output), by have := TBL.out.size; omega, fun k hk => (hold k (by omega) (h7b k (by omega)) (by omega)).trans (TBL.out.block k hk)⟩
            · intro k hk
              obtain ⟨f1, f2, f3, f4, f5⟩ := HFF.out k hk
              exact (hold k (by omega) (h7b k (by omega)) f2).trans (TFR.out k hk)
      | false =>
        go_wp2_with fail
        exact ⟨⟨k + 1, by omega, by go_num, HBW.out, fun j hj => by
          by_cases e : j = k
          · rw [e]; exact HQ2.out
          · exact HNO.out j (by omega)⟩, by simp [intOf]; omega⟩
    · have hki : ¬ (k : Int) < (d'.n4 : Int) := by omega
      have hkn : ((k : Int) == (d'.n4 : Int)) = true := by rw [beq_iff_eq]; omega
      have hf : fnd (fun x => eqSnd x a.spec) p.snds = k := by rw [show k = p.snds.length by omega]; exact fnd_none _ _ fun j y hy => by rw [← dat_of hy]; exact HNO.out j (by have := (List.getElem?_eq_some_iff.1 hy).1; omega)
      have hpp : P' = { p with snds := p.snds ++ [a.spec] } := by rw [← HP.out, sndP, hf, if_neg (by omega)]
      have HKK := Lib.hid hf
      have HP2 := Lib.hid hpp
      have HBR2 := HBR
      clear hf hpp HNO hbr
      go_wp2_with fail
      go_quiet (fail)
      have HBW := Lib.hid (bl_drewN2 HBR2.out nq)
      clear k6 k7 k8 kw HBR hqr HQB HBR2
      generalize wr.drewN nq = wv at *
      have tz : q + 1 ≤ wv.heap.size := by have := HBW.out.size; omega
      obtain ⟨z, hz⟩ : ∃ z, wv.heap.size = z := ⟨_, rfl⟩
      have hqv := (HBW.out.block q (by omega)).trans HNEW.out
      have HKP := Lib.hid (show ∀ W' : World, Below wv.heap.size wv W' → W'.cell? ⟨q, 6, none⟩ = some (.int .i64 a.spec.msg) ∧ W'.cell? ⟨q, 7, none⟩ = some (.slice e.A4 e.n4 e.c4) ∧ W'.cell? ⟨q, 8, none⟩ = some (.int .i64 a.spec.blk) from fun W' h => ⟨by rw [blk_cell ((h.block q (by omega)).trans hqv)]; rfl, by rw [blk_cell ((h.block q (by omega)).trans hqv)]; rfl, by rw [blk_cell ((h.block q (by omega)).trans hqv)]; rfl⟩)
      have HK1 := Lib.hid (show ∀ o1, _ from fun o1 => HKP.out (wv.alloc o1).drew (((Below.refl _ wv).alloc (Nat.le_refl _) _).drew))
      have HK2 := Lib.hid (show ∀ o1 o2, _ from fun o1 o2 => HKP.out ((wv.alloc o1).alloc o2).drew ((((Below.refl _ wv).alloc (Nat.le_refl _) _).alloc (by simp) _).drew))
      obtain ⟨k6, k7, k8⟩ := HKP.out wv.drew (Below.refl _ _).drew
      have HQV := Lib.hid hqv
      have HZ := Lib.hid hz
      clear hqv hz
      go_upto_region 19 with fail
      obtain ⟨tn1, tn2, tn3, tn4⟩ := two_new wv (.cells #[.int .i64 a.spec.msg, .slice e.A4 e.n4 e.c4, .int .i64 a.spec.blk] 43) (.cells #[.int .i64 a.spec.msg, .slice e.A4 e.n4 e.c4, .int .i64 a.spec.blk] 43)
      have TN1 := Lib.hid tn1
      have TN2 := Lib.hid tn2
      have TN3 := Lib.hid tn3
      have TN4 := Lib.hid tn4
      clear tn1 tn2 tn3 tn4
      go_cut [10, 11] (fun v1 v2 wx => ∃ x y : Nat, v1 = .pointer (some ⟨x, 0, none⟩) ∧ v2 = .pointer (some ⟨y, 0, none⟩) ∧ z ≤ x ∧ z ≤ y ∧ x ≠ y ∧ wx.heap.size = z + 2 ∧ wx.heap[x]? = some (.cells #[.int .i64 a.spec.msg, .slice e.A4 e.n4 e.c4, .int .i64 a.spec.blk] 43 (0, 0)) ∧ wx.heap[y]? = some (.cells #[.int .i64 a.spec.msg, .slice e.A4 e.n4 e.c4, .int .i64 a.spec.blk] 43 (0, 0)) ∧ Below z wv wx)
      case first =>
        go_region_held3 (fun W' => W'.cell? ⟨q, 6, none⟩ = some (.int .i64 a.spec.msg) ∧ W'.cell? ⟨q, 7, none⟩ = some (.slice e.A4 e.n4 e.c4) ∧ W'.cell? ⟨q, 8, none⟩ = some (.int .i64 a.spec.blk)) (first | exact HK1.out _ | exact HK2.out _ _ | go_keep) (fail)
        all_goals
          go_wp2_with fail
          go_meet
          have hz := HZ.out
          first
            | exact ⟨_, _, rfl, rfl, by omega, by omega, by omega, by rw [← hz]; exact TN1.out, TN2.out, TN3.out, by rw [← hz]; exact TN4.out.drew⟩
            | exact ⟨_, _, rfl, rfl, by omega, by omega, by omega, by rw [← hz]; exact TN1.out, TN3.out, TN2.out, by rw [← hz]; exact TN4.out.drew⟩
      obtain ⟨x, y, rfl, rfl, hzx, hzy, hxy, hsw, hbx, hby, hbw⟩ := hcut
      clear k6 k7 k8
      have hsz1 := hsw
      have HBZ1 := Lib.hid hbw
      have HBx1 := Lib.hid hbx
      have HBy1 := Lib.hid hby
      have hxs : x < z + 2 := by have := (Array.getElem?_eq_some_iff.1 hbx).1; omega
      have hys : y < z + 2 := by have := (Array.getElem?_eq_some_iff.1 hby).1; omega
      have hzz := HZ.out
      clear hsw hbx hby hbw HK1 HK2 HKP TN1 TN2 TN3 TN4

      have hq1 : wc.heap[q]? = _ := (HBZ1.out.block q (by omega)).trans HQV.out
      have hrd1 : Reads wc B 1 e.A4 e.n4 (iv a.spec.rts) := ((HAR.out.rts.below (HBW.out.mono (show B ≤ q + 1 by omega))).below (HBZ1.out.mono (by omega))).1
      have hlit1 : (wc.alloc (.cells #[] 3)).ownsRow (z + 2) 3 1 (.slice (some ⟨z + 2, 0, none⟩) 0 0) 0 [] := by
        have := World.ownsRow_lit (base := z + 2) (e := 3) (size := 1) wc #[] 0 (by omega) (by simp) rfl
        rwa [hsz1] at this
      have HLT1 := Lib.hid hlit1
      have HBL1 := Lib.hid ((Below.refl (z + 2) wc).alloc (by omega) (.cells #[] 3))
      have HRD1 := Lib.hid (hrd1.alloc (show B ≤ wc.heap.size by omega) (.cells #[] 3))
      have k71 : wc.cell? ⟨q, 7, none⟩ = some (.slice e.A4 e.n4 e.c4) := by rw [blk_cell hq1]; rfl
      have k7a1 : (wc.alloc (.cells #[] 3)).cell? ⟨q, 7, none⟩ = some (.slice e.A4 e.n4 e.c4) := by
        rw [HBL1.out.cell (p := ⟨q, 7, none⟩) (show q < z + 2 by omega)]; exact k71
      have hbsl1 : z + 2 ≤ (wc.alloc (.cells #[] 3)).heap.size := by simp; omega
      clear hlit1 hrd1 hq1
      go_wp2_with (at_builtin; refine wl_app TIt rfl (.tmp 110) (.tmp 113) rfl (.slice (some ⟨z + 2, 0, none⟩) 0 0) rfl e.A4 e.n4 e.c4 rfl (z + 2) 0 [] HLT1.out B (iv a.spec.rts) HRD1.out (iv_one _) (by omega) (by omega) hbsl1 ?_)
      intro A7 c7 w9 hown1 hg1 _
      try simp only [Nat.zero_add, List.nil_append] at hown1 ⊢
      have hb1 : Below (z + 2) wc w9 := HBL1.out.grown hg1 hbsl1 (fun j hj => by injection hj with hj; have hj : z + 2 = j := hj; omega)
      have hw1 := hb1.size
      have hX1 := (hb1.block x (by omega)).trans HBx1.out
      have hY1 := (hb1.block y (by omega)).trans HBy1.out
      have c11 : w9.cell? ⟨x, 1, none⟩ = some (.slice e.A4 e.n4 e.c4) := blk_cell hX1
      have f11 : w9.frozen? ⟨x, 1, none⟩ = false := frozen_of_row _ _ 1 _ _ hX1
      have HXN1 := Lib.hid (show (w9.setCell ⟨x, 1, none⟩ (.slice A7 e.n4 c7)).heap[x]? = some (.cells #[.int .i64 a.spec.msg, .slice A7 e.n4 c7, .int .i64 a.spec.blk] 43 (0, 0)) from blk_set hX1 _)
      have HYN1 := Lib.hid ((Below.heap_setCell w9 ⟨x, 1, none⟩ (.slice A7 e.n4 c7) y (show y ≠ x by omega)).trans hY1)
      have HON1 := Lib.hid (ownsRow_setCell_below hown1 (a := ⟨x, 1, none⟩) (show x < z + 2 by omega) (.slice A7 e.n4 c7))
      have HBN1 := Lib.hid ((HBZ1.out.trans (hb1.mono (by omega))).setCell (p := ⟨x, 1, none⟩) (show z ≤ x by omega) (.slice A7 e.n4 c7))
      have HSN1 := Lib.hid (show (w9.setCell ⟨x, 1, none⟩ (.slice A7 e.n4 c7)).heap.size = w9.heap.size by simp)
      have HLN1 := Lib.hid hown1.lt
      have HBB1 := Lib.hid hb1
      clear hown1 hg1 hb1 hX1 hY1 k71 k7a1 HLT1 HBL1 HRD1 hbsl1
      go_upto_region 21 with fail
      clear c11 f11
      generalize w9.setCell ⟨x, 1, none⟩ (.slice A7 e.n4 c7) = w10 at *
      obtain ⟨z1, hz1⟩ : ∃ z1, w10.heap.size = z1 := ⟨_, rfl⟩
      have hsz2 := hz1
      have hsn1 := HSN1.out
      have hz12 : z + 2 ≤ z1 := by omega
      have HBZ2 := HBN1
      have HBx2 := HXN1
      have HBy2 := HYN1
      have HO72 := HON1
      clear hz1 HBN1 HXN1 HYN1 HON1 HBx1 HBy1 HBZ1 hsz1

      have hq2 : w10.heap[q]? = _ := (HBZ2.out.block q (by omega)).trans HQV.out
      have hrd2 : Reads w10 B 1 e.A4 e.n4 (iv a.spec.rts) := ((HAR.out.rts.below (HBW.out.mono (show B ≤ q + 1 by omega))).below (HBZ2.out.mono (by omega))).1
      have hlit2 : (w10.alloc (.cells #[] 3)).ownsRow z1 3 1 (.slice (some ⟨z1, 0, none⟩) 0 0) 0 [] := by
        have := World.ownsRow_lit (base := z1) (e := 3) (size := 1) w10 #[] 0 (by omega) (by simp) rfl
        rwa [hsz2] at this
      have HLT2 := Lib.hid hlit2
      have HBL2 := Lib.hid ((Below.refl (z1) w10).alloc (by omega) (.cells #[] 3))
      have HRD2 := Lib.hid (hrd2.alloc (show B ≤ w10.heap.size by omega) (.cells #[] 3))
      have k72 : w10.cell? ⟨q, 7, none⟩ = some (.slice e.A4 e.n4 e.c4) := by rw [blk_cell hq2]; rfl
      have k7a2 : (w10.alloc (.cells #[] 3)).cell? ⟨q, 7, none⟩ = some (.slice e.A4 e.n4 e.c4) := by
        rw [HBL2.out.cell (p := ⟨q, 7, none⟩) (show q < z1 by omega)]; exact k72
      have hbsl2 : z1 ≤ (w10.alloc (.cells #[] 3)).heap.size := by simp; omega
      clear hlit2 hrd2 hq2
      go_wp2_with (at_builtin; refine wl_app TIt rfl (.tmp 116) (.tmp 119) rfl (.slice (some ⟨z1, 0, none⟩) 0 0) rfl e.A4 e.n4 e.c4 rfl (z1) 0 [] HLT2.out B (iv a.spec.rts) HRD2.out (iv_one _) (by omega) (by omega) hbsl2 ?_)
      intro A9 c9 w11 hown2 hg2 _
      try simp only [Nat.zero_add, List.nil_append] at hown2 ⊢
      have hb2 : Below (z1) w10 w11 := HBL2.out.grown hg2 hbsl2 (fun j hj => by injection hj with hj; have hj : z1 = j := hj; omega)
      have hw2 := hb2.size
      have hX2 := (hb2.block y (by omega)).trans HBy2.out
      have hY2 := (hb2.block x (by omega)).trans HBx2.out
      have c12 : w11.cell? ⟨y, 1, none⟩ = some (.slice e.A4 e.n4 e.c4) := blk_cell hX2
      have f12 : w11.frozen? ⟨y, 1, none⟩ = false := frozen_of_row _ _ 1 _ _ hX2
      have HXN2 := Lib.hid (show (w11.setCell ⟨y, 1, none⟩ (.slice A9 e.n4 c9)).heap[y]? = some (.cells #[.int .i64 a.spec.msg, .slice A9 e.n4 c9, .int .i64 a.spec.blk] 43 (0, 0)) from blk_set hX2 _)
      have HYN2 := Lib.hid ((Below.heap_setCell w11 ⟨y, 1, none⟩ (.slice A9 e.n4 c9) x (show x ≠ y by omega)).trans hY2)
      have HON2 := Lib.hid (ownsRow_setCell_below hown2 (a := ⟨y, 1, none⟩) (show y < z1 by omega) (.slice A9 e.n4 c9))
      have HBN2 := Lib.hid ((HBZ2.out.trans (hb2.mono (by omega))).setCell (p := ⟨y, 1, none⟩) (show z ≤ y by omega) (.slice A9 e.n4 c9))
      have HSN2 := Lib.hid (show (w11.setCell ⟨y, 1, none⟩ (.slice A9 e.n4 c9)).heap.size = w11.heap.size by simp)
      have HLN2 := Lib.hid hown2.lt
      have HBB2 := Lib.hid hb2
      clear hown2 hg2 hb2 hX2 hY2 k72 k7a2 HLT2 HBL2 HRD2 hbsl2
      go_upto_region 22 with fail
      clear c12 f12
      have hO7 := HO72.out
      have hO7b := own_later hO7 (show Below w10.heap.size w10 w11 from HBB2.out.mono (by omega))
      have HO7 := Lib.hid (ownsRow_setCell_below hO7b (a := ⟨y, 1, none⟩) (show y < z + 2 by omega) (.slice A9 e.n4 c9))
      have HL7 := Lib.hid (show ∀ k, (Value.slice A7 e.n4 c7).ownBlock = some k → z + 2 ≤ k ∧ k < z1 from fun k hk => by have := HO72.out.lt k hk; omega)
      clear hO7 hO7b HO72
      generalize w11.setCell ⟨y, 1, none⟩ (.slice A9 e.n4 c9) = wy at *
      have hsy := HSN2.out
      have HO9 := HON2
      have HBx := HYN2
      have HBy := HXN2
      have HWY := Lib.hid (HBW.out.trans (HBN2.out.mono (show q + 1 ≤ z by omega)))
      have hzy2 : z1 ≤ wy.heap.size := by omega
      clear HON2 HYN2 HXN2 HBx2 HBy2 HBZ2 HSN2 HSN1 HBB1 HBB2 HLN1 HLN2 HBN2
      have TBK := Lib.hid (HBB.out.below HWY.out (by omega))
      have TPB := Lib.hid (HPB.out.later (HWY.out.mono (by omega)))
      have TWW := Lib.hid (show BlkW wy g d' p from (HWY.out.block g (by omega)).trans HWW.out)
      have TPW := Lib.hid (HPW.out.later (HWY.out.mono (by omega)))
      have TBL := Lib.hid (show Below g0 w wy from (HBA.out.mono (by omega)).trans (HWY.out.mono (by omega)))
      have TFR := Lib.hid (show ∀ k, F k → wy.heap[k]? = w.heap[k]? from fun k hk => (HWY.out.block k (by have := (HFF.out k hk).1; omega)).trans (HBA.out.block k (HFF.out k hk).1))
      have TRT := Lib.hid (show ∀ x ∈ a.spec.rts, -9223372036854775808 ≤ x ∧ x ≤ 9223372036854775807 from HAR.out.rts.2)
      have kwy : wy.cell? ⟨g, 3, none⟩ = some (.slice d'.A4 d'.n4 d'.c4) := blk_cell TWW.out
      go_upto_region 23 with fail
      have KW1 := Lib.hid (show wy.drew.cell? ⟨g, 3, none⟩ = some (.slice d'.A4 d'.n4 d'.c4) from kwy)
      have hyl : y < wy.heap.size := (Array.getElem?_eq_some_iff.1 HBy.out).1
      have hal := ((Below.refl wy.heap.size wy).drew).alloc (Nat.le_refl _) (.cells #[.int .i64 a.spec.msg, .slice A9 e.n4 c9, .int .i64 a.spec.blk] 43)
      have hs3 : (wy.drew.alloc (.cells #[.int .i64 a.spec.msg, .slice A9 e.n4 c9, .int .i64 a.spec.blk] 43)).heap.size = wy.heap.size + 1 := by simp
      have hnw := heap_alloc_new wy.drew (.cells #[.int .i64 a.spec.msg, .slice A9 e.n4 c9, .int .i64 a.spec.blk] 43)
      have hpw3 := TPW.out.later hal
      obtain ⟨css, hcs, hcl, hc3, hci⟩ := hpw3.snds
      have hin3 := own_later (own_base HO9.out (show base ≤ z1 by omega)) hal
      have hrd : Reads (wy.drew.alloc (.cells #[.int .i64 a.spec.msg, .slice A9 e.n4 c9, .int .i64 a.spec.blk] 43)) (wy.heap.size + 1) 3 (some ⟨wy.heap.size, 0, none⟩) 1 [.int .i64 a.spec.msg, .slice A9 e.n4 c9, .int .i64 a.spec.blk] := ⟨rfl, .inr ⟨_, rfl, by show wy.heap.size < wy.heap.size + 1; omega, fun j hj => by
        rw [add_mk, cell_of_row _ wy.heap.size (0 + j) _ _ (0, 0) hnw]
        simp⟩⟩
      have hg3 := (hal.block g (by omega)).trans TWW.out
      have hx3 := (hal.block x (by omega)).trans HBx.out
      have KD1 := Lib.hid (show (wy.drew.alloc (.cells #[.int .i64 a.spec.msg, .slice A9 e.n4 c9, .int .i64 a.spec.blk] 43)).cell? ⟨g, 3, none⟩ = some (.slice d'.A4 d'.n4 d'.c4) from blk_cell hg3)
      obtain ⟨A8, c8, w14, hrun, hown8, hg8, hA8⟩ := run_app (P := Tryd.prog) TSp (wy.drew.alloc (.cells #[.int .i64 a.spec.msg, .slice A9 e.n4 c9, .int .i64 a.spec.blk] 43)) 28 base _ d'.n4 css.flatten hcs.1 (wy.heap.size + 1) (some ⟨wy.heap.size, 0, none⟩) 1 1 _ hrd (fun u hu => by
        simp only [List.mem_cons, List.not_mem_nil, or_false] at hu
        rcases hu with rfl | rfl | rfl <;> rfl) (by omega) (by omega) (by rw [hs3]; omega)
      have hob : ∀ k, (Value.slice d'.A4 d'.n4 d'.c4).ownBlock = some k → base ≤ k ∧ k < w.heap.size := fun k hk => HLOW.out k (hcs.2 k hk)
      have hqw : w.heap.size = q := HQ.out
      have hpw6 := hpw3.addSnd (s := a.spec) hin3 TRT.out (z := z1) (fun k hk => (HO9.out.lt k hk).1) hcs hcl hc3 hci hg8 hown8 (by rcases hA8 with h | h; exact .inl h; exact .inr h) (by omega) (by omega)
      have hz6 : wy.heap.size + 1 ≤ w14.heap.size := by have := hg8.size; omega
      have hg6 : BlkW w14 g d' p := (hg8.block g (by omega) (by intro h; have := (hob g h.symm).1; omega)).trans hg3
      have hx6 := (hg8.block x (by omega) (by intro h; have := (hob x h.symm).2; omega)).trans hx3
      have KE1 := Lib.hid (show w14.cell? ⟨g, 3, none⟩ = some (.slice d'.A4 d'.n4 d'.c4) from blk_cell hg6)
      have FE1 := Lib.hid (show w14.frozen? ⟨g, 3, none⟩ = false from frozen_of_row _ _ 3 _ _ hg6)
      have hO7a := own_later HO7.out hal
      have hO7b : w14.ownsRow (z + 2) 3 1 (.slice A7 e.n4 c7) e.n4 (iv a.spec.rts) := hO7a.kept hg8 (own_ne hO7a hcs.1 (by decide))
      have HO7b := Lib.hid hO7b
      have HRUN := Lib.hid hrun
      have HAL := Lib.hid hal
      have HG8 := Lib.hid hg8
      have HPW6 := Lib.hid hpw6
      have HG6 := Lib.hid hg6
      have HX6 := Lib.hid hx6
      have HVM := Lib.hid hcs.2
      have HBY2 := Lib.hid (show wy.drew.heap[y]? = _ from HBy.out)
      clear hrun kwy hal hnw hpw3 hcs hcl hc3 hci hin3 hrd hg3 hx3 hown8 hg8 hA8 hpw6 hg6 hx6 hob hO7a hO7b
      refine wp_region_noPanic ?_
      refine wp_region_until (S := fun W => W.cell? ⟨g, 3, none⟩ = some (.slice d'.A4 d'.n4 d'.c4)) 10 (by kernel_rfl) ?_ (fun hHeld => ?_)
      · (try dsimp only)
        exact KW1.out
      refine wpAnyU_takeY (i := 0) (v := ?v1) rfl (by kernel_rfl) (fun _ _ _ h => h) (Or.inl ⟨by rfl, ?y1⟩) (by assumption) ?r1
      case y1 => (intro W; first | (go_simp; done) | (go_simp; with_reducible rfl))
      (try simp only [List.getElem_toArray, List.getElem_cons_zero, Act.put, List.setIfInBounds_toArray, List.set_cons_zero, List.set_cons_succ])
      refine wpAnyU_takeY (i := 1) (v := ?v2) rfl (by kernel_rfl) (fun _ _ _ h => h) (Or.inl ⟨by rfl, ?y2⟩) (by assumption) ?r2
      case y2 => (intro W; first | (go_simp; done) | (go_simp; with_reducible rfl))
      (try simp only [List.getElem_toArray, List.getElem_cons_zero, List.getElem_cons_succ, Act.put, List.setIfInBounds_toArray, List.set_cons_zero, List.set_cons_succ])
      refine wpAnyU_takeY (i := 2) (v := ?v3) rfl (by kernel_rfl) (fun _ _ _ h => h) (Or.inl ⟨by rfl, ?y3⟩) (by assumption) ?r3
      case y3 => (intro W; first | (go_simp; done) | (go_simp; with_reducible rfl))
      (try simp only [List.getElem_toArray, List.getElem_cons_zero, List.getElem_cons_succ, Act.put, List.setIfInBounds_toArray, List.set_cons_zero, List.set_cons_succ])
      refine wpAnyU_takeY (i := 3) (v := ?v4) rfl (by kernel_rfl) (fun _ _ _ h => h) (Or.inl ⟨by rfl, ?y4⟩) (by assumption) ?r4
      case y4 => (intro W; first | (go_simp; done) | (go_simp; with_reducible rfl))
      (try simp only [List.getElem_toArray, List.getElem_cons_zero, List.getElem_cons_succ, Act.put, List.setIfInBounds_toArray, List.set_cons_zero, List.set_cons_succ])
      refine wpAnyU_takeW (i := 4) (v := ?v5) rfl (by kernel_rfl) (fun _ _ _ h => h) (Or.inl ⟨by rfl, ?y5⟩) (by assumption) ?r5
      case y5 => (intro W hSW; (try dsimp only at hSW); first | (go_simp; done) | (go_simp; with_reducible rfl))
      (try simp only [List.getElem_toArray, List.getElem_cons_zero, List.getElem_cons_succ, Act.put, List.setIfInBounds_toArray, List.set_cons_zero, List.set_cons_succ])
      refine wpAnyU_one (i := 5) rfl (by decide) (by kernel_rfl) (by rfl) (fun K' hK' => ?_)
      have HKP := Lib.hid hK'
      clear hK'
      refine op_loadS (.tmp 11) rfl HBY2.out rfl ?_
      refine HKP.out _ _ KW1.out ?_
      clear HKP K'
      (try simp only [List.getElem_toArray, List.getElem_cons_zero, List.getElem_cons_succ, Act.put, List.setIfInBounds_toArray, List.set_cons_zero, List.set_cons_succ])
      refine wpAnyU_one (i := 6) rfl (by decide) (by kernel_rfl) (by rfl) (fun K' hK' => ?_)
      have HKP := Lib.hid hK'
      clear hK'
      refine op_spec1 (.tmp 134) rfl rfl ?_
      refine HKP.out _ _ KD1.out ?_
      clear HKP K'
      (try simp only [List.getElem_toArray, List.getElem_cons_zero, List.getElem_cons_succ, Act.put, List.setIfInBounds_toArray, List.set_cons_zero, List.set_cons_succ])
      refine wpAnyU_one (i := 7) rfl (by decide) (by kernel_rfl) (by rfl) (fun K' hK' => ?_)
      have HKP := Lib.hid hK'
      clear hK'
      refine Lib.wp_append_run _ (.tmp 133) (.tmp 135) 28 28 rfl _ _ rfl rfl _ _ HRUN.out ?_
      refine HKP.out _ _ KE1.out ?_
      clear HKP K'
      (try simp only [List.getElem_toArray, List.getElem_cons_zero, List.getElem_cons_succ, Act.put, List.setIfInBounds_toArray, List.set_cons_zero, List.set_cons_succ])
      have hHeld2 : w14.cell? ⟨g, 3, none⟩ = some (.slice d'.A4 d'.n4 d'.c4) := KE1.out
      refine wpAnyU_takeY (i := 8) (v := ?v51) rfl (by kernel_rfl) (fun _ _ _ h => h) (Or.inl ⟨by rfl, ?y51⟩) (by assumption) ?r51
      case y51 => (intro W; first | (go_simp; done) | (go_simp; with_reducible rfl))
      (try simp only [List.getElem_toArray, List.getElem_cons_zero, List.getElem_cons_succ, Act.put, List.setIfInBounds_toArray, List.set_cons_zero, List.set_cons_succ])
      refine wpAnyU_takeY (i := 9) (v := ?v52) rfl (by kernel_rfl) (fun _ _ _ h => h) (Or.inl ⟨by rfl, ?y52⟩) (by assumption) ?r52
      case y52 => (intro W; first | (go_simp; done) | (go_simp; with_reducible rfl))
      (try simp only [List.getElem_toArray, List.getElem_cons_zero, List.getElem_cons_succ, Act.put, List.setIfInBounds_toArray, List.set_cons_zero, List.set_cons_succ])
      refine wpAnyU_at (c := 10) rfl (by kernel_rfl) (by rfl) (fun K hK => ?_)
      have HK := Lib.hid hK
      clear hK
      have kc := KE1.out
      have fc := FE1.out
      go_simp
      refine HK.out _ _ ?_
      clear HK K
      (try simp only [List.getElem_toArray, List.getElem_cons_zero, List.getElem_cons_succ, Act.put, List.setIfInBounds_toArray, List.set_cons_zero, List.set_cons_succ])
      refine wpAny_done (by kernel_rfl) ?_ _
      refine NoPanic.normal ?_
      clear kc fc hHeld hHeld2
      obtain ⟨wu, hwu⟩ : ∃ wu, wu = w14.setCell ⟨g, 3, none⟩ (.slice A8 (d'.n4 + 1) c8) := ⟨_, rfl⟩
      rw [← hwu]
      have hbase6 : ∀ k, k < wy.heap.size → ¬ Sw k → k ≠ g → wu.heap[k]? = wy.heap[k]? := fun k hk hns hkg => by
        have h1 : wu.heap[k]? = w14.heap[k]? := by rw [hwu]; exact Below.heap_setCell w14 ⟨g, 3, none⟩ _ k hkg
        rw [h1, HG8.out.block k (by omega) (fun h => hns (HVM.out k h.symm))]
        exact HAL.out.block k (by omega)
      have hsW : wu.heap.size = w14.heap.size := by rw [hwu]; simp
      have hnS : ∀ k, k < base → ¬ Sw k := fun k hk h => by have := (TPW.out.lo k h).1; omega
      have hSlo : ∀ k, Sw k → k < q + 1 := fun k hk => by have := (HPW.out.lo k hk).2; omega
      have UBK := Lib.hid (show BlkB wu b d p from (hbase6 b (by omega) (hnS b hlb) hne).trans TBK.out)
      have UPB := Lib.hid (TPB.out.kept (w' := wu) (fun k hk => hbase6 k (by have := (TPB.out.lo k hk).2; omega) (HAP.out k hk) (by have := (TPB.out.lo k hk).1; omega)) (fun _ h => h) fun k hk => ⟨(TPB.out.lo k hk).1, by have := (TPB.out.lo k hk).2; omega⟩)
      have UWW := Lib.hid (show BlkW wu g { d' with A4 := A8, n4 := d'.n4 + 1, c4 := c8 } { p with snds := p.snds ++ [a.spec] } from by rw [hwu]; exact blk_set HG6.out _)
      have UPW := Lib.hid (HPW6.out.kept (w' := wu) (fun k hk => by rw [hwu]; exact Below.heap_setCell w14 ⟨g, 3, none⟩ _ k (show k ≠ g by have := (HPW6.out.lo k hk).1; omega)) (fun _ h => h) fun k hk => ⟨(HPW6.out.lo k hk).1, by have := (HPW6.out.lo k hk).2; omega⟩)
      have UNE := Lib.hid (show ∀ k, Sb k → ¬ (Sw k ∨ (z1 ≤ k ∧ k < w14.heap.size)) from fun k hk h => by
        rcases h with h | h
        · exact HAP.out k hk h
        · have := (HPB.out.lo k hk).2; omega)
      have UNA := Lib.hid (show ∀ k, (Value.slice A7 e.n4 c7).ownBlock = some k → ¬ (Sw k ∨ (z1 ≤ k ∧ k < w14.heap.size)) from fun k hk h => by
        have h7 := HL7.out k hk
        rcases h with h | h
        · have := hSlo k h; omega
        · omega)
      have UNF := Lib.hid (show ∀ k, F k → ¬ (Sw k ∨ (z1 ≤ k ∧ k < w14.heap.size)) from fun k hk h => by
        obtain ⟨f1, f2, f3, f4, f5⟩ := HFF.out k hk
        rcases h with h | h
        · exact f5 h
        · omega)
      have UFR := Lib.hid (show ∀ k, F k → wu.heap[k]? = w.heap[k]? from fun k hk => by
        obtain ⟨f1, f2, f3, f4, f5⟩ := HFF.out k hk
        exact (hbase6 k (by omega) f5 f3).trans (TFR.out k hk))
      have hosW : w14.grownBy wu (some g) := by rw [hwu]; exact grown_setCell w14 g 3 (.slice A8 (d'.n4 + 1) c8)
      have UBL := Lib.hid (show Below g0 w wu from ⟨hosW.os.trans (HG8.out.os.trans (HAL.out.os.trans TBL.out.os)), hosW.tape.trans (HG8.out.tape.trans (HAL.out.tape.trans TBL.out.tape)), hosW.output.trans (HG8.out.output.trans (HAL.out.output.trans TBL.out.output)), by have := TBL.out.size; omega, fun k hk => (hbase6 k (by omega) (hnS k (by omega)) (by omega)).trans (TBL.out.block k hk)⟩)
      have UO7 := Lib.hid (show wu.ownsRow (z + 2) 3 1 (.slice A7 e.n4 c7) e.n4 (iv a.spec.rts) from by rw [hwu]; exact ownsRow_setCell_below HO7b.out (a := ⟨g, 3, none⟩) (show g < z + 2 by omega) _)
      have UBX := Lib.hid (show wu.heap[x]? = some (.cells #[.int .i64 a.spec.msg, .slice A7 e.n4 c7, .int .i64 a.spec.blk] 43 (0, 0)) from by rw [hwu]; exact (Below.heap_setCell w14 ⟨g, 3, none⟩ _ x (show x ≠ g by omega)).trans HX6.out)
      have hzu : z1 ≤ wu.heap.size := by omega
      clear hbase6 hsW hnS hSlo TBK TPB TWW TPW TFR TBL hosW HG8 HAL HPW6 HG6 HX6 HVM KW1 KD1 KE1 FE1 HRUN hs3 hz6 hyl HO7 HO7b HO9 HBx HBy HBY2 hwu hsy hzy2 HWY
      rw [← HP2.out] at UWW UPW
      obtain ⟨SW, DW, VWW, VPW, VNE, VNA, VNF⟩ : ∃ (SW : Nat → Prop) (DW : Pad), Hid (BlkW wu g DW P') ∧ Hid (PO wu base SW DW DW P') ∧ Hid (∀ k, Sb k → ¬ SW k) ∧ Hid (∀ k, (Value.slice A7 e.n4 c7).ownBlock = some k → ¬ SW k) ∧ Hid (∀ k, F k → ¬ SW k) := ⟨_, _, UWW, UPW, UNE, UNA, UNF⟩
      clear UWW UPW UNE UNA UNF
      have TBK := UBK
      have TPB := UPB
      have UWW := VWW
      have UPW := VPW
      have UNE := VNE
      have UNA := VNA
      have UNF := VNF
      have TFR := UFR
      have TBL := UBL
      have HO7 := UO7
      have HBx := UBX
      have hzy2 := hzu
      clear UBK UPB VWW VPW VNE VNA VNF UFR UBL UO7 UBX hzu
      obtain ⟨zu, hzu⟩ : ∃ zu, wu.heap.size = zu := ⟨_, rfl⟩
      have HZU := Lib.hid hzu
      have x0 : wu.cell? ⟨x, 0, none⟩ = some (.int .i64 a.spec.msg) := blk_cell HBx.out
      have x1 : wu.cell? ⟨x, 1, none⟩ = some (.slice A7 e.n4 c7) := blk_cell HBx.out
      have x2 : wu.cell? ⟨x, 2, none⟩ = some (.int .i64 a.spec.blk) := blk_cell HBx.out
      have hri : RI wu wu.heap.size A7 e.n4 a.spec.rts := RI.of_own HO7.out TRT.out
      have HSE := Lib.hid (Send_any b base Sb d t p A7 e.n4 c7 wu.heap.size a.spec wu TBK.out TPB.out hri hlb (by have := TPB.out.lo; omega) (Nat.le_refl _) (by omega) (by omega) (fun r hr => by have := HMI.out r hr; omega))
      rw [HKK.out, HP.out] at HSE
      have hkk : ((k : Int) != (k : Int)) = false := by simp
      have hxs2 : x < wu.heap.size := (Array.getElem?_eq_some_iff.1 HBx.out).1
      clear hri hzu
      go_wp2_with fail
      clear x0 x1 x2
      refine HSE.out.mono ?_
      rintro x' w5 ⟨rfl, S', d2, t2, r1, r2, r3, r4⟩
      have hbx5 := (r4.block x hxs2 (by intro h; injection h with h; omega)).trans HBx.out
      have hown5 : w5.ownsRow (z + 2) 3 1 (.slice A7 e.n4 c7) e.n4 (iv a.spec.rts) := HO7.out.kept r4 (.inr fun h => by have := (HO7.out.lt b h).1; omega)
      have hz5 : wu.heap.size ≤ w5.heap.size := r4.size
      have hlen : a.spec.rts.length = e.n4 := by have := hown5.1; simpa [iv] using this
      have x1 : w5.cell? ⟨x, 1, none⟩ = some (.slice A7 e.n4 c7) := blk_cell hbx5
      have HOW5 := Lib.hid hown5
      have HBX5 := Lib.hid hbx5
      have R1 := Lib.hid r1
      have R2 := Lib.hid r2
      have R3 := Lib.hid (show ∀ k, S' k → Sb k ∨ wu.heap.size ≤ k from r3)
      have R4 := Lib.hid r4
      clear hown5 r1 r2 r3 r4 hbx5 HSE
      go_wp2_with fail
      clear x1
      go_loopw [147, 12] (fun i _ wr => ∃ (j : Nat) (l' : List Int), j ≤ e.n4 ∧ i = .int .i64 (j : Int) ∧ l'.length = e.n4 ∧ wr.ownsRow (z + 2) 3 1 (.slice A7 e.n4 c7) e.n4 (iv l') ∧ w5.grownBy wr (Value.slice A7 e.n4 c7).ownBlock) (fun i _ _ => e.n4 - (intOf i).toNat)
      case atStart => exact ⟨0, a.spec.rts, by omega, rfl, hlen, HOW5.out, World.grownBy.refl _ _⟩
      case round =>
        obtain ⟨j, l', hj, rfl, hl', hown, hgr⟩ := hrel
        have h7 := HL7.out
        have hbxr := (hgr.block x (by omega) (by intro h; have := (h7 x h.symm).1; omega)).trans HBX5.out
        have x1 : wr.cell? ⟨x, 1, none⟩ = some (.slice A7 e.n4 c7) := blk_cell hbxr
        clear h7 hbxr
        by_cases hlt : j < e.n4
        · obtain ⟨gg, rfl⟩ := own_at hown (by omega)
          have hca := own_cellN hown (iv_get2 l' (k := j) (by omega))
          have hfa := own_freeN hown j
          have hset := own_setN hown j (.int .i64 (wrap64 (it l' j + 1)))
          rw [iv_put2 l' j _] at hset
          have HSET := Lib.hid hset
          have HGR := Lib.hid (show w5.grownBy (wr.setCell ⟨gg, j, none⟩ (.int .i64 (wrap64 (it l' j + 1)))) (some gg) from (show w5.grownBy wr (some gg) from hgr).trans (grown_setCell wr gg j _))
          have HL' := Lib.hid (show (l'.set j (wrap64 (it l' j + 1))).length = e.n4 by rw [List.length_set]; exact hl')
          clear hset hgr hown hl'
          generalize l'.set j (wrap64 (it l' j + 1)) = l2 at *
          generalize it l' j = ia at *
          go_wp2_with fail
          exact ⟨⟨j + 1, l2, by omega, by go_num, HL'.out, HSET.out, HGR.out⟩, by simp [intOf]; omega⟩
        · obtain rfl : j = e.n4 := by omega
          clear hj
          have HG4 := Lib.hid hgr
          clear hgr hown hl' l'
          go_wp2_with fail
          go_ret
          have hg4 := HG4.out
          have hy4 := hg4.size
          have hgl := HL7.out
          have hzz4 := HZU.out
          have hold : ∀ k, k < wu.heap.size → (Value.slice A7 e.n4 c7).ownBlock ≠ some k → k ≠ b → wr.heap[k]? = wu.heap[k]? := fun k hk hn hkb =>
            (hg4.block k (by omega) (fun h => hn h.symm)).trans (R4.out.block k hk (by intro h; injection h with h; exact hkb h))
          have h7b : ∀ k, k < z + 2 → (Value.slice A7 e.n4 c7).ownBlock ≠ some k := fun k hk h => by have := (hgl k h).1; omega
          refine ⟨rfl, ⟨⟨S', SW, d2, t2, DW, ?_, ?_, ?_, ?_, ?_, ?_⟩, hlb, hlg, hne, by omega⟩, ?_, ?_⟩
          · exact (hg4.block b (by omega) (by intro h; have := (hgl b h.symm).1; omega)).trans R1.out
          · refine R2.out.kept (fun k hk => hg4.block k (R2.out.lo k hk).2 ?_) (fun _ h => h) fun k hk => ⟨(R2.out.lo k hk).1, by have := (R2.out.lo k hk).2; omega⟩
            intro h
            have h2 := hgl k h.symm
            rcases R3.out k hk with h3 | h3
            · have := (HPB.out.lo k h3).2; omega
            · omega
          · exact (hold g (by omega) (h7b g (by omega)) (fun h => hne h.symm)).trans UWW.out
          · exact UPW.out.kept (fun k hk => hold k (UPW.out.lo k hk).2 (fun h => UNA.out k h hk) (by have := (UPW.out.lo k hk).1; omega)) (fun _ h => h) fun k hk => ⟨(UPW.out.lo k hk).1, by have := (UPW.out.lo k hk).2; omega⟩
          · intro k hk hk2
            rcases R3.out k hk with h1 | h1
            · exact UNE.out k h1 hk2
            · have := (UPW.out.lo k hk2).2; omega
          · intro k hk
            obtain ⟨f1, f2, f3, f4, f5⟩ := HFF.out k hk
            refine ⟨by omega, f2, f3, fun h => ?_, UNF.out k hk⟩
            rcases R3.out k h with h3 | h3
            · exact f4 h3
            · omega
          · exact ⟨hg4.os.trans (R4.out.os.trans TBL.out.os), hg4.tape.trans (R4.out.tape.trans TBL.out.tape), hg4.output.trans (R4.out.output.trans TBL.out.output), by have := TBL.out.size; omega, fun k hk => (hold k (by omega) (h7b k (by omega)) (by omega)).trans (TBL.out.block k hk)⟩
          · intro k hk
            obtain ⟨f1, f2, f3, f4, f5⟩ := HFF.out k hk
            exact (hold k (by omega) (h7b k (by omega)) f2).trans (TFR.out k hk)
end Go.Proofs.YtkmcjjoicpgjfaaDoor
namespace Go.Proofs.YtkmcjjoicpgjfaaDoor
open Go Go.RowKit Go.Sh

/-- what the program is behind names -/
def namP (p : Prg) (a : Ac) : Prg :=
  if a.kind = 4 then rtsP p a.stops
  else if a.kind = 5 then sndP p a.spec
  else p
theorem names_any (b g base g0 B : Nat) (F : Nat → Prop) (p : Prg) (e : Apd) (a : Ac) (w : World) (hs : LS w b g base F p) (ha : AR w B e a) (hB : B ≤ g0) (hb : g0 ≤ b) (hg : g0 ≤ g) (hn : p.code.length ≤ 1048576) (hm : p.rts.length ≤ 1048576) (hmi : ∀ x ∈ p.rts, x.length ≤ 1048576) (hsn : p.snds.length ≤ 1048576) (hsi : ∀ x ∈ p.snds, x.rts.length ≤ 1048576) :
    Calls Tryd.prog 12 #[.pointer (some ⟨b, 0, none⟩), .pointer (some ⟨g, 0, none⟩), .agg (acs e a)] w fun x w' => x = .returned (.bool true) ∧ LS w' b g base F (namP p a) ∧ Stay F g0 w w' := by
  by_cases h4 : a.kind = 4
  · rw [show namP p a = rtsP p a.stops by rw [namP, if_pos h4]]
    exact names4_any b g base g0 B F p e a w hs ha h4 hm hmi hB hb hg
  · by_cases h5 : a.kind = 5
    · rw [show namP p a = sndP p a.spec by rw [namP, if_neg h4, if_pos h5]]
      exact names5_any b g base g0 B F p e a w hs ha h5 hsn hsi hB hb hg
    · rw [show namP p a = p by rw [namP, if_neg h4, if_neg h5]]
      exact names0_any b g base g0 B F p e a w hs ha h4 h5 hB hb hg hn
/-- the sizes of the program behind n calls whose slices have at most 1048576 elements, s instructions among them -/
structure Sm (p : Prg) (n s : Nat) : Prop where
  code : p.code.length ≤ s
  msgs : p.msgs.length ≤ n
  rts : p.rts.length ≤ n
  snds : p.snds.length ≤ n
  mi : ∀ x ∈ p.msgs, x.length ≤ 1048576
  ri : ∀ x ∈ p.rts, x.length ≤ 1048576
  si : ∀ x ∈ p.snds, x.rts.length ≤ 1048576
theorem Sm.put {p : Prg} {n s : Nat} (h : Sm p n s) (a : Ac) (ht : a.text.length ≤ 1048576) : Sm (putP p a) (n + (if a.kind = 3 then 1 else 0)) (s + a.code.length) := by
  unfold putP
  by_cases h1 : a.kind = 1
  · rw [if_pos h1]
    exact ⟨by show (p.code ++ a.code).length ≤ _; rw [List.length_append]; have := h.code; omega, by have := h.msgs; show p.msgs.length ≤ _; omega, by have := h.rts; show p.rts.length ≤ _; omega, by have := h.snds; show p.snds.length ≤ _; omega, h.mi, h.ri, h.si⟩
  · rw [if_neg h1]
    by_cases h2 : a.kind = 2
    · rw [if_pos h2]
      split
      · exact ⟨by show (p.code.set _ _).length ≤ _; rw [List.length_set]; have := h.code; omega, by have := h.msgs; show p.msgs.length ≤ _; omega, by have := h.rts; show p.rts.length ≤ _; omega, by have := h.snds; show p.snds.length ≤ _; omega, h.mi, h.ri, h.si⟩
      · exact ⟨by have := h.code; omega, by have := h.msgs; omega, by have := h.rts; omega, by have := h.snds; omega, h.mi, h.ri, h.si⟩
    · rw [if_neg h2]
      by_cases h3 : a.kind = 3
      · rw [if_pos h3, if_pos h3, msgP]
        split
        · exact ⟨by have := h.code; omega, by have := h.msgs; omega, by have := h.rts; omega, by have := h.snds; omega, h.mi, h.ri, h.si⟩
        · refine ⟨by have := h.code; show p.code.length ≤ _; omega, ?_, by have := h.rts; show p.rts.length ≤ _; omega, by have := h.snds; show p.snds.length ≤ _; omega, ?_, h.ri, h.si⟩
          · show (p.msgs ++ [a.text]).length ≤ _
            rw [List.length_append]; have := h.msgs; simp; omega
          · intro x hx
            rcases List.mem_append.1 hx with hx | hx
            · exact h.mi x hx
            · obtain rfl := List.mem_singleton.1 hx; exact ht
      · rw [if_neg h3, if_neg h3]
        exact ⟨by have := h.code; omega, by have := h.msgs; omega, by have := h.rts; omega, by have := h.snds; omega, h.mi, h.ri, h.si⟩
theorem Sm.nam {p : Prg} {n s : Nat} (h : Sm p n s) (a : Ac) (ht : a.stops.length ≤ 1048576) (hr : a.spec.rts.length ≤ 1048576) : Sm (namP p a) (n + 1) s := by
  unfold namP
  split
  · rw [rtsP]
    split
    · exact ⟨h.code, by have := h.msgs; omega, by have := h.rts; omega, by have := h.snds; omega, h.mi, h.ri, h.si⟩
    · refine ⟨h.code, by have := h.msgs; show p.msgs.length ≤ _; omega, ?_, by have := h.snds; show p.snds.length ≤ _; omega, h.mi, ?_, h.si⟩
      · show (p.rts ++ [a.stops]).length ≤ _
        rw [List.length_append]; have := h.rts; simp; omega
      · intro x hx
        rcases List.mem_append.1 hx with hx | hx
        · exact h.ri x hx
        · obtain rfl := List.mem_singleton.1 hx; exact ht
  · split
    · rw [sndP]
      split
      · exact ⟨h.code, by have := h.msgs; omega, by have := h.rts; omega, by have := h.snds; omega, h.mi, h.ri, h.si⟩
      · refine ⟨h.code, by have := h.msgs; show p.msgs.length ≤ _; omega, by have := h.rts; show p.rts.length ≤ _; omega, ?_, h.mi, h.ri, ?_⟩
        · show (p.snds ++ [a.spec]).length ≤ _
          rw [List.length_append]; have := h.snds; simp; omega
        · intro x hx
          rcases List.mem_append.1 hx with hx | hx
          · exact h.si x hx
          · obtain rfl := List.mem_singleton.1 hx; exact hr
    · exact ⟨h.code, by have := h.msgs; omega, by have := h.rts; omega, by have := h.snds; omega, h.mi, h.ri, h.si⟩
theorem Sm.step {p : Prg} {n s : Nat} (h : Sm p n s) (a : Ac) (ht : a.text.length ≤ 1048576) (hs : a.stops.length ≤ 1048576) (hr : a.spec.rts.length ≤ 1048576) : Sm (namP (putP p a) a) (n + 1) (s + a.code.length) := by
  by_cases h3 : a.kind = 3
  · have h1 := h.put a ht
    rw [if_pos h3] at h1
    rw [show namP (putP p a) a = putP p a by rw [namP, if_neg (by omega), if_neg (by omega)]]
    exact h1
  · have h1 := h.put a ht
    rw [if_neg h3, Nat.add_zero] at h1
    exact h1.nam a hs hr
end Go.Proofs.YtkmcjjoicpgjfaaDoor
