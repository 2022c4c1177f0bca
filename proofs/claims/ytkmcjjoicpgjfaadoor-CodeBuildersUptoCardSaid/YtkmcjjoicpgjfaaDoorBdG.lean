/-
  Contracts of code's Builder: Route. Conditions: the sizes that slices can have.
-/
import Derived.Test.YtkmcjjoicpgjfaaDoorBdF
namespace Go.Proofs.YtkmcjjoicpgjfaaDoor
open Go Go.RowKit Go.Sh

def eqSp (a b : Sp) : Bool := decide (a.nm = b.nm) && (decide (a.dl = b.dl) && decide (a.fl = b.fl))
theorem eqSp_iff (a b : Sp) : eqSp a b = true ↔ a = b := by
  obtain ⟨n, d, f⟩ := a
  obtain ⟨n', d', f'⟩ := b
  simp [eqSp]
/-- the same stops -/
def eqSps : List Sp → List Sp → Bool
  | [], [] => true
  | a :: l, b :: r => eqSp a b && eqSps l r
  | _, _ => false
theorem eqSps_iff : ∀ l r : List Sp, eqSps l r = true ↔ l = r
  | [], [] => by simp [eqSps]
  | [], b :: r => by simp [eqSps]
  | a :: l, [] => by simp [eqSps]
  | a :: l, b :: r => by
    rw [eqSps, Bool.and_eq_true, eqSp_iff, eqSps_iff l r, List.cons.injEq]
/-- what the builder's program is behind Route -/
def rtsP (p : Prg) (l : List Sp) : Prg := if fnd (fun x => eqSps x l) p.rts < p.rts.length then p else { p with rts := p.rts ++ [l] }
theorem rat_of {ls : List (List Sp)} {k : Nat} {x : List Sp} (h : ls[k]? = some x) : rat ls k = x := by
  rw [rat, List.getD_eq_getElem?_getD, h]
  rfl
set_option maxHeartbeats 2000000 in
set_option maxRecDepth 100000 in
theorem Route_any (b base : Nat) (S : Nat → Prop) (d t : Pad) (p : Prg) (A2 : Option Addr) (m c2 B : Nat) (l : List Sp) (w : World) (hb : BlkB w b d p) (ho : PO w base S d t p) (hl : RR w B 3 A2 m (l.map Sp.cells)) (hlt : b < base) (hbs : base ≤ w.heap.size) (hB : B ≤ w.heap.size) (hn : (d.n3 + 1) * 24 ≤ 140737488355328) (hm : m * 32 ≤ 140737488355328) (hrs : ∀ r ∈ p.rts, r.length ≤ 140737488355328) :
    Calls Tryd.prog 37 #[.pointer (some ⟨b, 0, none⟩), .slice A2 m c2] w fun e w' => e = .returned (.int .i64 ((fnd (fun x => eqSps x l) p.rts : Nat) : Int)) ∧ BdPost w b base S (rtsP p l) w' := by
  have hc1 : w.cell? ⟨b, 2, none⟩ = some (.slice d.A3 d.n3 d.c3) := hb.cell 2
  have HBK := Lib.hid hb
  have HPO := Lib.hid ho
  have HL := Lib.hid hl
  have HM := Lib.hid ho.rrt
  have HML := Lib.hid (show l.length = m by have := hl.len; rwa [List.length_map] at this)
  have HLM := Lib.hid ho.lr
  obtain ⟨K, hK⟩ : ∃ K, fnd (fun x => eqSps x l) p.rts = K := ⟨_, rfl⟩
  obtain ⟨P', hP⟩ : ∃ P', rtsP p l = P' := ⟨_, rfl⟩
  rw [hK, hP]
  have HK := Lib.hid hK
  have HP := Lib.hid hP
  clear hb ho hl hK hP
  go_enter Tryd.func37, Tryd.ntmps37
  go_wp2_with fail
  have HRS := Lib.hid hrs
  clear hrs
  go_loopw [13, 5, 6] (fun i _ _ wr => ∃ k dd : Nat, k ≤ d.n3 ∧ i = .int .i64 (k : Int) ∧ wr = w.drewN dd ∧ ∀ j, j < k → eqSps (rat p.rts j) l = false) (fun i _ _ _ => d.n3 - (intOf i).toNat)
  case atStart => exact ⟨0, 0, by omega, rfl, rfl, fun j hj => absurd hj (by omega)⟩
  case round =>
    obtain ⟨k, dd, hk, rfl, rfl, hno⟩ := hrel
    have HNO := Lib.hid hno
    clear hno
    by_cases hlk : k < d.n3
    · obtain ⟨ad, Ai, ni, ci, hAd, hab, hc, hle, hrr⟩ := HM.out.at_ hlk
      have hni : ni ≤ 140737488355328 := by
        have := HRS.out (rat p.rts k) (rat_mem (by rw [HLM.out]; exact hlk))
        have h2 := hrr.len
        rw [List.length_map] at h2
        omega
      obtain ⟨R, hR⟩ : ∃ R, eqSps (rat p.rts k) l = R := ⟨_, rfl⟩
      have HE := Lib.hid (SlEqStop_any Ai A2 ni m ci c2 (rat p.rts k) l (w.drewN dd) _ _ (show RR (w.drewN dd) _ 3 _ _ _ from hrr) (show RR (w.drewN dd) _ 3 _ _ _ from HL.out) hni (by omega) R (by rw [← hR]; exact eqSps_iff _ _))
      have HG := Lib.hid (rat_eq (l := p.rts) (k := k) (by rw [HLM.out]; exact hlk))
      have HQ := Lib.hid hR
      have hsl : (.slice d.A3 d.n3 d.c3 : Value) = .slice (some ad) d.n3 d.c3 := by rw [hAd]
      rw [hsl]
      clear hrr hle hR hni
      cases R with
      | true =>
        go_wp2_with fail
        refine HE.out.mono ?_
        rintro e w1 ⟨rfl, d1, rfl⟩
        go_wp2_with fail
        go_ret
        have hkk : K = k := by rw [← HK.out]; exact fnd_at _ _ k _ HG.out HQ.out fun j y hj hy => by rw [← rat_of hy]; exact HNO.out j hj
        have hpp : P' = p := by rw [← HP.out, rtsP, HK.out, hkk, if_pos (by rw [HLM.out]; exact hlk)]
        rw [hkk, hpp]
        exact ⟨rfl, S, d, t, HBK.out, HPO.out.kept (fun _ _ => rfl) (fun _ h => h) HPO.out.lo, fun _ h => .inl h, ⟨rfl, rfl, rfl, Nat.le_refl _, fun _ _ _ => rfl⟩⟩
      | false =>
        go_wp2_with fail
        refine HE.out.mono ?_
        rintro e w1 ⟨rfl, d1, rfl⟩
        go_wp2_with fail
        exact ⟨⟨k + 1, dd + d1, by omega, by go_num, by first | rfl | simp, fun j hj => by
          by_cases e : j = k
          · rw [e]; exact HQ.out
          · exact HNO.out j (by omega)⟩, by simp [intOf]; omega⟩
    · obtain rfl : k = d.n3 := by omega
      have HUN := Lib.hid (show ∀ p' w', BdPost (w.drewN dd) b base S p' w' → BdPost w b base S p' w' from fun p' w' h => by
        obtain ⟨S', d', t', h1, h2, h3, h4⟩ := h
        exact ⟨S', d', t', h1, h2, h3, h4.os, h4.tape, h4.output, h4.size, h4.block⟩)
      have HPO' := Lib.hid (HPO.out.kept (w' := w.drewN dd) (fun _ _ => rfl) (fun _ h => h) HPO.out.lo)
      have HBK' := Lib.hid (show BlkB (w.drewN dd) b d p from HBK.out)
      have HL' := Lib.hid (show RR (w.drewN dd) B 3 A2 m (l.map Sp.cells) from HL.out)
      have HM' := Lib.hid (show RRt (w.drewN dd) w.heap.size d.A3 d.n3 p.rts from HM.out)
      have hbs' : base ≤ (w.drewN dd).heap.size := hbs
      have hB' : B ≤ (w.drewN dd).heap.size := hB
      have hc1' : (w.drewN dd).cell? ⟨b, 2, none⟩ = some (.slice d.A3 d.n3 d.c3) := hc1
      clear HPO HBK HL HM hbs hB hc1
      generalize w.drewN dd = wr at *
      have HPO := HPO'
      have HBK := HBK'
      have HL := HL'
      have hbs := hbs'
      have hB := hB'
      have hc1 := hc1'
      clear HPO' HBK' HL' HM' hbs' hB' hc1'
      have hkk : K = d.n3 := by rw [← HK.out, ← HLM.out]; exact fnd_none _ _ fun j y hy => by rw [← rat_of hy]; exact HNO.out j (by rw [← HLM.out]; exact (List.getElem?_eq_some_iff.1 hy).1)
      have hpp : P' = { p with rts := p.rts ++ [l] } := by rw [← HP.out, rtsP, HK.out, hkk, if_neg (by rw [HLM.out]; omega)]
      have HKK := Lib.hid hkk
      have HPP := Lib.hid hpp
      have HCL := Lib.hid (ClipSS_any d.A3 d.n3 d.c3 wr HPO.out.k3)
      have HCN := Lib.hid (CloneSt_any A2 m c2 (spv l) wr B (RR.reads HL.out (by decide)) (spv_one l) hB (by omega))
      clear HNO HK HP hkk hpp
      go_wp2_with fail
      refine HCL.out.mono ?_
      rintro e w0 ⟨rfl, rfl⟩
      go_wp2_with fail
      refine HCN.out.mono ?_
      rintro e w1 ⟨A3, c3, rfl, hown1, hb1⟩
      clear hc1
      obtain ⟨vm, hvm, him⟩ := HPO.out.rts
      have HB1 := Lib.hid hb1
      have HO1 := Lib.hid hown1
      have HIM := Lib.hid him
      have hvm1 := own_later hvm.1 hb1
      have hlit := Reads.lit w1 40 [.slice A3 m c3] 1 1 rfl w1.heap.size rfl
      have hba := (Below.refl w1.heap.size w1).alloc (Nat.le_refl _) (.cells #[.slice A3 m c3] 40)
      have HVM := Lib.hid (own_later hvm1 hba)
      have HLT := Lib.hid hlit
      have HBA := Lib.hid hba
      have HVS := Lib.hid hvm.2
      have hsz1 := hb1.size
      have hsza : (w1.alloc (.cells #[.slice A3 m c3] 40)).heap.size = w1.heap.size + 1 := by simp
      clear hb1 hown1 him hvm hvm1 hlit hba HCL HCN
      go_wp2_with (at_builtin; refine wl_appF TSS rfl (.tmp 29) (.tmp 32) rfl d.A3 d.n3 rfl (some ⟨w1.heap.size, 0, none⟩) 1 1 rfl base t.c3 vm HVM.out (w1.heap.size + 1) [.slice A3 m c3] HLT.out hn (by omega) (by omega) ?_)
      intro A' c' c'' w3 hown3 hb3 hc' hA'
      have hbw : Below wr.heap.size wr w3 := HB1.out.trans ((HBA.out.trans (hb3.mono (by omega))).mono hsz1)
      have hbk3 := HBK.out.below hbw HBK.out.lt
      have hc3 : w3.cell? ⟨b, 2, none⟩ = some (.slice d.A3 d.n3 d.c3) := hbk3.cell 2
      have hf3 := hbk3.free 2
      have hbk4 := hbk3.rts A' (d.n3 + 1) c' (p.rts ++ [l])
      have HC4 := Lib.hid (show (w3.setCell ⟨b, 2, none⟩ (.slice A' (d.n3 + 1) c')).cell? ⟨b, 2, none⟩ = some (.slice A' (d.n3 + 1) c') from hbk4.cell 2)
      have HBK4 := Lib.hid hbk4
      have HG4 := Lib.hid (grown_below (b := b) hbw 2 (.slice A' (d.n3 + 1) c'))
      have HPO4 := Lib.hid (HPO.out.stored hbw hlt hbs 2 (.slice A' (d.n3 + 1) c'))
      have hin3 : w3.ownsRow wr.heap.size 66 3 (.slice A3 m c3) m (spv l) := own_later (own_later HO1.out HBA.out) (by rw [hsza]; exact hb3)
      have HIN := Lib.hid hin3
      have HOW := Lib.hid hown3
      have HA := Lib.hid hA'
      have hz3 := hbw.size
      have HSZ := Lib.hid (show (w3.setCell ⟨b, 2, none⟩ (.slice A' (d.n3 + 1) c')).heap.size = w3.heap.size by simp)
      have hwr : IntKind.i64.wrap (((d.n3 + 1 : Nat) : Int) - 1) = (d.n3 : Int) := by rw [IntKind.wrap_i64]; omega
      clear hbw hbk3 hbk4 hin3 hown3 hb3 hA' HB1 HBA HO1 HVM HLT HL HBK
      go_upto_region 8 with fail
      clear hc3 hf3
      generalize hw4 : w3.setCell ⟨b, 2, none⟩ (.slice A' (d.n3 + 1) c') = w4 at *
      have HW4 := Lib.hid hw4
      clear hw4
      have hc4 := HC4.out
      go_wp2_with fail
      go_ret
      rw [HKK.out, HPP.out]
      refine ⟨rfl, HUN.out _ _ ⟨Since S wr w3, { d with A3 := A', n3 := d.n3 + 1, c3 := c' }, { t with c3 := c'' }, HBK4.out, ?_, fun j hj => hj.imp id (·.1), HG4.out⟩⟩
      have hp := HPO4.out
      refine { hp with lr := ?_, rts := ⟨vm ++ [.slice A3 m c3], ⟨?_, fun j hj => ?_⟩, fun i hi => ?_⟩, k3 := hc' }
      · show (p.rts ++ [l]).length = d.n3 + 1
        rw [List.length_append, HLM.out]; rfl
      · rw [← HW4.out]
        exact ownsRow_setCell_below HOW.out (show b < base from hlt) _
      · rcases HA.out with rfl | rfl
        · exact .inl (HVS.out j ((ob_any _ _ _ _ _).trans hj))
        · have := (HOW.out.lt j hj).2
          injection hj with hj
          have hj : w1.heap.size + 1 = j := hj
          exact .inr ⟨by omega, this⟩
      · have hvl : vm.length = d.n3 := by have := HOW.out.1; rw [List.length_append] at this; simp at this; omega
        by_cases e : i < d.n3
        · obtain ⟨Ai, ni, ci, h1, h2, h3⟩ := HIM.out i e
          have e1 : rat (p.rts ++ [l]) i = rat p.rts i := by simp [rat, List.getElem?_append_left (show i < p.rts.length by rw [HLM.out]; exact e)]
          refine ⟨Ai, ni, ci, by rw [List.getElem?_append_left (by omega)]; exact h1, ?_⟩
          rw [show rat ({ p with rts := p.rts ++ [l] } : Prg).rts i = rat p.rts i from e1]
          exact ⟨h2.since HG4.out hlt, h3⟩
        · have hie : i = d.n3 := by have : i < d.n3 + 1 := hi; omega
          subst hie
          refine ⟨A3, m, c3, by rw [List.getElem?_append_right (by omega), hvl, Nat.sub_self]; rfl, ⟨?_, fun j hj => ?_⟩, ?_⟩
          · have e1 : rat (p.rts ++ [l]) d.n3 = l := by simp [rat, ← HLM.out]
            rw [show rat ({ p with rts := p.rts ++ [l] } : Prg).rts d.n3 = l from e1, ← HW4.out]
            exact ownsRow_setCell_below (own_base HIN.out hbs) (show b < base from hlt) _
          · have := HIN.out.lt j hj
            exact .inr ⟨this.1, this.2⟩
          · have e1 : rat (p.rts ++ [l]) d.n3 = l := by simp [rat, ← HLM.out]
            rw [show rat ({ p with rts := p.rts ++ [l] } : Prg).rts d.n3 = l from e1]
            exact HML.out
end Go.Proofs.YtkmcjjoicpgjfaaDoor
