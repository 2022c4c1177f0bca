/-
  Contracts of field.Square, field.Sum and field.Product at two numbers. Conditions: the numbers fit.
-/
import Derived.Test.YtgpjidlomhkpeaaFeD
namespace Go.Proofs.Ytgpjidlomhkpeaa
open Go Go.RowKit Go.Sh

/-- a number that fits four words -/
def F4 (v : Nat) : Prop := v < 115792089237316195423570985008687907853269984665640564039457584007913129639936
theorem F4.mod (v : Nat) : F4 (v % pF) := by
  have : v % pF < pF := Nat.mod_lt _ (by rw [pF_is]; decide)
  unfold F4; rw [pF_is] at this ⊢; omega
set_option maxRecDepth 100000 in
/-- field.Square -/
theorem Square_any (u : Nat) (hu : F4 u) (w : World) : Calls Try.prog 22 #[el u] w fun e w' => e = .returned (el (u * u % pF)) ∧ Below w.heap.size w w' := by
  have HM := Lib.hid (multiply_any u u hu hu)
  rw [el_is u] at HM ⊢
  obtain ⟨hs2, hx2, hz2, hb2⟩ := newTwo w (.cells (elc u) 33) (.cells #[.int .u64 0, .int .u64 0, .int .u64 0, .int .u64 0] 33)
  have HX := Lib.hid (show Blk4 _ w.heap.size (elc u) from ⟨rfl, hx2⟩)
  have HZ := Lib.hid (show Blk4 _ (w.heap.size + 1) _ from ⟨rfl, hz2⟩)
  have HB := Lib.hid hb2
  have hxs := elc_size u
  have hxe : ¬ elc u = #[] := by intro h; rw [h] at hxs; cases hxs
  clear hx2 hz2 hb2
  obtain ⟨F, hF⟩ : ∃ F, u * u % pF = F := ⟨_, rfl⟩
  rw [hF] at HM ⊢
  clear hF
  generalize elc u = xc at *
  go_enter Try.func22, Try.ntmps22
  go_wp2_with (refine wl_load4 _ HX.out (by rfl) (by rfl) (by rfl) ?_)
  generalize (w.alloc (.cells xc 33)).alloc (.cells #[.int .u64 0, .int .u64 0, .int .u64 0, .int .u64 0] 33) = w2 at *
  refine (HM.out w2).mono ?_
  rintro e w3 ⟨rfl, hb3⟩
  rw [hs2] at hb3
  have HZ3 := Lib.hid (HZ.out.below hb3 (by omega))
  have HB3 := Lib.hid (HB.out.trans (hb3.mono (by omega)))
  have hY := elc_size F
  have hO := elc_one F
  have HE := Lib.hid (el_is F)
  rw [el_is F]
  clear hb3
  generalize elc F = Y at *
  have HRS := Lib.hid ((HZ3.out.set (Y := Y) hY).load)
  have HBS := Lib.hid (below_setRow HB3.out (Nat.le_succ w.heap.size) Y)
  go_wp2_with (refine wl_store4 (.tmp 2) (.tmp 5) HZ3.out (by rfl) (by rfl) (by rfl) (Y := Y) (by rfl) hY hO ?_)
  (try simp only [Exit.inBlock, Exit.then])
  refine bodyPost_ret (v := .agg Y) (results_cellU rfl _ _ _ ⟨w.heap.size + 1, 0, none⟩ _ rfl HRS.out) rfl ?_
  exact ⟨by rw [HE.out], HBS.out⟩
/-- two elements one behind the other -/
def PairE (w : World) (q a b : Nat) : Prop := w.heap[q]? = some (.cells (elc a ++ elc b) 33 (0, 0))
set_option maxRecDepth 100000 in
theorem PairE.r0 {w : World} {q a b : Nat} (h : PairE w q a b) : w.rangeAt q 0 (elc a).toList := fun j v hv => by
  rw [blk_cell h]
  have hj : j < 4 := by have := (List.getElem?_eq_some_iff.1 hv).1; simpa [elc_size] using this
  rw [Nat.zero_add, Array.getElem?_append_left (by rw [elc_size]; exact hj)]
  simpa using hv
set_option maxRecDepth 100000 in
theorem PairE.r4 {w : World} {q a b : Nat} (h : PairE w q a b) : w.rangeAt q 4 (elc b).toList := fun j v hv => by
  rw [blk_cell h]
  rw [Array.getElem?_append_right (by rw [elc_size]; omega), elc_size, Nat.add_sub_cancel_left]
  simpa using hv
theorem wl_loadR (x : Operand) {p o : Nat} {X : Array Value} {w : World} (h : w.rangeAt p o X.toList) (hX : X.size = 4) {ops : Array Oper} {rest : List Oper} {op : Oper} {a : Act} {Q : Exit → Act → World → Prop} (hw : Region.wanted op (yielded ops a.tmps) = true) (ho : op.op = .load 33 x)
    (hx : a.eval x = .pointer (some ⟨p, o, none⟩)) (hk : wpList Try.prog ops Q rest (a.put op.dst (.agg X)) w) : wpList Try.prog ops Q (op :: rest) a w := by
  obtain ⟨l⟩ := X
  exact wl_load_mid hw _ x ho p o hx l _ h Try.underlying33 rfl (by rw [show l.length = 4 from hX]; exact info4) hk
set_option maxHeartbeats 4000000 in
set_option maxRecDepth 100000 in
/-- field.Product of two -/
theorem Product_any (q a b : Nat) (ha : F4 a) (hb : F4 b) (w : World) (hq : PairE w q a b) :
    Calls Try.prog 23 #[.slice (some ⟨q, 0, none⟩) 2 2] w fun e w' => e = .returned (el (a % pF * b % pF)) ∧ Below w.heap.size w w' := by
  have hqs : q < w.heap.size := (Array.getElem?_eq_some_iff.1 hq).1
  have HQ := Lib.hid hq
  have HNM := Lib.hid (Norm_any a ha)
  have HMU := Lib.hid (multiply_any (a % pF) b (F4.mod a) hb)
  rw [el_is a] at HNM
  rw [el_is b] at HMU
  have hba := (Below.refl w.heap.size w).alloc (Nat.le_refl _) (.cells #[.int .u64 0, .int .u64 0, .int .u64 0, .int .u64 0] 33)
  have hs1 : (w.alloc (.cells #[.int .u64 0, .int .u64 0, .int .u64 0, .int .u64 0] 33)).heap.size = w.heap.size + 1 := by simp
  have HZ := Lib.hid (Blk4.new w (X := #[.int .u64 0, .int .u64 0, .int .u64 0, .int .u64 0]) rfl)
  have HQ1 := Lib.hid (show PairE _ q a b from (hba.block q hqs).trans hq)
  have HB := Lib.hid hba
  clear hba hq
  go_enter Try.func23, Try.ntmps23
  go_wp2_with (refine wl_loadR (.tmp 11) HQ1.out.r0 (elc_size a) (by rfl) (by rfl) (by rfl) ?_)
  generalize w.alloc (.cells #[.int .u64 0, .int .u64 0, .int .u64 0, .int .u64 0] 33) = w1 at *
  refine (HNM.out w1).mono ?_
  rintro e w2 ⟨rfl, hb2⟩
  rw [hs1] at hb2
  have hs2 := hb2.size
  have HZ2 := Lib.hid (HZ.out.below hb2 (by omega))
  have HQ2 := Lib.hid (show PairE _ q a b from (hb2.block q (by omega)).trans HQ1.out)
  have HB2 := Lib.hid (HB.out.trans (hb2.mono (by omega)))
  obtain ⟨c, hc⟩ : ∃ c, a % pF = c := ⟨_, rfl⟩
  rw [hc] at HMU ⊢
  have HCC := Lib.hid hc
  obtain ⟨m, hm⟩ : ∃ m, c * b % pF = m := ⟨_, rfl⟩
  rw [hm] at HMU
  have HMM := Lib.hid hm
  have hba := (Below.refl w2.heap.size w2).alloc (Nat.le_refl _) (.cells #[.int .u64 0, .int .u64 0, .int .u64 0, .int .u64 0] 33)
  have HT := Lib.hid (Blk4.new w2 (X := #[.int .u64 0, .int .u64 0, .int .u64 0, .int .u64 0]) rfl)
  have hcs := elc_size c
  have hco := elc_one c
  have HT3 := Lib.hid (HT.out.set (Y := elc c) hcs)
  have HZ3 := Lib.hid ((HZ2.out.below hba (by omega)).far (show w.heap.size ≠ w2.heap.size by omega) (elc c))
  have HQ3 := Lib.hid (show PairE ((w2.alloc (.cells #[.int .u64 0, .int .u64 0, .int .u64 0, .int .u64 0] 33)).setRow w2.heap.size (elc c)) q a b from (setRow_other _ _ _ _ (show q ≠ w2.heap.size by omega)).trans ((hba.block q (by omega)).trans HQ2.out))
  have HB3 := Lib.hid (below_setRow (HB2.out.trans (hba.mono (by omega))) (show w.heap.size ≤ w2.heap.size by omega) (elc c))
  rw [el_is c]
  clear hb2 hba hc hm HQ1 HZ HB HQ HQ2 HZ2 HB2
  have hce : ¬ elc c = #[] := by intro h; rw [h] at hcs; cases hcs
  go_wp2_with (refine wl_store4 (.tmp 3) (.tmp 13) HT.out (by rfl) (by rfl) (by rfl) (Y := elc c) (by rfl) hcs hco ?_)
  generalize (w2.alloc (.cells #[.int .u64 0, .int .u64 0, .int .u64 0, .int .u64 0] 33)).setRow w2.heap.size (elc c) = w3 at *
  obtain ⟨p, hp⟩ : ∃ p, w2.heap.size = p := ⟨_, rfl⟩
  rw [hp] at HT3 hs2 ⊢
  clear hp HT
  go_loopw [17] (fun i wr => ∃ (k y : Nat), (k = 0 ∧ y = c ∨ k = 1 ∧ y = m) ∧ i = .int .i64 (k : Int) ∧ Blk4 wr p (elc y) ∧ Blk4 wr w.heap.size #[.int .u64 0, .int .u64 0, .int .u64 0, .int .u64 0] ∧ PairE wr q a b ∧ Below w.heap.size w wr) (fun i _ => 1 - (intOf i).toNat)
  case' atStart => exact ⟨0, c, .inl ⟨rfl, rfl⟩, rfl, HT3.out, HZ3.out, HQ3.out, HB3.out⟩
  case' round =>
    obtain ⟨k, y, hky, rfl, ht, hz, hqq, hbr⟩ := hrel
    rcases hky with ⟨rfl, rfl⟩ | ⟨rfl, rfl⟩
    · have hps := ht.lt
      have hzs := hz.lt
      have hba := (Below.refl wr.heap.size wr).alloc (Nat.le_refl _) (.cells #[.int .u64 0, .int .u64 0, .int .u64 0, .int .u64 0] 33)
      have hsa : (wr.alloc (.cells #[.int .u64 0, .int .u64 0, .int .u64 0, .int .u64 0] 33)).heap.size = wr.heap.size + 1 := by simp
      have HN := Lib.hid (Blk4.new wr (X := #[.int .u64 0, .int .u64 0, .int .u64 0, .int .u64 0]) rfl)
      have hbs := elc_size b
      have hbo := elc_one b
      have HN4 := Lib.hid (HN.out.set (Y := elc b) hbs)
      have HT4 := Lib.hid ((ht.below hba hps).far (show p ≠ wr.heap.size by omega) (elc b))
      have HZ4 := Lib.hid ((hz.below hba hzs).far (show w.heap.size ≠ wr.heap.size by omega) (elc b))
      have HQ4 := Lib.hid (show PairE ((wr.alloc (.cells #[.int .u64 0, .int .u64 0, .int .u64 0, .int .u64 0] 33)).setRow wr.heap.size (elc b)) q a b from (setRow_other _ _ _ _ (show q ≠ wr.heap.size by omega)).trans ((hba.block q (by omega)).trans hqq))
      have HB4 := Lib.hid (below_setRow (hbr.trans (hba.mono (by omega))) (show w.heap.size ≤ wr.heap.size by omega) (elc b))
      have hs4 : ((wr.alloc (.cells #[.int .u64 0, .int .u64 0, .int .u64 0, .int .u64 0] 33)).setRow wr.heap.size (elc b)).heap.size = wr.heap.size + 1 := by rw [size_setRow, hsa]
      have HQA := Lib.hid (show (wr.alloc (.cells #[.int .u64 0, .int .u64 0, .int .u64 0, .int .u64 0] 33)).rangeAt q 4 (elc b).toList from PairE.r4 (a := a) ((hba.block q (by omega)).trans hqq))
      have HQR := Lib.hid hqq.r4
      clear ht hz hqq hbr hba
      go_wp2_with (first | (refine wl_loadR (.tmp 19) HQR.out hbs (by rfl) (by rfl) (by rfl) ?_) | (refine wl_store4 (.tmp 5) (.tmp 20) HN.out (by rfl) (by rfl) (by rfl) (Y := elc b) (by rfl) hbs hbo ?_) | (refine wl_load4 (.tmp 3) HT4.out (by rfl) (by rfl) (by rfl) ?_) | (refine wl_load4 (.tmp 5) HN4.out (by rfl) (by rfl) (by rfl) ?_))
      generalize (wr.alloc (.cells #[.int .u64 0, .int .u64 0, .int .u64 0, .int .u64 0] 33)).setRow wr.heap.size (elc b) = w4 at *
      refine (HMU.out w4).mono ?_
      rintro e w5 ⟨rfl, hb5⟩
      have HT5 := Lib.hid (HT4.out.below hb5 (by omega))
      have HZ5 := Lib.hid (HZ4.out.below hb5 (by omega))
      have HQ5 := Lib.hid (show PairE w5 q a b from (hb5.block q (by omega)).trans HQ4.out)
      have HB5 := Lib.hid (HB4.out.trans (hb5.mono (by omega)))
      rw [el_is m]
      have hms := elc_size m
      have hmo := elc_one m
      have HT6 := Lib.hid (HT5.out.set (Y := elc m) hms)
      have HZ6 := Lib.hid (HZ5.out.far (show w.heap.size ≠ p by omega) (elc m))
      have HQ6 := Lib.hid (show PairE (w5.setRow p (elc m)) q a b from (setRow_other _ _ _ _ (show q ≠ p by omega)).trans HQ5.out)
      have HB6 := Lib.hid (below_setRow HB5.out (show w.heap.size ≤ p by omega) (elc m))
      clear hb5
      go_wp2_with (refine wl_store4 (.tmp 3) (.tmp 23) HT5.out (by rfl) (by rfl) (by rfl) (Y := elc m) (by rfl) hms hmo ?_)
      exact ⟨⟨1, m, .inr ⟨rfl, rfl⟩, by go_num, HT6.out, HZ6.out, HQ6.out, HB6.out⟩, by simp [intOf]⟩
    · have HTF := Lib.hid ht
      have HZF := Lib.hid hz
      have hYs := elc_size y
      have hYo := elc_one y
      have HRS := Lib.hid ((hz.set (Y := elc y) hYs).load)
      have HBS := Lib.hid (below_setRow hbr (Nat.le_refl w.heap.size) (elc y))
      clear ht hz hqq hbr
      go_wp2_with (first | (refine wl_load4 (.tmp 3) HTF.out (by rfl) (by rfl) (by rfl) ?_) | (refine wl_store4 (.tmp 2) (.tmp 25) HZF.out (by rfl) (by rfl) (by rfl) (Y := elc y) (by rfl) hYs hYo ?_))
      (try simp only [Exit.inBlock, Exit.then])
      refine bodyPost_ret (v := .agg (elc y)) (results_cellU rfl _ _ _ ⟨w.heap.size, 0, none⟩ _ rfl HRS.out) rfl ?_
      exact ⟨by rw [← el_is y, HCC.out, HMM.out], HBS.out⟩
end Go.Proofs.Ytgpjidlomhkpeaa
