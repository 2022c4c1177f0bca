/-
  Contract of field.Sum at two numbers. Conditions: the numbers fit.
-/
import Derived.Test.YtgpjidlomhkpeaaFeE
namespace Go.Proofs.Ytgpjidlomhkpeaa
open Go Go.RowKit Go.Sh

set_option maxHeartbeats 8000000 in
set_option maxRecDepth 100000 in
/-- field.Sum of two -/
theorem Sum_any (q a b : Nat) (ha : F4 a) (hb : F4 b) (w : World) (hq : PairE w q a b) :
    Calls Try.prog 20 #[.slice (some ⟨q, 0, none⟩) 2 2] w fun e w' => e = .returned (el ((a + b) % pF)) ∧ Below w.heap.size w w' := by
  have hqs : q < w.heap.size := (Array.getElem?_eq_some_iff.1 hq).1
  obtain ⟨na, hna⟩ : ∃ n, a % pF = n := ⟨_, rfl⟩
  obtain ⟨nb, hnb⟩ : ∃ n, b % pF = n := ⟨_, rfl⟩
  have la : na < pF := by rw [← hna]; exact Nat.mod_lt _ (by rw [pF_is]; decide)
  have lb : nb < pF := by rw [← hnb]; exact Nat.mod_lt _ (by rw [pF_is]; decide)
  have HNA := Lib.hid (Norm_any a ha)
  have HNB := Lib.hid (Norm_any b hb)
  rw [hna, el_is a] at HNA
  rw [hnb, el_is b] at HNB
  have had1 := add_any 0 na (by decide) (by rw [pF_is] at la; omega) (by rw [pF_is] at la; omega)
  rw [Nat.zero_add, Nat.mod_eq_of_lt la, el_is 0] at had1
  obtain ⟨s, hs⟩ : ∃ s, (na + nb) % pF = s := ⟨_, rfl⟩
  have had2 := add_any na nb (by rw [pF_is] at la; omega) (by rw [pF_is] at lb; omega) (by rw [pF_is] at la lb; omega)
  rw [hs, el_is na] at had2
  have HA1 := Lib.hid had1
  have HA2 := Lib.hid had2
  have HSS := Lib.hid (show s = (a + b) % pF by rw [← hs, ← hna, ← hnb, ← Nat.add_mod])
  obtain ⟨hs2, hz2, ht2, hb2⟩ := newTwo w (.cells #[.int .u64 0, .int .u64 0, .int .u64 0, .int .u64 0] 33) (.cells #[.int .u64 0, .int .u64 0, .int .u64 0, .int .u64 0] 33)
  have HZ := Lib.hid (show Blk4 _ w.heap.size _ from ⟨rfl, hz2⟩)
  have HT := Lib.hid (show Blk4 _ (w.heap.size + 1) (elc 0) from ⟨rfl, ht2⟩)
  have HQ := Lib.hid (show PairE _ q a b from (hb2.block q hqs).trans hq)
  have HB := Lib.hid hb2
  clear hq hz2 ht2 hb2 hna hnb had1 had2 hs la lb
  go_enter Try.func20, Try.ntmps20
  go_wp2_with fail
  generalize (w.alloc (.cells #[.int .u64 0, .int .u64 0, .int .u64 0, .int .u64 0] 33)).alloc (.cells #[.int .u64 0, .int .u64 0, .int .u64 0, .int .u64 0] 33) = w2 at *
  go_loopw [8] (fun i wr => ∃ (k y : Nat), (k = 0 ∧ y = 0 ∨ k = 1 ∧ y = na ∨ k = 2 ∧ y = s) ∧ i = .int .i64 (k : Int) ∧ Blk4 wr (w.heap.size + 1) (elc y) ∧ Blk4 wr w.heap.size #[.int .u64 0, .int .u64 0, .int .u64 0, .int .u64 0] ∧ PairE wr q a b ∧ Below w.heap.size w wr) (fun i _ => 2 - (intOf i).toNat)
  case' atStart => exact ⟨0, 0, .inl ⟨rfl, rfl⟩, rfl, HT.out, HZ.out, HQ.out, HB.out⟩
  case' round =>
    obtain ⟨k, y, hky, rfl, ht, hz, hqq, hbr⟩ := hrel
    rcases hky with ⟨hk, hy⟩ | ⟨hk, hy⟩ | ⟨hk, hy⟩ <;> subst hk <;> subst hy
    · have hps := ht.lt
      have hzs := hz.lt
      have hba := (Below.refl wr.heap.size wr).alloc (Nat.le_refl _) (.cells #[.int .u64 0, .int .u64 0, .int .u64 0, .int .u64 0] 33)
      have hsa : (wr.alloc (.cells #[.int .u64 0, .int .u64 0, .int .u64 0, .int .u64 0] 33)).heap.size = wr.heap.size + 1 := by simp
      have HN := Lib.hid (Blk4.new wr (X := #[.int .u64 0, .int .u64 0, .int .u64 0, .int .u64 0]) rfl)
      have hbs := elc_size a
      have hbo := elc_one a
      have HN4 := Lib.hid (HN.out.set (Y := elc a) hbs)
      have HT4 := Lib.hid ((ht.below hba hps).far (show w.heap.size + 1 ≠ wr.heap.size by omega) (elc a))
      have HZ4 := Lib.hid ((hz.below hba hzs).far (show w.heap.size ≠ wr.heap.size by omega) (elc a))
      have HQ4 := Lib.hid (show PairE ((wr.alloc (.cells #[.int .u64 0, .int .u64 0, .int .u64 0, .int .u64 0] 33)).setRow wr.heap.size (elc a)) q a b from (setRow_other _ _ _ _ (show q ≠ wr.heap.size by omega)).trans ((hba.block q (by omega)).trans hqq))
      have HB4 := Lib.hid (below_setRow (hbr.trans (hba.mono (by omega))) (show w.heap.size ≤ wr.heap.size by omega) (elc a))
      have hs4 : ((wr.alloc (.cells #[.int .u64 0, .int .u64 0, .int .u64 0, .int .u64 0] 33)).setRow wr.heap.size (elc a)).heap.size = wr.heap.size + 1 := by rw [size_setRow, hsa]
      have HQR := Lib.hid hqq.r0
      clear ht hz hqq hbr hba
      go_wp2_with (first | (refine wl_loadR (.tmp 10) HQR.out hbs (by rfl) (by rfl) (by rfl) ?_) | (refine wl_store4 (.tmp 5) (.tmp 11) HN.out (by rfl) (by rfl) (by rfl) (Y := elc a) (by rfl) hbs hbo ?_))
      generalize (wr.alloc (.cells #[.int .u64 0, .int .u64 0, .int .u64 0, .int .u64 0] 33)).setRow wr.heap.size (elc a) = w4 at *
      refine wp_region_head 4 [12, 13, 14, 15] (fun i v _ => match i with
        | 0 => v = .agg (elc 0)
        | 1 => v = .agg (elc a)
        | 2 => v = el na
        | 3 => v = el na
        | _ => True) (fun _ _ => none) (by kernel_rfl) (by kernel_rfl) rfl rfl (by decide) (by show ∀ d ∈ [12, 13, 14, 15], d < 18; decide) rfl (fun i v _ _ h _ => h) ?_ ?_
      · intro i o h a' w1 hA hD hb1
        match i, h with
        | 0, h =>
          obtain rfl := Option.some.inj h
          exact op_load4 (.tmp 3) rfl (HT4.out.below hb1 (by omega)) (hA 3 (by decide)) ⟨_, rfl, Below.refl _ _, rfl, fun b h => by cases h⟩
        | 1, h =>
          obtain rfl := Option.some.inj h
          exact op_load4 (.tmp 5) rfl (HN4.out.below hb1 (by omega)) (hA 5 (by decide)) ⟨_, rfl, Below.refl _ _, rfl, fun b h => by cases h⟩
        | 2, h =>
          obtain rfl := Option.some.inj h
          have e13 : a'.eval (.tmp 13) = .agg (elc a) := hD ⟨1, .data⟩ (by simp) rfl 13 rfl
          go_simp
          rw [ev_get e13]
          refine (HNA.out w1).mono ?_
          rintro e w2 ⟨rfl, hb2⟩
          exact ⟨rfl, hb2⟩
        | 3, h =>
          obtain rfl := Option.some.inj h
          have e12 : a'.eval (.tmp 12) = .agg (elc 0) := hD ⟨0, .data⟩ (by simp) rfl 12 rfl
          have e14 : a'.eval (.tmp 14) = el na := hD ⟨2, .data⟩ (by simp) rfl 14 rfl
          go_simp
          rw [ev_get e12, ev_get e14]
          refine (HA1.out w1).mono ?_
          rintro e w2 ⟨rfl, hb2⟩
          exact ⟨rfl, hb2⟩
        | k + 4, h => simp at h
      · intro x w5 hx _ _ hb5
        have x0 : x 0 = .agg (elc 0) := hx 0 (by decide)
        have x1 : x 1 = .agg (elc a) := hx 1 (by decide)
        have x2 : x 2 = el na := hx 2 (by decide)
        have x3 : x 3 = .agg (elc na) := hx 3 (by decide)
        simp only [setAll, List.drop_succ_cons, List.drop_zero, Nat.zero_add, Nat.reduceAdd, x0, x1, x2, x3]
        have HT5 := Lib.hid (HT4.out.below hb5 (by omega))
        have HZ5 := Lib.hid (HZ4.out.below hb5 (by omega))
        have HQ5 := Lib.hid (show PairE w5 q a b from (hb5.block q (by omega)).trans HQ4.out)
        have HB5 := Lib.hid (HB4.out.trans (hb5.mono (by omega)))
        have hms := elc_size na
        have hmo := elc_one na
        have HT6 := Lib.hid (HT5.out.set (Y := elc na) hms)
        have HZ6 := Lib.hid (HZ5.out.far (show w.heap.size ≠ w.heap.size + 1 by omega) (elc na))
        have HQ6 := Lib.hid (show PairE (w5.setRow (w.heap.size + 1) (elc na)) q a b from (setRow_other _ _ _ _ (show q ≠ w.heap.size + 1 by omega)).trans HQ5.out)
        have HB6 := Lib.hid (below_setRow HB5.out (show w.heap.size ≤ w.heap.size + 1 by omega) (elc na))
        clear hb5 hx x0 x1 x2 x3
        go_wp2_with (refine wl_store4 (.tmp 3) (.tmp 15) HT5.out (by rfl) (by rfl) (by rfl) (Y := elc na) (by rfl) hms hmo ?_)
        exact ⟨⟨1, na, .inr (.inl ⟨rfl, rfl⟩), by go_num, HT6.out, HZ6.out, HQ6.out, HB6.out⟩, by simp [intOf]⟩
    · have hps := ht.lt
      have hzs := hz.lt
      have hba := (Below.refl wr.heap.size wr).alloc (Nat.le_refl _) (.cells #[.int .u64 0, .int .u64 0, .int .u64 0, .int .u64 0] 33)
      have hsa : (wr.alloc (.cells #[.int .u64 0, .int .u64 0, .int .u64 0, .int .u64 0] 33)).heap.size = wr.heap.size + 1 := by simp
      have HN := Lib.hid (Blk4.new wr (X := #[.int .u64 0, .int .u64 0, .int .u64 0, .int .u64 0]) rfl)
      have hbs := elc_size b
      have hbo := elc_one b
      have HN4 := Lib.hid (HN.out.set (Y := elc b) hbs)
      have HT4 := Lib.hid ((ht.below hba hps).far (show w.heap.size + 1 ≠ wr.heap.size by omega) (elc b))
      have HZ4 := Lib.hid ((hz.below hba hzs).far (show w.heap.size ≠ wr.heap.size by omega) (elc b))
      have HQ4 := Lib.hid (show PairE ((wr.alloc (.cells #[.int .u64 0, .int .u64 0, .int .u64 0, .int .u64 0] 33)).setRow wr.heap.size (elc b)) q a b from (setRow_other _ _ _ _ (show q ≠ wr.heap.size by omega)).trans ((hba.block q (by omega)).trans hqq))
      have HB4 := Lib.hid (below_setRow (hbr.trans (hba.mono (by omega))) (show w.heap.size ≤ wr.heap.size by omega) (elc b))
      have hs4 : ((wr.alloc (.cells #[.int .u64 0, .int .u64 0, .int .u64 0, .int .u64 0] 33)).setRow wr.heap.size (elc b)).heap.size = wr.heap.size + 1 := by rw [size_setRow, hsa]
      have HQR := Lib.hid hqq.r4
      clear ht hz hqq hbr hba
      go_wp2_with (first | (refine wl_loadR (.tmp 10) HQR.out hbs (by rfl) (by rfl) (by rfl) ?_) | (refine wl_store4 (.tmp 5) (.tmp 11) HN.out (by rfl) (by rfl) (by rfl) (Y := elc b) (by rfl) hbs hbo ?_))
      generalize (wr.alloc (.cells #[.int .u64 0, .int .u64 0, .int .u64 0, .int .u64 0] 33)).setRow wr.heap.size (elc b) = w4 at *
      refine wp_region_head 4 [12, 13, 14, 15] (fun i v _ => match i with
        | 0 => v = .agg (elc y)
        | 1 => v = .agg (elc b)
        | 2 => v = el nb
        | 3 => v = el s
        | _ => True) (fun _ _ => none) (by kernel_rfl) (by kernel_rfl) rfl rfl (by decide) (by show ∀ d ∈ [12, 13, 14, 15], d < 18; decide) rfl (fun i v _ _ h _ => h) ?_ ?_
      · intro i o h a' w1 hA hD hb1
        match i, h with
        | 0, h =>
          obtain rfl := Option.some.inj h
          exact op_load4 (.tmp 3) rfl (HT4.out.below hb1 (by omega)) (hA 3 (by decide)) ⟨_, rfl, Below.refl _ _, rfl, fun b h => by cases h⟩
        | 1, h =>
          obtain rfl := Option.some.inj h
          exact op_load4 (.tmp 5) rfl (HN4.out.below hb1 (by omega)) (hA 5 (by decide)) ⟨_, rfl, Below.refl _ _, rfl, fun b h => by cases h⟩
        | 2, h =>
          obtain rfl := Option.some.inj h
          have e13 : a'.eval (.tmp 13) = .agg (elc b) := hD ⟨1, .data⟩ (by simp) rfl 13 rfl
          go_simp
          rw [ev_get e13]
          refine (HNB.out w1).mono ?_
          rintro e w2 ⟨rfl, hb2⟩
          exact ⟨rfl, hb2⟩
        | 3, h =>
          obtain rfl := Option.some.inj h
          have e12 : a'.eval (.tmp 12) = .agg (elc y) := hD ⟨0, .data⟩ (by simp) rfl 12 rfl
          have e14 : a'.eval (.tmp 14) = el nb := hD ⟨2, .data⟩ (by simp) rfl 14 rfl
          go_simp
          rw [ev_get e12, ev_get e14]
          refine (HA2.out w1).mono ?_
          rintro e w2 ⟨rfl, hb2⟩
          exact ⟨rfl, hb2⟩
        | k + 4, h => simp at h
      · intro x w5 hx _ _ hb5
        have x0 : x 0 = .agg (elc y) := hx 0 (by decide)
        have x1 : x 1 = .agg (elc b) := hx 1 (by decide)
        have x2 : x 2 = el nb := hx 2 (by decide)
        have x3 : x 3 = .agg (elc s) := hx 3 (by decide)
        simp only [setAll, List.drop_succ_cons, List.drop_zero, Nat.zero_add, Nat.reduceAdd, x0, x1, x2, x3]
        have HT5 := Lib.hid (HT4.out.below hb5 (by omega))
        have HZ5 := Lib.hid (HZ4.out.below hb5 (by omega))
        have HQ5 := Lib.hid (show PairE w5 q a b from (hb5.block q (by omega)).trans HQ4.out)
        have HB5 := Lib.hid (HB4.out.trans (hb5.mono (by omega)))
        have hms := elc_size s
        have hmo := elc_one s
        have HT6 := Lib.hid (HT5.out.set (Y := elc s) hms)
        have HZ6 := Lib.hid (HZ5.out.far (show w.heap.size ≠ w.heap.size + 1 by omega) (elc s))
        have HQ6 := Lib.hid (show PairE (w5.setRow (w.heap.size + 1) (elc s)) q a b from (setRow_other _ _ _ _ (show q ≠ w.heap.size + 1 by omega)).trans HQ5.out)
        have HB6 := Lib.hid (below_setRow HB5.out (show w.heap.size ≤ w.heap.size + 1 by omega) (elc s))
        clear hb5 hx x0 x1 x2 x3
        go_wp2_with (refine wl_store4 (.tmp 3) (.tmp 15) HT5.out (by rfl) (by rfl) (by rfl) (Y := elc s) (by rfl) hms hmo ?_)
        exact ⟨⟨2, s, .inr (.inr ⟨rfl, rfl⟩), by go_num, HT6.out, HZ6.out, HQ6.out, HB6.out⟩, by simp [intOf]⟩
    · have HTF := Lib.hid ht
      have HZF := Lib.hid hz
      have hYs := elc_size y
      have hYo := elc_one y
      have HRS := Lib.hid ((hz.set (Y := elc y) hYs).load)
      have HBS := Lib.hid (below_setRow hbr (Nat.le_refl w.heap.size) (elc y))
      clear ht hz hqq hbr
      go_wp2_with (first | (refine wl_load4 (.tmp 3) HTF.out (by rfl) (by rfl) (by rfl) ?_) | (refine wl_store4 (.tmp 2) (.tmp 17) HZF.out (by rfl) (by rfl) (by rfl) (Y := elc y) (by rfl) hYs hYo ?_))
      (try simp only [Exit.inBlock, Exit.then])
      refine bodyPost_ret (v := .agg (elc y)) (results_cellU rfl _ _ _ ⟨w.heap.size, 0, none⟩ _ rfl HRS.out) rfl ?_
      exact ⟨by rw [← el_is y, HSS.out], HBS.out⟩
end Go.Proofs.Ytgpjidlomhkpeaa
