/-
  Contracts of field.Inv and field.Ratio.Value. Conditions: the numbers fit.
-/
import Derived.Test.YtgpjidlomhkpeaaFeG
import Derived.Test.YtgpjidlomhkpeaaInvRgn
namespace Go.Proofs.Ytgpjidlomhkpeaa
open Go Go.RowKit Go.Sh

theorem bvput (l : List UInt8) (i : Nat) (x : UInt8) : (bv l).set i (.int .u8 (x.toNat : Int)) = bv (l.set i x) := by simp [bv, List.map_set]
def ones (k : Nat) : List UInt8 := List.replicate k 255 ++ List.replicate (32 - k) 0
theorem ones_len (k : Nat) (h : k ≤ 32) : (ones k).length = 32 := by simp [ones]; omega
theorem ones_set (k : Nat) (h : k < 32) : (ones k).set k 255 = ones (k + 1) := by
  unfold ones
  rw [List.set_append_right _ _ (by simp), List.length_replicate, Nat.sub_self, show 32 - k = (32 - (k + 1)) + 1 by omega, List.replicate_succ, List.set_cons_zero, List.replicate_succ', List.append_assoc]
  rfl
theorem lev_inv : lev (((ones 32).set 0 235).set 31 127) = pF - 2 := by decide
set_option maxHeartbeats 4000000 in
set_option maxRecDepth 100000 in
theorem Inv_any (v : Nat) (hv : F4 v) (w : World) : Calls Try.prog 25 #[el v] w fun e w' => e = .returned (el (v ^ (pF - 2) % pF)) ∧ Below w.heap.size w w' := by
  have HPW := Lib.hid (fun A n c l W (h : RB W W.heap.size A n l) (hn : n ≤ 1000) => Power_any v hv A n c l W h hn)
  rw [el_is v] at HPW ⊢
  obtain ⟨hs2, hx2, hz2, hb2⟩ := newTwo w (.cells (elc v) 33) (.cells #[.int .u64 0, .int .u64 0, .int .u64 0, .int .u64 0] 33)
  have HX := Lib.hid (show Blk4 _ w.heap.size (elc v) from ⟨rfl, hx2⟩)
  have HZ := Lib.hid (show Blk4 _ (w.heap.size + 1) _ from ⟨rfl, hz2⟩)
  have HB := Lib.hid hb2
  have hxs := elc_size v
  have hxe : ¬ elc v = #[] := by intro h; rw [h] at hxs; cases hxs
  clear hx2 hz2 hb2
  generalize elc v = xc at *
  go_enter Try.func25, Try.ntmps25
  go_wp2_with (at_make; refine wl_makeB TB rfl (.const (.int .i64 32)) (.const (.int .i64 32)) rfl .i64 .i64 _ _ rfl rfl 32 ?m1 ?m2 ?m3 (w.heap.size + 2) ?m4 ?m5)
  case m1 => rfl
  case m2 => rfl
  case m3 => omega
  case m4 => rw [hs2]; exact Nat.le_refl _
  case m5 =>
    generalize (w.alloc (.cells xc 33)).alloc (.cells #[.int .u64 0, .int .u64 0, .int .u64 0, .int .u64 0] 33) = w2 at *
    intro w3 hown hg3 hlt
    have hb3 : Below w2.heap.size w2 w3 := (Below.refl _ _).grown hg3 (Nat.le_refl _) (fun _ h => by cases h)
    have HX3 := Lib.hid (HX.out.below hb3 (by omega))
    have HZ3 := Lib.hid (HZ.out.below hb3 (by omega))
    have HB3 := Lib.hid (HB.out.trans (hb3.mono (by omega)))
    obtain ⟨q, hq⟩ : ∃ q, w.heap.size + 2 = q := ⟨_, rfl⟩
    rw [hq] at hown hs2
    rw [hq]
    have HO3 := Lib.hid (show w3.ownsRow q 5 1 (.slice (some ⟨q, 0, none⟩) 32 32) 32 (bv (ones 0)) from hown)
    clear hown hg3 hb3 HX HZ HB
    go_wp2_with fail
    go_loopw [4, 8] (fun _ i wr => ∃ k : Nat, k ≤ 32 ∧ i = .int .i64 (k : Int) ∧ wr.ownsRow q 5 1 (.slice (some ⟨q, 0, none⟩) 32 32) 32 (bv (ones k)) ∧ Blk4 wr w.heap.size xc ∧ Blk4 wr (w.heap.size + 1) #[.int .u64 0, .int .u64 0, .int .u64 0, .int .u64 0] ∧ Below w.heap.size w wr) (fun _ i _ => 32 - (intOf i).toNat)
    case' atStart => exact ⟨0, by omega, rfl, HO3.out, HX3.out, HZ3.out, HB3.out⟩
    case' round =>
      obtain ⟨k, hk, rfl, hown, hx, hz, hbr⟩ := hrel
      have HO := Lib.hid hown
      by_cases hlt : k < 32
      · have hc := HO.out.cellAt k (by omega)
        rw [bv_at _ _ (by rw [ones_len k hk]; exact hlt)] at hc
        have hf := HO.out.frozenAt k
        have h1 := HO.out.stored k (.int .u8 (((255 : UInt8).toNat : Nat) : Int))
        have h2 := h1.1
        rw [bvput, ones_set k hlt] at h2
        have HO2 := Lib.hid h2
        have HX2 := Lib.hid (show Blk4 (wr.setCell ⟨q, k, none⟩ (.int .u8 255)) w.heap.size xc from ⟨hx.1, (Below.heap_setCell wr ⟨q, k, none⟩ (.int .u8 255) w.heap.size (show w.heap.size ≠ q by omega)).trans hx.2⟩)
        have HZ2 := Lib.hid (show Blk4 (wr.setCell ⟨q, k, none⟩ (.int .u8 255)) (w.heap.size + 1) _ from ⟨hz.1, (Below.heap_setCell wr ⟨q, k, none⟩ (.int .u8 255) (w.heap.size + 1) (show w.heap.size + 1 ≠ q by omega)).trans hz.2⟩)
        have HB2 := Lib.hid (hbr.setCell (p := ⟨q, k, none⟩) (show w.heap.size ≤ q by omega) (.int .u8 255))
        clear hown hx hz hbr h1 h2 HO
        go_wp2_with fail
        exact ⟨⟨k + 1, by omega, by go_num, HO2.out, HX2.out, HZ2.out, HB2.out⟩, by simp [intOf]; omega⟩
      · obtain rfl : k = 32 := by omega
        have hc0 := HO.out.cellAt 0 (by omega)
        rw [bv_at _ _ (by decide)] at hc0
        have hf0 := HO.out.frozenAt 0
        have h1 := (HO.out.stored 0 (.int .u8 (((235 : UInt8).toNat : Nat) : Int))).1
        rw [bvput] at h1
        have hc1 := h1.cellAt 31 (by omega)
        rw [bv_at _ _ (by decide)] at hc1
        have hf1 := h1.frozenAt 31
        have h2 := (h1.stored 31 (.int .u8 (((127 : UInt8).toNat : Nat) : Int))).1
        rw [bvput] at h2
        obtain ⟨w5, hw5⟩ : ∃ w5, (wr.setCell ⟨q, 0, none⟩ (.int .u8 235)).setCell ⟨q, 31, none⟩ (.int .u8 127) = w5 := ⟨_, rfl⟩
        have h3 : w5.ownsRow q 5 1 (.slice (some ⟨q, 0, none⟩) 32 32) 32 (bv (((ones 32).set 0 235).set 31 127)) := by rw [← hw5]; exact h2
        have hx5 : Blk4 w5 w.heap.size xc := by
          rw [← hw5]
          exact ⟨hx.1, (Below.heap_setCell _ ⟨q, 31, none⟩ _ w.heap.size (show w.heap.size ≠ q by omega)).trans ((Below.heap_setCell wr ⟨q, 0, none⟩ _ w.heap.size (show w.heap.size ≠ q by omega)).trans hx.2)⟩
        have hz5 : Blk4 w5 (w.heap.size + 1) #[.int .u64 0, .int .u64 0, .int .u64 0, .int .u64 0] := by
          rw [← hw5]
          exact ⟨hz.1, (Below.heap_setCell _ ⟨q, 31, none⟩ _ (w.heap.size + 1) (show w.heap.size + 1 ≠ q by omega)).trans ((Below.heap_setCell wr ⟨q, 0, none⟩ _ (w.heap.size + 1) (show w.heap.size + 1 ≠ q by omega)).trans hz.2)⟩
        have hb5 : Below w.heap.size w w5 := by
          rw [← hw5]
          exact (hbr.setCell (p := ⟨q, 0, none⟩) (show w.heap.size ≤ q by omega) _).setCell (p := ⟨q, 31, none⟩) (show w.heap.size ≤ q by omega) _
        have hpw := HPW.out _ 32 32 _ _ (RB.of_own h3) (by omega)
        rw [lev_inv] at hpw
        have HPX := Lib.hid hpw
        have HW5 := Lib.hid hw5
        have HX5 := Lib.hid hx5
        have HZ5 := Lib.hid hz5
        have HB5 := Lib.hid hb5
        have hc0' : wr.cell? ⟨q, 0, none⟩ = some (.int .u8 255) := hc0
        have hc1' : (wr.setCell ⟨q, 0, none⟩ (.int .u8 235)).cell? ⟨q, 31, none⟩ = some (.int .u8 255) := hc1
        have hf1' : (wr.setCell ⟨q, 0, none⟩ (.int .u8 235)).frozen? ⟨q, 31, none⟩ = false := hf1
        clear hpw hw5 hx5 hz5 hb5 h1 h2 h3 hx hz hbr hown hc0 hc1 hf1
        go_wp2_with (rw [HW5.out]; refine wl_load4 (.tmp 1) HX5.out (by rfl) (by rfl) (by rfl) ?_)
        refine HPX.out.mono ?_
        rintro e w6 ⟨rfl, hb6⟩
        have HZ6 := Lib.hid (HZ5.out.below hb6 HZ5.out.lt)
        have HB6 := Lib.hid (HB5.out.trans (hb6.mono (by have := HB5.out.size; omega)))
        have hYs := elc_size (v ^ (pF - 2) % pF)
        have hYo := elc_one (v ^ (pF - 2) % pF)
        have HE := Lib.hid (el_is (v ^ (pF - 2) % pF))
        rw [el_is (v ^ (pF - 2) % pF)]
        clear hb6
        generalize elc (v ^ (pF - 2) % pF) = Y at *
        have HRS := Lib.hid ((HZ6.out.set (Y := Y) hYs).load)
        have HBS := Lib.hid (below_setRow HB6.out (Nat.le_succ w.heap.size) Y)
        go_wp2_with (refine wl_store4 (.tmp 2) (.tmp 21) HZ6.out (by rfl) (by rfl) (by rfl) (Y := Y) (by rfl) hYs hYo ?_)
        (try simp only [Exit.inBlock, Exit.then])
        refine bodyPost_ret (v := .agg Y) (results_cellU rfl _ _ _ ⟨w.heap.size + 1, 0, none⟩ _ rfl HRS.out) rfl ?_
        exact ⟨by rw [HE.out], HBS.out⟩
theorem op_loadR {o : Oper} {a : Act} {w : World} {K : Act → World → Prop} {Q : Exit → Act → World → Prop} (x : Operand) (ho : o.op = .load 33 x) {p f : Nat} {X : Array Value} (hX : X.size = 4) (h : w.rangeAt p f X.toList) (hx : a.eval x = .pointer (some ⟨p, f, none⟩)) (hk : K (a.put o.dst (.agg X)) w) : o.wp Try.prog a w K Q := by
  obtain ⟨l⟩ := X
  exact wp_load_mid 33 x ho p f hx l _ h Try.underlying33 rfl (by rw [show l.length = 4 from hX]; exact info4) hk
theorem rangeAt_below {w w' : World} {B p o : Nat} {cs : List Value} (h : w.rangeAt p o cs) (hb : Below B w w') (hp : p < B) : w'.rangeAt p o cs := fun j v hv => (hb.cell (p := ⟨p, o + j, none⟩) hp).trans (h j v hv)
set_option maxRecDepth 100000 in
theorem pair_range {w : World} {p : Nat} {a b : Nat} {t : TypeId} (h : w.heap[p]? = some (.cells (elc a ++ elc b) t (0, 0))) : w.rangeAt p 0 (elc a).toList ∧ w.rangeAt p 4 (elc b).toList := by
  refine ⟨fun j v hv => ?_, fun j v hv => ?_⟩
  · rw [blk_cell h]
    have hj : j < 4 := by have := (List.getElem?_eq_some_iff.1 hv).1; simpa [elc_size] using this
    rw [Nat.zero_add, Array.getElem?_append_left (by rw [elc_size]; exact hj)]
    simpa using hv
  · rw [blk_cell h]
    rw [Array.getElem?_append_right (by rw [elc_size]; omega), elc_size, Nat.add_sub_cancel_left]
    simpa using hv
set_option maxHeartbeats 4000000 in
set_option maxRecDepth 100000 in
theorem Value_any (a b : Nat) (ha : F4 a) (hb : F4 b) (w : World) : Calls Try.prog 18 #[.agg (elc a ++ elc b)] w fun e w' => e = .returned (el (a * (b ^ (pF - 2) % pF) % pF)) ∧ Below w.heap.size w w' := by
  have HIV := Lib.hid (Inv_any b hb)
  have HMU := Lib.hid (multiply_any a (b ^ (pF - 2) % pF) ha (F4.mod _))
  rw [el_is b] at HIV
  rw [el_is a] at HMU
  obtain ⟨hs2, hx2, hz2, hb2⟩ := newTwo w (.cells (elc a ++ elc b) 52) (.cells #[.int .u64 0, .int .u64 0, .int .u64 0, .int .u64 0] 33)
  have HR := Lib.hid (pair_range hx2)
  have HZ := Lib.hid (show Blk4 _ (w.heap.size + 1) _ from ⟨rfl, hz2⟩)
  have HB := Lib.hid hb2
  have hps : (elc a ++ elc b).size = 8 := rfl
  have hpe : ¬ elc a ++ elc b = #[] := by intro h; rw [h] at hps; cases hps
  obtain ⟨i0, hi⟩ : ∃ i, b ^ (pF - 2) % pF = i := ⟨_, rfl⟩
  rw [hi] at HIV HMU
  obtain ⟨r, hrr⟩ : ∃ r, a * i0 % pF = r := ⟨_, rfl⟩
  rw [hrr] at HMU
  have HIR := Lib.hid (show a * (b ^ (pF - 2) % pF) % pF = r by rw [hi, hrr])
  clear hx2 hz2 hb2 hi hrr
  generalize hpc : elc a ++ elc b = pc at *
  clear hpc
  go_enter Try.func18, Try.ntmps18
  go_wp2_with fail
  clear hps hpe
  generalize (w.alloc (.cells pc 52)).alloc (.cells #[.int .u64 0, .int .u64 0, .int .u64 0, .int .u64 0] 33) = w2 at *
  refine wp_region_head 6 [3, 4, 5, 6, 7, 8] (fun i v _ => match i with
    | 0 => v = .pointer (some ⟨w.heap.size, 0, none⟩)
    | 1 => v = .agg (elc a)
    | 2 => v = .pointer (some ⟨w.heap.size, 4, none⟩)
    | 3 => v = .agg (elc b)
    | 4 => v = el i0
    | 5 => v = el r
    | _ => True) (fun _ _ => none) (by kernel_rfl) (by kernel_rfl) rfl rfl (by decide) (by show ∀ d ∈ [3, 4, 5, 6, 7, 8], d < 9; decide) rfl (fun i v _ _ h _ => h) ?_ ?_
  · intro i o h a' w1 hA hD hb1
    match i, h with
    | 0, h =>
      obtain rfl := Option.some.inj h
      have e1 : a'.tmps[1]?.getD undef = .pointer (some ⟨w.heap.size, 0, none⟩) := ev_get (hA 1 (by decide))
      clear h hA hD
      go_simp
      exact Below.refl _ _
    | 1, h =>
      obtain rfl := Option.some.inj h
      exact op_loadR (.tmp 3) rfl (elc_size a) (rangeAt_below HR.out.1 hb1 (by omega)) (hD ⟨0, .data⟩ (by simp) rfl 3 rfl) ⟨_, rfl, Below.refl _ _, rfl, fun b h => by cases h⟩
    | 2, h =>
      obtain rfl := Option.some.inj h
      have e1 : a'.tmps[1]?.getD undef = .pointer (some ⟨w.heap.size, 0, none⟩) := ev_get (hA 1 (by decide))
      clear h hA hD
      go_simp
      exact Below.refl _ _
    | 3, h =>
      obtain rfl := Option.some.inj h
      exact op_loadR (.tmp 5) rfl (elc_size b) (rangeAt_below HR.out.2 hb1 (by omega)) (hD ⟨2, .data⟩ (by simp) rfl 5 rfl) ⟨_, rfl, Below.refl _ _, rfl, fun b h => by cases h⟩
    | 4, h =>
      obtain rfl := Option.some.inj h
      have e6 : a'.eval (.tmp 6) = .agg (elc b) := hD ⟨3, .data⟩ (by simp) rfl 6 rfl
      go_simp
      rw [ev_get e6]
      refine (HIV.out w1).mono ?_
      rintro e w3 ⟨rfl, hb3⟩
      exact ⟨rfl, hb3⟩
    | 5, h =>
      obtain rfl := Option.some.inj h
      have e4 : a'.eval (.tmp 4) = .agg (elc a) := hD ⟨1, .data⟩ (by simp) rfl 4 rfl
      have e7 : a'.eval (.tmp 7) = el i0 := hD ⟨4, .data⟩ (by simp) rfl 7 rfl
      go_simp
      rw [ev_get e4, ev_get e7]
      refine (HMU.out w1).mono ?_
      rintro e w3 ⟨rfl, hb3⟩
      exact ⟨rfl, hb3⟩
    | k + 6, h => simp at h
  · intro x w5 hx _ _ hb5
    have x0 : x 0 = .pointer (some ⟨w.heap.size, 0, none⟩) := hx 0 (by decide)
    have x1 : x 1 = .agg (elc a) := hx 1 (by decide)
    have x2 : x 2 = .pointer (some ⟨w.heap.size, 4, none⟩) := hx 2 (by decide)
    have x3 : x 3 = .agg (elc b) := hx 3 (by decide)
    have x4 : x 4 = el i0 := hx 4 (by decide)
    have x5 : x 5 = .agg (elc r) := hx 5 (by decide)
    simp only [setAll, List.drop_succ_cons, List.drop_zero, Nat.zero_add, Nat.reduceAdd, x0, x1, x2, x3, x4, x5]
    have HZ5 := Lib.hid (HZ.out.below hb5 (by omega))
    have HB5 := Lib.hid (HB.out.trans (hb5.mono (by omega)))
    have hms := elc_size r
    have hmo := elc_one r
    have HRS := Lib.hid ((HZ5.out.set (Y := elc r) hms).load)
    have HBS := Lib.hid (below_setRow HB5.out (Nat.le_succ w.heap.size) (elc r))
    clear hb5 hx x0 x1 x2 x3 x4 x5
    go_wp2_with (refine wl_store4 (.tmp 2) (.tmp 8) HZ5.out (by rfl) (by rfl) (by rfl) (Y := elc r) (by rfl) hms hmo ?_)
    (try simp only [Exit.inBlock, Exit.then])
    refine bodyPost_ret (v := .agg (elc r)) (results_cellU rfl _ _ _ ⟨w.heap.size + 1, 0, none⟩ _ rfl HRS.out) rfl ?_
    exact ⟨by rw [← el_is r, HIR.out], HBS.out⟩
end Go.Proofs.Ytgpjidlomhkpeaa
