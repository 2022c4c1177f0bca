/-
  Contract of Hash.Sum: the sum of what was written, the hash left as it was. Conditions: a hash lies at the address; the sizes that slices can have.
-/
import Derived.Test.YtkaakgabhhkggaaShaPad
import Derived.Test.YtkaakgabhhkggaaRowsOf
namespace Go.Proofs.Ytkaakgabhhkggaa
open Go Go.RowKit Go.Sh

/-- the words of the sum -/
def shSumW (l : List UInt8) : List Int := shSt (l ++ shPad l.length) ((l ++ shPad l.length).length / 64)
/-- the bytes of a word, the greatest first -/
def wordB (x : Int) : List UInt8 := [pc x.toNat 3, pc x.toNat 2, pc x.toNat 1, pc x.toNat 0]
/-- the bytes of the first k words -/
def outW (s : List Int) : Nat → List UInt8
  | 0 => []
  | k + 1 => outW s k ++ wordB (it s k)
theorem length_outW (s : List Int) : ∀ k, (outW s k).length = 4 * k
  | 0 => rfl
  | k + 1 => by rw [outW, List.length_append, length_outW s k]; show 4 * k + 4 = _; omega
/-- the sum -/
def sumB (l : List UInt8) : List UInt8 := outW (shSumW l) 8
theorem length_sumB (l : List UInt8) : (sumB l).length = 32 := length_outW _ _
/-- block p is a row of bytes -/
def RowB (w : World) (ty : TypeId) (p : Nat) (l : List UInt8) : Prop := w.heap[p]? = some (.cells (bv l).toArray ty (0, 0))
section
variable {w w' : World} {ty : TypeId} {p k : Nat} {l : List UInt8}
theorem RowB.cell (h : RowB w ty p l) (hk : k < l.length) : w.cell? ⟨p, k, none⟩ = some (.int .u8 (bt l k)) := by
  rw [blk_cell h, List.getElem?_toArray, bv_at l k hk]
theorem RowB.free (h : RowB w ty p l) (i : Nat) : w.frozen? ⟨p, i, none⟩ = false := frozen_of_row _ _ i _ _ h
theorem RowB.set (h : RowB w ty p l) (i : Nat) (x : UInt8) : RowB (w.setCell ⟨p, i, none⟩ (.int .u8 (x.toNat : Int))) ty p (l.set i x) := by
  unfold RowB
  rw [blk_set h, List.setIfInBounds_toArray, bv_store]
theorem RowB.lt (h : RowB w ty p l) : p < w.heap.size := (Array.getElem?_eq_some_iff.1 h).1
theorem RowB.keep (h : RowB w ty p l) (hk : w'.heap[p]? = w.heap[p]?) : RowB w' ty p l := hk.trans h
theorem RowB.below {B : Nat} (h : RowB w ty p l) (hb : Below B w w') (hp : p < B) : RowB w' ty p l := h.keep (hb.block p hp)
theorem RowB.grown {r : Option Nat} (h : RowB w ty p l) (hg : w.grownBy w' r) (hr : r ≠ some p) : RowB w' ty p l := h.keep (hg.block p h.lt (Ne.symm hr))
theorem RowB.new (w : World) (ty : TypeId) (l : List UInt8) : RowB (w.alloc (.cells (bv l).toArray ty)) ty w.heap.size l := heap_alloc_new w _
theorem RowB.store (h : RowB w ty p l) {r : List UInt8} (hr : r.length = l.length) : (storeCells ⟨p, 0, none⟩ (bv r).toArray.toList).run Try.prog w = .ok () (w.setRow p (bv r).toArray) :=
  run_cells_whole w p _ _ _ h (by rw [List.size_toArray, List.size_toArray, length_bv, length_bv, hr]) (bv_one r)
theorem RowB.setRow (h : RowB w ty p l) {r : List UInt8} : RowB (w.setRow p (bv r).toArray) ty p r := setRow_heap w p _ _ _ _ h
set_option maxRecDepth 100000 in
theorem info32b : (Try.prog.info? 29).map (·.size) = some 32 := by kernel_rfl
theorem RowB.load32 (h : RowB w 29 p l) (hl : l.length = 32) : (loadVar 29 ⟨p, 0, none⟩).run Try.prog w = .ok (.agg (bv l).toArray) w :=
  run_loadVar_mid w p 0 _ (bv l) _ (blk_range h) Try.underlying29 rfl (by rw [length_bv, hl]; exact info32b)
end
set_option maxRecDepth 100000 in
theorem zero32b : ∀ w : World, (zeroValue 29).run Try.prog w = .ok (.agg (bv (zs 32)).toArray) w := fun _ => by kernel_rfl
set_option maxRecDepth 100000 in
theorem info_hash : (Try.prog.info? 39).map (·.size) = some 73 := by kernel_rfl
theorem hc_rest (st : List Int) (op : List UInt8) (ct : Nat) (rest : List Value) : hc st op ct rest = hc st op ct [] ++ rest := by simp [hc]
theorem hc_one (st : List Int) (op : List UInt8) (ct : Nat) : ∀ u ∈ hc st op ct [], u.oneCell' = true := by
  intro u hu
  unfold hc at hu
  rcases List.mem_append.1 hu with h | h
  · exact wv_one _ u h
  · rcases List.mem_append.1 h with h | h
    · exact bv_one _ u h
    · rw [List.mem_singleton.1 h]
      rfl
set_option maxRecDepth 100000 in
theorem index8 (w : World) (Y : Array Value) (k : Nat) (v : Value) (hk : k < 8) (h : Y[k]? = some v) : (Instr.index 36 (.agg Y) (.int .i64 (k : Int))).run Try.prog w = .ok v w := by
  have h0 : (Try.prog.info? 35).map (·.size) = some 1 := by kernel_rfl
  obtain ⟨i, hi, hz⟩ := Option.map_eq_some_iff.1 h0
  simp [Instr.index, run_underlying Try.underlying36, asIntOf, hk, part, isAgg, run_underlying Try.underlying35, sizeOf, typeInfo, hi, hz, h]
theorem outW_step (s : List Int) (k : Nat) (hk : k < 8) : ((((outW s k ++ zs (32 - 4 * k)).set (4 * k) (pc (it s k).toNat 3)).set (4 * k + 1) (pc (it s k).toNat 2)).set (4 * k + 2) (pc (it s k).toNat 1)).set (4 * k + 3) (pc (it s k).toNat 0) = outW s (k + 1) ++ zs (32 - 4 * (k + 1)) := by
  obtain ⟨m, hm⟩ : ∃ m, 32 - 4 * k = m + 4 := ⟨28 - 4 * k, by omega⟩
  have hl := length_outW s k
  have e : zs (m + 4) = 0 :: 0 :: 0 :: 0 :: zs m := rfl
  rw [hm, e, show 32 - 4 * (k + 1) = m by omega, outW]
  rw [List.set_append_right _ _ (by omega), List.set_append_right _ _ (by omega), List.set_append_right _ _ (by omega), List.set_append_right _ _ (by omega)]
  rw [hl, Nat.sub_self, show 4 * k + 1 - 4 * k = 1 by omega, show 4 * k + 2 - 4 * k = 2 by omega, show 4 * k + 3 - 4 * k = 3 by omega]
  simp [wordB]

set_option maxRecDepth 100000 in
set_option maxHeartbeats 4000000 in
theorem HashSum_any (ty : TypeId) (p : Nat) (rest : List Value) (l : List UInt8) (w : World) (hH : HashAt w ty p rest l) (hn : l.length ≤ 576460752303423488) :
    Calls Try.prog 45 #[.pointer (some ⟨p, 0, none⟩)] w (fun e w' => e = .returned (.agg (bv (sumB l)).toArray) ∧ Below w.heap.size w w') := by
  obtain ⟨st, op, hblk, hrep⟩ := hH
  have hlt : p < w.heap.size := (Array.getElem?_eq_some_iff.1 hblk).1
  have HR := Lib.hid hrep
  have hzb := zero32b
  have hzh := zero_hash
  have hzbs : (bv (zs 32)).toArray.size = 32 := rfl
  have hzhs : hash0.toArray.size = 73 := rfl
  have hb1 := (Below.refl w.heap.size w).alloc (Nat.le_refl _) (.cells (bv (zs 32)).toArray 29)
  have hs1 : (w.alloc (.cells (bv (zs 32)).toArray 29)).heap.size = w.heap.size + 1 := by simp
  have hX : (hc st op l.length []).toArray.size = 73 := by rw [List.size_toArray, length_hc hrep.ls hrep.lo]; rfl
  have hst : (storeCells ⟨(w.alloc (.cells (bv (zs 32)).toArray 29)).heap.size, 0, none⟩ (hc st op l.length []).toArray.toList).run Try.prog ((w.alloc (.cells (bv (zs 32)).toArray 29)).alloc (.cells hash0.toArray 39)) = .ok () ((w.alloc (.cells (bv (zs 32)).toArray 29)).alloc (.cells (hc st op l.length []).toArray 39)) :=
    run_cells_new _ _ _ _ (by rw [hX, hzhs]) (hc_one st op l.length)
  rw [hs1] at hst
  have HRG := Lib.hid (show (w.alloc (.cells (bv (zs 32)).toArray 29)).rangeAt p 0 (hc st op l.length []) from range_head (b := rest) (by rw [← hc_rest]; exact (hb1.block p hlt).trans hblk))
  have hb2 := hb1.alloc (by rw [hs1]; omega) (.cells (hc st op l.length []).toArray 39)
  have hbp := (hb2.block p hlt).trans hblk
  have HR0 := Lib.hid ((RowB.new w 29 (zs 32)).below ((Below.refl (w.heap.size + 1) _).alloc (by rw [hs1]; exact Nat.le_refl _) (.cells (hc st op l.length []).toArray 39)) (Nat.lt_succ_self _))
  have hh0 : HashAt ((w.alloc (.cells (bv (zs 32)).toArray 29)).alloc (.cells (hc st op l.length []).toArray 39)) 39 (w.heap.size + 1) [] l := ⟨st, op, by have := heap_alloc_new (w.alloc (.cells (bv (zs 32)).toArray 29)) (.cells (hc st op l.length []).toArray 39); rw [hs1] at this; exact this, hrep⟩
  have HH0 := Lib.hid hh0
  have HB2 := Lib.hid hb2
  have hcnt : ((w.alloc (.cells (bv (zs 32)).toArray 29)).alloc (.cells (hc st op l.length []).toArray 39)).cell? ⟨p, 72, none⟩ = some (.int .i64 (l.length : Int)) := by rw [blk_cell hbp, List.getElem?_toArray]; exact hc_count hrep.ls hrep.lo _ _
  have hs2 : ((w.alloc (.cells (bv (zs 32)).toArray 29)).alloc (.cells (hc st op l.length []).toArray 39)).heap.size = w.heap.size + 2 := by simp
  have HI := Lib.hid (show (Try.prog.info? 39).map (·.size) = some (hc st op l.length []).length by rw [length_hc hrep.ls hrep.lo]; exact info_hash)
  obtain ⟨a, ha⟩ : ∃ a, l.length = a := ⟨_, rfl⟩
  have HA := Lib.hid ha
  rw [ha] at hn hX hst HRG hb2 hbp HR0 hh0 HH0 HB2 hcnt hs2 HI
  clear hb1 hs1 hb2 hbp hh0 hblk hrep ha
  generalize hzc : (bv (zs 32)).toArray = zc at *
  have HZC := Lib.hid hzc
  generalize hash0.toArray = zh at *
  have hze : ¬ zc = #[] := by intro h; rw [h] at hzbs; cases hzbs
  have hzf : ¬ zh = #[] := by intro h; rw [h] at hzhs; cases hzhs
  generalize hXX : (hc st op a []).toArray = X at *
  have HX := Lib.hid hXX
  have hXe : ¬ X = #[] := by intro h; rw [h] at hX; cases hX
  clear hzc hXX
  go_enter Try.func45, Try.ntmps45
  go_wp2_with (refine wl_load_mid (by rfl) _ (.tmp 8) rfl p 0 rfl (hc st op a []) _ HRG.out Try.underlying39 rfl HI.out ?_; rw [HX.out])
  clear hst hzhs hzh hzf hX hXe hzbs
  generalize (w.alloc (.cells zc 29)).alloc (.cells X 39) = w2 at *
  generalize hg : w.heap.size = g at *
  have HG := Lib.hid hg
  clear hg
  refine (padding_any a w2 (by omega)).mono ?_
  rintro e w3 ⟨g3, c3, rfl, ho, hb⟩
  have hz3 := hb.size
  have HH3 := Lib.hid (HH0.out.below hb (by omega))
  have HR3 := Lib.hid (HR0.out.below hb (by omega))
  have HB3 := Lib.hid (HB2.out.trans (hb.mono (by omega)))
  have HO3 := Lib.hid ho
  have HPL := Lib.hid (show 9 ≤ (shPad a).length ∧ (shPad a).length ≤ 72 by rw [length_shPad]; unfold padZ; omega)
  have hpc := own_cap ho
  clear ho hb HH0 HR0 HB2 hcnt
  have HFAR := Lib.hid (show ∀ w', w3.grownBy w' (some (g + 1)) → ∃ B, RB w' B (some ⟨g3, 0, none⟩) (shPad a).length (shPad a) from fun w' hg => ⟨_, RB.of_own (HO3.out.kept hg (far_own HO3.out (by omega)))⟩)
  have HFULL := Lib.hid (shPad_full a)
  obtain ⟨q, hq⟩ : ∃ q, shPad a = q := ⟨_, rfl⟩
  rw [hq] at HFAR HPL HO3 hpc HFULL ⊢
  have HQ := Lib.hid hq
  clear hq
  go_wp2_with fail
  refine (add_any 39 (g + 1) [] l (some ⟨g3, 0, none⟩) q.length c3 q w3 HH3.out HFAR.out hpc (by rw [HA.out]; have := HPL.out.2; omega)).mono ?_
  rintro e w4 ⟨rfl, hh, hg⟩
  have hz4 := hg.size
  have HH4 := Lib.hid hh
  have HR4 := Lib.hid (HR3.out.grown hg (by intro h; injection h with h; omega))
  have HB4 := Lib.hid (HB3.out.grown hg (by omega) (by intro x hx; injection hx with hx; omega))
  clear hh hg HH3 HR3 HB3 HO3 HFAR
  obtain ⟨st4, op4, hb4, hrep4⟩ := HH4.out
  have hst4 : st4 = shSumW l := by
    have hfl := HFULL.out
    have hp9 := HPL.out.1
    have e := hrep4.hs (by rw [List.length_append, HA.out]; omega)
    rw [e, ← HQ.out, ← HA.out]
    rfl
  have hl4 := hrep4.ls
  have HW4 := Lib.hid hrep4.ws
  have hbz := (Below.refl w4.heap.size w4).alloc (Nat.le_refl _) (.cells zc 29)
  have HRG4 := Lib.hid (show (w4.alloc (.cells zc 29)).rangeAt (g + 1) 0 (wv st4) from range_head ((hbz.block (g + 1) (by omega)).trans hb4))
  have HI4 := Lib.hid (show (Try.prog.info? 36).map (·.size) = some (wv st4).length by rw [length_wv, hl4]; exact info8)
  have HR5 := Lib.hid (HR4.out.below hbz (by omega))
  have HB5 := Lib.hid (HB4.out.trans (hbz.mono (by omega)))
  have hn5 := RowB.new w4 29 (zs 32)
  rw [HZC.out] at hn5
  have HN5 := Lib.hid hn5
  have hsz5 : (w4.alloc (.cells zc 29)).heap.size = w4.heap.size + 1 := by simp
  obtain ⟨Y, hY⟩ : ∃ Y, (wv st4).toArray = Y := ⟨_, rfl⟩
  have HY := Lib.hid hY
  have HL4 := Lib.hid hl4
  have HS4 := Lib.hid hst4
  clear hb4 hrep4 hst4 hl4 hbz hn5 hY HR4 HB4 HH4
  go_wp2_with (refine wl_load_mid (by rfl) _ (.tmp 17) rfl (g + 1) 0 rfl (wv st4) _ HRG4.out Try.underlying36 rfl HI4.out ?_; rw [HY.out])
  clear hzb hze HRG4
  generalize w4.alloc (.cells zc 29) = w5 at *
  generalize w4.heap.size = g4 at *
  go_loopw [5, 6, 19] (fun _ _ i wr => ∃ k : Nat, k ≤ 8 ∧ i = .int .i64 k ∧ RowB wr 29 g4 (outW st4 k ++ zs (32 - 4 * k)) ∧ RowB wr 29 g (zs 32) ∧ Below g w wr) (fun _ _ i _ => 8 - (intOf i).toNat)
  case atStart => exact ⟨0, by omega, rfl, HN5.out, HR5.out, HB5.out⟩
  case round =>
    obtain ⟨k, hk, rfl, r1, r0, hb⟩ := hrel
    have R1 := Lib.hid r1
    have R0 := Lib.hid r0
    have HBr := Lib.hid hb
    clear r1 r0 hb
    by_cases hlt : k < 8
    · have hlen : (outW st4 k ++ zs (32 - 4 * k)).length = 32 := by rw [List.length_append, length_outW, length_zs]; omega
      have HIX := Lib.hid (fun W : World => index8 W Y k (.int .u32 (it st4 k)) hlt (by rw [← HY.out, List.getElem?_toArray]; exact wv_at _ _ (by rw [HL4.out]; exact hlt)))
      have hix := HIX.out
      have c0 := R1.out.cell (k := 4 * k) (by rw [hlen]; omega)
      have c1 := R1.out.cell (k := 4 * k + 1) (by rw [hlen]; omega)
      have c2 := R1.out.cell (k := 4 * k + 2) (by rw [hlen]; omega)
      have c3 := R1.out.cell (k := 4 * k + 3) (by rw [hlen]; omega)
      have f0 := R1.out.free (4 * k)
      have f1 := R1.out.free (4 * k + 1)
      have f2 := R1.out.free (4 * k + 2)
      have f3 := R1.out.free (4 * k + 3)
      have hx1 := (HW4.out.at_ k).lo
      have hx2 := (HW4.out.at_ k).hi
      obtain ⟨x, hx⟩ := Int.eq_ofNat_of_zero_le hx1
      have HXX := Lib.hid hx
      have HSTEP := Lib.hid (outW_step st4 k hlt)
      rw [hx, Int.toNat_natCast] at HSTEP
      rw [hx] at hix hx2
      clear hx1 hx hlen
      generalize outW st4 k ++ zs (32 - 4 * k) = row at *
      have i0 : (4 : Int) * (k : Int) < 32 := by omega
      have i1 : (4 : Int) * (k : Int) + 1 < 32 := by omega
      have i2 : (4 : Int) * (k : Int) + 2 < 32 := by omega
      have i3 : (4 : Int) * (k : Int) + 3 < 32 := by omega
      have t0 : ((4 : Int) * (k : Int)).toNat = 4 * k := by omega
      have t1 : ((4 : Int) * (k : Int) + 1).toNat = 4 * k + 1 := by omega
      have t2 : ((4 : Int) * (k : Int) + 2).toNat = 4 * k + 2 := by omega
      have t3 : ((4 : Int) * (k : Int) + 3).toNat = 4 * k + 3 := by omega
      go_wp2_with fail
      have b3 : (x : Int) / 16777216 = ((pc x 3).toNat : Int) := by
        have := pc_nat x 3
        rw [show (256 : Nat) ^ 3 = 16777216 from rfl] at this
        omega
      have b2 : (x : Int) / 65536 % 256 = ((pc x 2).toNat : Int) := by
        have := pc_nat x 2
        rw [show (256 : Nat) ^ 2 = 65536 from rfl] at this
        omega
      have b1 : (x : Int) / 256 % 256 = ((pc x 1).toNat : Int) := by
        have := pc_nat x 1
        rw [show (256 : Nat) ^ 1 = 256 from rfl] at this
        omega
      have b0 : (x : Int) % 256 = ((pc x 0).toNat : Int) := by
        have := pc_nat x 0
        rw [show (256 : Nat) ^ 0 = 1 from rfl] at this
        omega
      rw [b3, b2, b1, b0]
      have hr := (((R1.out.set (4 * k) (pc x 3)).set (4 * k + 1) (pc x 2)).set (4 * k + 2) (pc x 1)).set (4 * k + 3) (pc x 0)
      rw [HSTEP.out] at hr
      refine ⟨⟨k + 1, by omega, by go_num, hr, ?_, (((HBr.out.setCell ?_ _).setCell ?_ _).setCell ?_ _).setCell ?_ _⟩, by simp [intOf]; omega⟩
      · refine R0.out.keep ?_
        rw [Below.heap_setCell _ _ _ g (by simp only; omega), Below.heap_setCell _ _ _ g (by simp only; omega), Below.heap_setCell _ _ _ g (by simp only; omega), Below.heap_setCell _ _ _ g (by simp only; omega)]
      · simp only; omega
      · simp only; omega
      · simp only; omega
      · simp only; omega
    · obtain rfl : k = 8 := by omega
      have HF := Lib.hid (show RowB wr 29 g4 (sumB l) by have := R1.out; rw [show 32 - 4 * 8 = 0 from rfl, show zs 0 = [] from rfl, List.append_nil, HS4.out] at this; exact this)
      have hst := R0.out.store (r := sumB l) (length_sumB l)
      have HF2 := Lib.hid ((R0.out.setRow (r := sumB l)).load32 (length_sumB l))
      have hxs : (bv (sumB l)).toArray.size = 32 := by rw [List.size_toArray, length_bv, length_sumB]
      have HI32 := Lib.hid (show (Try.prog.info? 29).map (·.size) = some (bv (sumB l)).length by rw [length_bv, length_sumB]; exact info32b)
      have HRG5 := Lib.hid (blk_range HF.out)
      generalize hZ : (bv (sumB l)).toArray = Z at *
      have HZ := Lib.hid hZ
      have hze : ¬ Z = #[] := by intro h; rw [h] at hxs; cases hxs
      clear hZ
      go_wp2_with (refine wl_load_mid (by rfl) _ (.tmp 4) rfl g4 0 rfl (bv (sumB l)) _ HRG5.out Try.underlying29 rfl HI32.out ?_; rw [HZ.out])
      (try simp only [Exit.inBlock, Exit.then])
      refine bodyPost_ret (v := .agg Z) (results_cellW rfl _ _ _ ⟨g, 0, none⟩ _ rfl HF2.out) rfl ?_
      exact ⟨by rw [HZ.out], by rw [HG.out]; exact below_setRow HBr.out (Nat.le_refl _) _⟩
end Go.Proofs.Ytkaakgabhhkggaa
