/-
  Contract of field.Power. Conditions: the number fits; the exponent's bytes are there.
-/
import Derived.Test.YtgpjidlomhkpeaaFeE
import Derived.Test.YtgpjidlomhkpeaaLists
namespace Go.Proofs.Ytgpjidlomhkpeaa
open Go Go.RowKit Go.Sh

/-- the number of bytes, the least first -/
def lev : List UInt8 → Nat
  | [] => 0
  | x :: l => x.toNat + 256 * lev l
theorem lev_drop (l : List UInt8) {k : Nat} (h : k < l.length) : lev (l.drop k) = (l.getD k 0).toNat + 256 * lev (l.drop (k + 1)) := by
  rw [List.drop_eq_getElem_cons h, lev, List.getD_eq_getElem?_getD, List.getElem?_eq_getElem h, Option.getD_some]
theorem pow_sq (v e : Nat) : (v ^ e % pF) * (v ^ e % pF) % pF = v ^ (2 * e) % pF := by
  rw [← Nat.mul_mod, ← Nat.pow_add]; congr 2; omega
theorem pow_sq1 (v e : Nat) : (v ^ (2 * e) % pF) * v % pF = v ^ (2 * e + 1) % pF := by
  rw [Nat.mod_mul_mod, Nat.pow_succ]
set_option maxRecDepth 100000 in
theorem and1_u8 : ∀ y : Nat, y < 256 → bits .and .u8 (y : Int) 1 = ((y % 2 : Nat) : Int) := by decide
/-- the exponent when the bits from b on are read -/
def exb (R x b : Nat) : Nat := R * 2 ^ (8 - b) + x / 2 ^ b
set_option maxRecDepth 100000 in
theorem exb_8 (R x : Nat) (h : x < 256) : exb R x 8 = R := by
  unfold exb
  rw [Nat.div_eq_of_lt (by simpa using h)]; simp
theorem exb_0 (R x : Nat) : exb R x 0 = x + 256 * R := by unfold exb; simp; omega
theorem exb_step (R x b : Nat) (h : b < 8) : exb R x b = 2 * exb R x (b + 1) + x / 2 ^ b % 2 := by
  unfold exb
  have e1 : R * 2 ^ (8 - b) = 2 * (R * 2 ^ (8 - (b + 1))) := by
    rw [show 8 - b = 8 - (b + 1) + 1 by omega, Nat.pow_succ, ← Nat.mul_assoc, Nat.mul_comm]
  have e2 : x / 2 ^ (b + 1) = x / 2 ^ b / 2 := by rw [Nat.pow_succ, Nat.div_div_eq_div_mul]
  rw [e1, e2]
  omega
set_option maxHeartbeats 8000000 in
set_option maxRecDepth 100000 in
theorem Power_any (v : Nat) (hv : F4 v) (A : Option Addr) (n c : Nat) (l : List UInt8) (w : World) (hr : RB w w.heap.size A n l) (hn : n ≤ 1000) :
    Calls Try.prog 29 #[el v, .slice A n c] w fun e w' => e = .returned (el (v ^ lev l % pF)) ∧ Below w.heap.size w w' := by
  have HR := Lib.hid hr
  have HLN := Lib.hid hr.len
  have HSQ := Lib.hid (fun e => Square_any (v ^ e % pF) (F4.mod _))
  have HMU := Lib.hid (fun e => multiply_any (v ^ (2 * e) % pF) v (F4.mod _) hv)
  have HOF := Lib.hid (Of_any 1 (by decide))
  rw [el_is v] at HMU ⊢
  obtain ⟨hs2, hx2, hz2, hb2⟩ := newTwo w (.cells (elc v) 33) (.cells #[.int .u64 0, .int .u64 0, .int .u64 0, .int .u64 0] 33)
  have HX := Lib.hid (show Blk4 _ w.heap.size (elc v) from ⟨rfl, hx2⟩)
  have HZ := Lib.hid (show Blk4 _ (w.heap.size + 1) _ from ⟨rfl, hz2⟩)
  have HB := Lib.hid hb2
  have hxs := elc_size v
  have hxe : ¬ elc v = #[] := by intro h; rw [h] at hxs; cases hxs
  clear hx2 hz2 hb2 hr
  generalize elc v = xc at *
  go_enter Try.func29, Try.ntmps29
  go_wp2_with fail
  generalize (w.alloc (.cells xc 33)).alloc (.cells #[.int .u64 0, .int .u64 0, .int .u64 0, .int .u64 0] 33) = w2 at *
  refine (HOF.out w2).mono ?_
  rintro e w3 ⟨rfl, hb3⟩
  rw [hs2] at hb3
  have hs3 := hb3.size
  have hba := (Below.refl w3.heap.size w3).alloc (Nat.le_refl _) (.cells #[.int .u64 0, .int .u64 0, .int .u64 0, .int .u64 0] 33)
  have HT := Lib.hid (Blk4.new w3 (X := #[.int .u64 0, .int .u64 0, .int .u64 0, .int .u64 0]) rfl)
  have h1s := elc_size 1
  have h1o := elc_one 1
  have HT4 := Lib.hid (HT.out.set (Y := elc 1) h1s)
  have HX4 := Lib.hid (((HX.out.below hb3 (by omega)).below hba (by omega)).far (show w.heap.size ≠ w3.heap.size by omega) (elc 1))
  have HZ4 := Lib.hid (((HZ.out.below hb3 (by omega)).below hba (by omega)).far (show w.heap.size + 1 ≠ w3.heap.size by omega) (elc 1))
  have HB4 := Lib.hid (below_setRow ((HB.out.trans (hb3.mono (by omega))).trans (hba.mono (by omega))) (show w.heap.size ≤ w3.heap.size by omega) (elc 1))
  rw [el_is 1]
  clear hb3 hba hxs hxe
  have h1e : ¬ elc 1 = #[] := by intro h; rw [h] at h1s; cases h1s
  have hwn : IntKind.i64.wrap ((n : Int) - 1) = (n : Int) - 1 := by rw [IntKind.wrap_i64]; omega
  generalize h1c : elc 1 = oc at *
  have H1C := Lib.hid h1c
  clear h1c
  go_wp2_with (refine wl_store4 (.tmp 5) (.tmp 8) HT.out (by rfl) (by rfl) (by rfl) (Y := oc) (by rfl) h1s h1o ?_)
  generalize (w3.alloc (.cells #[.int .u64 0, .int .u64 0, .int .u64 0, .int .u64 0] 33)).setRow w3.heap.size oc = w4 at *
  obtain ⟨p, hp⟩ : ∃ p, w3.heap.size = p := ⟨_, rfl⟩
  rw [hp] at HT4 hs3 ⊢
  clear hp HT h1e h1s h1o
  obtain ⟨g, hg⟩ : ∃ g, w.heap.size = g := ⟨_, rfl⟩
  rw [hg] at HX4 HZ4 HB4 HR hs2 ⊢
  have HG := Lib.hid hg
  clear hg
  rw [hs2] at hs3
  clear HX HZ HB hs2
  go_loopw [6] (fun i wr => ∃ m : Nat, m ≤ n ∧ i = .int .i64 ((m : Int) - 1) ∧ Blk4 wr p (elc (v ^ lev (l.drop m) % pF)) ∧ Blk4 wr g xc ∧ Blk4 wr (g + 1) #[.int .u64 0, .int .u64 0, .int .u64 0, .int .u64 0] ∧ Below g w wr) (fun i _ => (intOf i + 1).toNat)
  case' atStart => exact ⟨n, Nat.le_refl _, rfl, by rw [List.drop_eq_nil_of_le (by rw [HLN.out]; exact Nat.le_refl _)]; simp only [lev, Nat.pow_zero]; rw [show 1 % pF = 1 by decide, H1C.out]; exact HT4.out, HX4.out, HZ4.out, HB4.out⟩
  case' round =>
    obtain ⟨m, hm, rfl, ht, hx, hz, hbr⟩ := hrel
    by_cases hlt : 0 < m
    · obtain ⟨k, rfl⟩ : ∃ k, m = k + 1 := ⟨m - 1, by omega⟩
      have hk0 : 0 ≤ ((k + 1 : Nat) : Int) - 1 := by omega
      have hki : ((k + 1 : Nat) : Int) - 1 = (k : Int) := by omega
      have HT5 := Lib.hid ht
      have HX5 := Lib.hid hx
      have HZ5 := Lib.hid hz
      have HB5 := Lib.hid hbr
      clear ht hx hz hbr
      rw [hki]
      have hk00 : 0 ≤ (k : Int) := by omega
      go_wp2_with fail
      obtain ⟨wq, hwq⟩ : ∃ wq, wr = wq := ⟨_, rfl⟩
      rw [hwq] at HT5 HX5 HZ5 HB5 ⊢
      clear hwq wr
      obtain ⟨R, hR⟩ : ∃ R, lev (l.drop (k + 1)) = R := ⟨_, rfl⟩
      obtain ⟨x, hx⟩ : ∃ x, (l.getD k 0).toNat = x := ⟨_, rfl⟩
      have hx256 : x < 256 := by rw [← hx]; exact UInt8.toNat_lt _
      have HXX := Lib.hid hx
      have HLV := Lib.hid (show lev (l.drop k) = exb R x 0 by rw [lev_drop l (by rw [HLN.out]; omega), hR, hx, exb_0])
      rw [hR, ← exb_8 R x hx256] at HT5
      clear hR hx
      go_loopw [7] (fun i wr => ∃ b : Nat, b ≤ 8 ∧ i = .int .i64 ((b : Int) - 1) ∧ Blk4 wr p (elc (v ^ exb R x b % pF)) ∧ Blk4 wr g xc ∧ Blk4 wr (g + 1) #[.int .u64 0, .int .u64 0, .int .u64 0, .int .u64 0] ∧ Below g w wr) (fun i _ => (intOf i + 1).toNat)
      case' atStart => exact ⟨8, by omega, rfl, HT5.out, HX5.out, HZ5.out, HB5.out⟩
      case' round =>
        obtain ⟨b, hb, rfl, ht, hx, hz, hbr⟩ := hrel
        by_cases hlb : 0 < b
        · obtain ⟨j, rfl⟩ : ∃ j, b = j + 1 := ⟨b - 1, by omega⟩
          have hji : ((j + 1 : Nat) : Int) - 1 = (j : Int) := by omega
          have hj00 : 0 ≤ (j : Int) := by omega
          have hps := ht.lt
          have HT6 := Lib.hid ht
          have HX6 := Lib.hid hx
          have HZ6 := Lib.hid hz
          have HB6 := Lib.hid hbr
          have HSX := Lib.hid (HSQ.out (exb R x (j + 1)))
          rw [pow_sq, el_is] at HSX
          clear ht hx hz hbr
          rw [hji]
          go_wp2_with (refine wl_load4 (.tmp 5) HT6.out (by rfl) (by rfl) (by rfl) ?_)
          refine (HSX.out wr).mono ?_
          rintro e w6 ⟨rfl, hb6⟩
          have hs6 := hb6.size
          have HT7 := Lib.hid (HT6.out.below hb6 (by omega))
          have HX7 := Lib.hid (HX6.out.below hb6 (by have := HX6.out.lt; omega))
          have HZ7 := Lib.hid (HZ6.out.below hb6 (by have := HZ6.out.lt; omega))
          have HB7 := Lib.hid (HB6.out.trans (hb6.mono (by omega)))
          obtain ⟨y, hy⟩ : ∃ y, v ^ (2 * exb R x (j + 1)) % pF = y := ⟨_, rfl⟩
          rw [hy, el_is y]
          have hys := elc_size y
          have hyo := elc_one y
          have HT8 := Lib.hid (HT7.out.set (Y := elc y) hys)
          have HX8 := Lib.hid (HX7.out.far (show g ≠ p by omega) (elc y))
          have HZ8 := Lib.hid (HZ7.out.far (show g + 1 ≠ p by omega) (elc y))
          have HB8 := Lib.hid (below_setRow HB7.out (show g ≤ p by omega) (elc y))
          have HRr := Lib.hid ((HR.out.below HB8.out))
          obtain ⟨ad, rfl, _, c0⟩ := HRr.out.at_ (k := k) (by omega)
          have hbt : bt l k / 2 ^ j = ((x / 2 ^ j : Nat) : Int) := by
            rw [show bt l k = (x : Int) from by unfold bt; rw [HXX.out]]; simp
          have hxj : x / 2 ^ j < 256 := Nat.lt_of_le_of_lt (Nat.div_le_self _ _) hx256
          have hand := and1_u8 (x / 2 ^ j) hxj
          rw [← hbt] at hand
          have HST := Lib.hid (exb_step R x j (by omega))
          have hHY := Lib.hid hy
          have HMX := Lib.hid (HMU.out (exb R x (j + 1)))
          rw [pow_sq1, hy, el_is y] at HMX
          have hye : ¬ elc y = #[] := by intro h; rw [h] at hys; cases hys
          clear hb6 hbt hy
          obtain ⟨t, ht2⟩ : ∃ t, x / 2 ^ j % 2 = t := ⟨_, rfl⟩
          rw [ht2] at hand HST
          have ht1 : t = 0 ∨ t = 1 := by omega
          clear ht2
          rcases ht1 with ht1 | ht1
          · have hb1 : (bits BinOp.and IntKind.u8 (bt l k / 2 ^ j) 1 == 1) = false := by rw [hand, ht1]; rfl
            have HEX := Lib.hid (show v ^ exb R x j % pF = y by rw [HST.out, ht1, Nat.add_zero]; exact hHY.out)
            clear hand ht1
            go_wp2_with (refine wl_store4 (.tmp 5) (.tmp 21) HT7.out (by rfl) (by rfl) (by rfl) (Y := elc y) (by rfl) hys hyo ?_)
            exact ⟨⟨j, by omega, by go_num, by rw [HEX.out]; exact HT8.out, HX8.out, HZ8.out, HB8.out⟩, by simp [intOf]⟩
          · have hb1 : (bits BinOp.and IntKind.u8 (bt l k / 2 ^ j) 1 == 1) = true := by rw [hand, ht1]; rfl
            rw [ht1] at HST
            clear hand ht1
            go_wp2_with (first | (refine wl_store4 (.tmp 5) (.tmp 21) HT7.out (by rfl) (by rfl) (by rfl) (Y := elc y) (by rfl) hys hyo ?_) | (refine wl_load4 (.tmp 5) HT8.out (by rfl) (by rfl) (by rfl) ?_) | (refine wl_load4 (.tmp 2) HX8.out (by rfl) (by rfl) (by rfl) ?_))
            have hs7 : (w6.setRow p (elc y)).heap.size = w6.heap.size := size_setRow _ _ _
            generalize w6.setRow p (elc y) = w7 at *
            refine (HMX.out w7).mono ?_
            rintro e w8 ⟨rfl, hb8⟩
            have HT9 := Lib.hid (HT8.out.below hb8 (by omega))
            have HX9 := Lib.hid (HX8.out.below hb8 HX8.out.lt)
            have HZ9 := Lib.hid (HZ8.out.below hb8 HZ8.out.lt)
            have HB9 := Lib.hid (HB8.out.trans (hb8.mono (by omega)))
            rw [← HST.out, el_is]
            have hms := elc_size (v ^ exb R x j % pF)
            have hmo := elc_one (v ^ exb R x j % pF)
            have HT10 := Lib.hid (HT9.out.set (Y := elc (v ^ exb R x j % pF)) hms)
            have HX10 := Lib.hid (HX9.out.far (show g ≠ p by omega) (elc (v ^ exb R x j % pF)))
            have HZ10 := Lib.hid (HZ9.out.far (show g + 1 ≠ p by omega) (elc (v ^ exb R x j % pF)))
            have HB10 := Lib.hid (below_setRow HB9.out (show g ≤ p by omega) (elc (v ^ exb R x j % pF)))
            clear hb8
            go_wp2_with (refine wl_store4 (.tmp 5) (.tmp 33) HT9.out (by rfl) (by rfl) (by rfl) (Y := elc (v ^ exb R x j % pF)) (by rfl) hms hmo ?_)
            exact ⟨⟨j, by omega, by go_num, HT10.out, HX10.out, HZ10.out, HB10.out⟩, by simp [intOf]⟩
        · obtain rfl : b = 0 := by omega
          have HT6 := Lib.hid ht
          have HX6 := Lib.hid hx
          have HZ6 := Lib.hid hz
          have HB6 := Lib.hid hbr
          clear ht hx hz hbr HT5 HX5 HZ5 HB5
          go_wp2_with fail
          exact ⟨⟨k, by omega, by go_num, by rw [HLV.out]; exact HT6.out, HX6.out, HZ6.out, HB6.out⟩, by simp [intOf]⟩
    · obtain rfl : m = 0 := by omega
      have HTF := Lib.hid ht
      have HZF := Lib.hid hz
      have hYs := elc_size (v ^ lev l % pF)
      have hYo := elc_one (v ^ lev l % pF)
      have HE := Lib.hid (el_is (v ^ lev l % pF))
      rw [List.drop_zero] at HTF
      generalize elc (v ^ lev l % pF) = Y at *
      have HRS := Lib.hid ((hz.set (Y := Y) hYs).load)
      have HBS := Lib.hid (below_setRow hbr (show g ≤ g + 1 by omega) Y)
      clear ht hz hx hbr
      go_wp2_with (first | (refine wl_load4 (.tmp 5) HTF.out (by rfl) (by rfl) (by rfl) ?_) | (refine wl_store4 (.tmp 4) (.tmp 34) HZF.out (by rfl) (by rfl) (by rfl) (Y := Y) (by rfl) hYs hYo ?_))
      (try simp only [Exit.inBlock, Exit.then])
      refine bodyPost_ret (v := .agg Y) (results_cellU rfl _ _ _ ⟨g + 1, 0, none⟩ _ rfl HRS.out) rfl ?_
      exact ⟨by rw [HE.out], by rw [HG.out]; exact HBS.out⟩
end Go.Proofs.Ytgpjidlomhkpeaa
