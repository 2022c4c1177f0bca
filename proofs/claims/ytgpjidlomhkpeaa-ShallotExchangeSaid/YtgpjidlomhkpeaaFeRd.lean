/-
  Contract of field.Read. Conditions: the slice reads as bytes.
-/
import Derived.Test.YtgpjidlomhkpeaaFeH
import Derived.Test.YtgpjidlomhkpeaaFeP
import Derived.Laws.Bits64b
namespace Go.Proofs.Ytgpjidlomhkpeaa
open Go Go.RowKit Go.Sh

set_option maxHeartbeats 4000000 in
set_option maxRecDepth 100000 in
theorem Read_any (A : Option Addr) (c : Nat) (l : List UInt8) (w : World) (hr : RB w w.heap.size A 32 l) :
    Calls Try.prog 7 #[.slice A 32 c] w fun e w' => e = .returned (.tuple #[el (le l % 57896044618658097711785492504343953926634992332820282019728792003956564819968 % pF), .int .i64 0]) ∧ Below w.heap.size w w' := by
  obtain ⟨ad, rfl, hadb, _⟩ := hr.at_ (k := 0) (by omega)
  have HR := Lib.hid hr
  have HLN := Lib.hid hr.len
  obtain ⟨hs2, hx2, hz2, hb2⟩ := newTwo w (.cells #[.int .u64 0, .int .u64 0, .int .u64 0, .int .u64 0] 33) (.cells #[.int .u64 0, .int .u64 0, .int .u64 0, .int .u64 0] 33)
  have HX := Lib.hid (show Blk4 _ w.heap.size _ from ⟨rfl, hx2⟩)
  have HZ := Lib.hid (show RowU _ 33 (w.heap.size + 1) (ws 4 0) from hz2)
  have HB := Lib.hid hb2
  clear hx2 hz2 hb2 hr
  have HN := Lib.hid (Norm_any (le l % 57896044618658097711785492504343953926634992332820282019728792003956564819968) (by omega))
  rw [el_is] at HN
  obtain ⟨u, hu⟩ : ∃ u, le l % 57896044618658097711785492504343953926634992332820282019728792003956564819968 = u := ⟨_, rfl⟩
  rw [hu] at HN ⊢
  obtain ⟨F, hF⟩ : ∃ F, u % pF = F := ⟨_, rfl⟩
  rw [hF] at HN ⊢
  have HU := Lib.hid hu
  have HE := Lib.hid (el_is F)
  rw [el_is F]
  clear hu hF
  go_enter Try.func7, Try.ntmps7
  go_wp2_with fail
  generalize (w.alloc (.cells #[.int .u64 0, .int .u64 0, .int .u64 0, .int .u64 0] 33)).alloc (.cells #[.int .u64 0, .int .u64 0, .int .u64 0, .int .u64 0] 33) = w2 at *
  go_loopw [13, 5, 6] (fun i _ _ wr => ∃ m : Nat, m ≤ 32 ∧ i = .int .i64 (m : Int) ∧ RowU wr 33 (w.heap.size + 1) (ws 4 (le (l.take m))) ∧ Blk4 wr w.heap.size #[.int .u64 0, .int .u64 0, .int .u64 0, .int .u64 0] ∧ Below w.heap.size w wr) (fun i _ _ _ => 32 - (intOf i).toNat)
  case' atStart => exact ⟨0, by omega, rfl, HZ.out, HX.out, HB.out⟩
  case' round =>
    obtain ⟨m, hm, rfl, ht, hx, hbr⟩ := hrel
    by_cases hlt : m < 32
    · obtain ⟨ad', he, _, hc⟩ := (HR.out.below hbr).at_ hlt
      obtain rfl : ad' = ad := (Option.some.inj he).symm
      have hbyte : bt l m = ((l.getD m 0).toNat : Int) := rfl
      have hx256 : (l.getD m 0).toNat < 256 := UInt8.toNat_lt _
      rw [hbyte] at hc
      obtain ⟨x, hxx⟩ : ∃ x, (l.getD m 0).toNat = x := ⟨_, rfl⟩
      rw [hxx] at hc hx256
      have HXX := Lib.hid hxx
      have HT := Lib.hid ht
      have HX1 := Lib.hid hx
      have HB1 := Lib.hid hbr
      have hq : m / 8 < 4 := by omega
      have hcw := ht.cell (k := m / 8) (by rw [length_ws]; exact hq)
      have hfw := ht.free (m / 8)
      clear he hbyte hxx ht hx hbr
      have hle : le (l.take m) < 256 ^ m := by
        have := le_lt (l.take m)
        rwa [List.length_take, HLN.out, Nat.min_eq_left hm] at this
      have hval : bits .or .u64 ((nt (ws 4 (le (l.take m))) (m / 8) : Nat) : Int) (IntKind.u64.wrap ((x : Int) * 2 ^ (8 * (m % 8)))) = ((nt (ws 4 (le (l.take m))) (m / 8) + x * 256 ^ (m % 8) : Nat) : Int) := by
        have hw := word_top hlt hle
        have hf := shl_fits (r := m % 8) hx256 (Nat.mod_lt _ (by decide))
        have e : (x : Int) * 2 ^ (8 * (m % 8)) = ((x * 256 ^ (m % 8) : Nat) : Int) := by rw [pow256]; simp
        have e2 : IntKind.u64.wrap ((x * 256 ^ (m % 8) : Nat) : Int) = ((x * 256 ^ (m % 8) : Nat) : Int) := by
          rw [IntKind.wrap_u64]; omega
        rw [e, e2, bits_or_u64_nat _ _ (nt_lt (AllB.ws _ _) _) hf, or_shl hw]
      have hnew : (ws 4 (le (l.take m))).set (m / 8) (nt (ws 4 (le (l.take m))) (m / 8) + x * 256 ^ (m % 8)) = ws 4 (le (l.take (m + 1))) := by
        rw [ws_byte hlt hle hx256]
        have ht : l.take (m + 1) = l.take m ++ [l.getD m 0] := by
          rw [List.take_add_one, List.getD_eq_getElem?_getD, List.getElem?_eq_getElem (by rw [HLN.out]; exact hlt)]; rfl
        rw [ht, le_snoc, List.length_take, HLN.out, Nat.min_eq_left hm, HXX.out]
      have hs := HT.out.set (m / 8) (nt (ws 4 (le (l.take m))) (m / 8) + x * 256 ^ (m % 8))
      rw [hnew] at hs
      have HS := Lib.hid hs
      have HV := Lib.hid hval
      have HXB := Lib.hid (show Blk4 (wr.setCell ⟨w.heap.size + 1, m / 8, none⟩ (.int .u64 ((nt (ws 4 (le (l.take m))) (m / 8) + x * 256 ^ (m % 8) : Nat) : Int))) w.heap.size _ from ⟨HX1.out.1, (Below.heap_setCell wr ⟨w.heap.size + 1, m / 8, none⟩ _ w.heap.size (show w.heap.size ≠ w.heap.size + 1 by omega)).trans HX1.out.2⟩)
      have HBB := Lib.hid (HB1.out.setCell (p := ⟨w.heap.size + 1, m / 8, none⟩) (show w.heap.size ≤ w.heap.size + 1 by omega) (.int .u64 ((nt (ws 4 (le (l.take m))) (m / 8) + x * 256 ^ (m % 8) : Nat) : Int)))
      clear hle hval hnew hs
      go_wp2_with fail
      rw [HV.out]
      exact ⟨⟨m + 1, by omega, by go_num, HS.out, HXB.out, HBB.out⟩, by simp [intOf]; omega⟩
    · obtain rfl : m = 32 := by omega
      rw [List.take_of_length_le (by rw [HLN.out]; exact Nat.le_refl _)] at ht
      have hcw := ht.cell (k := 3) (by rw [length_ws]; decide)
      have hfw := ht.free 3
      have HT := Lib.hid ht
      have HX1 := Lib.hid hx
      have HB1 := Lib.hid hbr
      have hV : le l < 115792089237316195423570985008687907853269984665640564039457584007913129639936 := by
        have := le_lt l
        rwa [HLN.out, show (256 : Nat) ^ 32 = 115792089237316195423570985008687907853269984665640564039457584007913129639936 by decide] at this
      have hW := nt_lt (AllB.ws 4 (le l)) 3
      have HV := Lib.hid (show bits .and .u64 ((nt (ws 4 (le l)) 3 : Nat) : Int) 9223372036854775807 = ((nt (ws 4 (le l)) 3 % 9223372036854775808 : Nat) : Int) by
        have := bits_and_u64_nat (nt (ws 4 (le l)) 3) 9223372036854775807 hW (by decide)
        rw [and_drop] at this
        exact this)
      have hs := ht.set 3 (nt (ws 4 (le l)) 3 % 9223372036854775808)
      rw [ws_drop hV] at hs
      have HS := Lib.hid (show Blk4 _ (w.heap.size + 1) (elc (le l % 57896044618658097711785492504343953926634992332820282019728792003956564819968)) from ⟨rfl, hs⟩)
      have HXB := Lib.hid (show Blk4 (wr.setCell ⟨w.heap.size + 1, 3, none⟩ (.int .u64 ((nt (ws 4 (le l)) 3 % 9223372036854775808 : Nat) : Int))) w.heap.size _ from ⟨hx.1, (Below.heap_setCell wr ⟨w.heap.size + 1, 3, none⟩ _ w.heap.size (show w.heap.size ≠ w.heap.size + 1 by omega)).trans hx.2⟩)
      have HBB := Lib.hid (hbr.setCell (p := ⟨w.heap.size + 1, 3, none⟩) (show w.heap.size ≤ w.heap.size + 1 by omega) (.int .u64 ((nt (ws 4 (le l)) 3 % 9223372036854775808 : Nat) : Int)))
      rw [HU.out] at HS
      clear ht hx hbr hs hV hW
      generalize nt (ws 4 (le l)) 3 % 9223372036854775808 = t at *
      have hus := elc_size u
      have hue : ¬ elc u = #[] := by intro h; rw [h] at hus; cases hus
      generalize elc u = uc at *
      go_wp2_with (rw [HV.out]; refine wl_load4 (.tmp 4) HS.out (by rfl) (by rfl) (by rfl) ?_)
      generalize wr.setCell ⟨w.heap.size + 1, 3, none⟩ (.int .u64 (t : Int)) = w5 at *
      refine (HN.out w5).mono ?_
      rintro e w6 ⟨rfl, hb6⟩
      have HX6 := Lib.hid (HXB.out.below hb6 HXB.out.lt)
      have HB6 := Lib.hid (HBB.out.trans (hb6.mono HBB.out.size))
      have hYs := elc_size F
      have hYo := elc_one F
      clear hb6
      have HRS := Lib.hid ((HX6.out.set (Y := elc F) hYs).load)
      have HBS := Lib.hid (below_setRow HB6.out (Nat.le_refl w.heap.size) (elc F))
      go_wp2_with (refine wl_store4 (.tmp 2) (.tmp 37) HX6.out (by rfl) (by rfl) (by rfl) (Y := elc F) (by rfl) hYs hYo ?_)
      (try simp only [Exit.inBlock, Exit.then])
      refine bodyPost_ret (v := .tuple #[.agg (elc F), .int .i64 0]) (results_cellU2 rfl _ _ _ ⟨w.heap.size, 0, none⟩ _ _ rfl rfl HRS.out) rfl ?_
      exact ⟨rfl, HBS.out⟩
set_option maxHeartbeats 4000000 in
set_option maxRecDepth 100000 in
/-- a wrong length -/
theorem ReadBad_any (A : Option Addr) (n c : Nat) (w : World) (hn : n ≠ 32) :
    Calls Try.prog 7 #[.slice A n c] w fun e w' => e = .returned (.tuple #[el 0, .int .i64 2]) ∧ Below w.heap.size w w' := by
  have hx := heap_alloc_new w (.cells #[.int .u64 0, .int .u64 0, .int .u64 0, .int .u64 0] 33)
  have hb := (Below.refl w.heap.size w).alloc (Nat.le_refl _) (.cells #[.int .u64 0, .int .u64 0, .int .u64 0, .int .u64 0] 33)
  have HX := Lib.hid (show Blk4 _ w.heap.size (elc 0) from ⟨rfl, hx⟩)
  have HRS := Lib.hid ((HX.out.set (Y := elc 0) (elc_size 0)).load)
  have HBS := Lib.hid (below_setRow hb (Nat.le_refl w.heap.size) (elc 0))
  have n32 : ((n : Int) != 32) = true := by simp only [bne_iff_ne, ne_eq]; omega
  clear hx hb hn
  go_enter Try.func7, Try.ntmps7
  go_wp2_with (refine wl_store4 (.tmp 2) (.tmp 10) HX.out (by rfl) (by rfl) (by rfl) (Y := elc 0) (by rfl) (elc_size 0) (elc_one 0) ?_)
  (try simp only [Exit.inBlock, Exit.then])
  refine bodyPost_ret (v := .tuple #[.agg (elc 0), .int .i64 2]) (results_cellU2 rfl _ _ _ ⟨w.heap.size, 0, none⟩ _ _ rfl rfl HRS.out) rfl ?_
  exact ⟨rfl, HBS.out⟩
end Go.Proofs.Ytgpjidlomhkpeaa
