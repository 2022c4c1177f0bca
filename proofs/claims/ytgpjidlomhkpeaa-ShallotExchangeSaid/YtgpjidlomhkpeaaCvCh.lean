/-
  Contracts of curve.Chain and curve.Low. Conditions: the scalars have 32 bytes.
-/
import Derived.Test.YtgpjidlomhkpeaaCvLaw
namespace Go.Proofs.Ytgpjidlomhkpeaa
open Go Go.RowKit Go.Sh

theorem Arr.rb {w : World} {p B : Nat} {l : List UInt8} (h : Arr w p l) (hp : p < B) : RB w B (some ⟨p, 0, none⟩) 32 l := by
  refine ⟨by rw [length_bv, h.1], .inr ⟨_, rfl, hp, fun j hj => ?_⟩⟩
  rw [add_mk, cell_of_row w p (0 + j) (bv l).toArray _ (0, 0) h.2]
  simp
/-- what a chain answers -/
def chV : Option Nat → Value
  | none => .tuple #[arr z32, .int .i64 5]
  | some x => .tuple #[arr (toLe 32 x), .int .i64 0]
/-- Mult, its point a number below 2^255 - 19 -/
theorem Mult_N (A : Option Addr) (c d p x : Nat) (k : List UInt8) (w : World) (hx : x < pF) (hk : RB w w.heap.size A 32 k) (hu : Arr w p (toLe 32 x)) :
    Calls Try.prog 11 #[.slice A 32 c, .slice (some ⟨p, 0, none⟩) 32 d] w fun e w' => (sc k x = 0 → e = .returned (.tuple #[arr z32, .int .i64 5])) ∧ (sc k x ≠ 0 → e = .returned (.tuple #[arr (toLe 32 (sc k x)), .int .i64 0])) ∧ Below w.heap.size w w' := by
  refine (Mult_any A (some ⟨p, 0, none⟩) c d k (toLe 32 x) w hk (hu.rb hu.lt)).mono ?_
  rintro e w' ⟨rfl, hb⟩
  rw [le_back hx, show LN (le (clampB k)) x = sc k x from rfl]
  refine ⟨fun h => ?_, fun h => ?_, hb⟩
  · rw [multV, if_pos ((toLe_z32 (sc_lt k x)).2 h)]
  · rw [multV, if_neg fun e => h ((toLe_z32 (sc_lt k x)).1 e)]
/-- a point's number -/
def uN (u : List UInt8) : Nat := le u % 57896044618658097711785492504343953926634992332820282019728792003956564819968 % pF
theorem uN_lt (u : List UInt8) : uN u < pF := Nat.mod_lt _ (by decide)
theorem lat_drop (ls : List (List UInt8)) {j : Nat} (h : j < ls.length) : ls.drop j = lat ls j :: ls.drop (j + 1) := by
  rw [List.drop_eq_getElem_cons h, lat, List.getD_eq_getElem?_getD, List.getElem?_eq_getElem h]
  rfl
set_option maxHeartbeats 4000000 in
set_option maxRecDepth 100000 in
/-- curve.Chain -/
theorem Chain_any (A D : Option Addr) (c d m : Nat) (u : List UInt8) (ks : List (List UInt8)) (w : World) (hu : RB w w.heap.size A 32 u) (hk : RBB w w.heap.size D m ks) (h32 : ∀ k ∈ ks, k.length = 32) (hm : m ≤ 140737488355328) :
    Calls Try.prog 4 #[.slice A 32 c, .slice D m d] w fun e w' => e = .returned (chV (chN (uN u) ks)) ∧ Below w.heap.size w w' := by
  obtain ⟨R, hR⟩ : ∃ R, chV (chN (uN u) ks) = R := ⟨_, rfl⟩
  rw [hR]
  have HRR := Lib.hid hR
  have HRD := Lib.hid (show ∀ W, RB W W.heap.size A 32 u → Calls Try.prog 7 #[.slice A 32 c] W fun e w' => e = .returned (.tuple #[.agg (elc (uN u)), .int .i64 0]) ∧ Below W.heap.size W w' from fun W h => Read_any A c u W h)
  have hXF := uN_lt u
  have H32 := Lib.hid h32
  generalize uN u = X at *
  have hba := (Below.refl w.heap.size w).alloc (Nat.le_refl _) (.cells (bv z32).toArray 25)
  have hx1 := Arr.new w (l := z32) rfl
  have hs1 : (w.alloc (.cells (bv z32).toArray 25)).heap.size = w.heap.size + 1 := by simp
  have HX1 := Lib.hid hx1
  have HB1 := Lib.hid hba
  have HU1 := Lib.hid ((hu.below hba).more (show w.heap.size ≤ w.heap.size + 1 by omega))
  have HK0 := Lib.hid hk
  clear hx1 hba hu hk hR h32
  generalize hg0 : w.heap.size = g0 at *
  have HG0 := Lib.hid hg0
  go_enter Try.func4, Try.ntmps4
  go_wp2_with (first | (refine wl_allocA (by rfl) (by rfl) g0 HG0.out ?_))
  generalize hw1 : w.alloc (.cells (bv z32).toArray 25) = w1 at *
  clear hw1
  refine (HRD.out w1 (by rw [hs1]; exact HU1.out)).mono ?_
  rintro e w5 ⟨rfl, hb5⟩
  rw [hs1] at hb5
  have hx5 := HX1.out.below hb5 (by omega)
  have hB5 := HB1.out.trans (hb5.mono (by omega))
  have hsz5 := hb5.size
  rw [hs1] at hsz5
  obtain ⟨r, hr⟩ : ∃ r, w5.heap.size = r := ⟨_, rfl⟩
  rw [hr] at hsz5
  have hba := (Below.refl r w5).alloc (by rw [hr]; exact Nat.le_refl _) (.cells (elc 0) 33)
  have hr6 := Blk4.new w5 (X := elc 0) rfl
  rw [hr] at hr6
  have HR6 := Lib.hid hr6
  have HR7 := Lib.hid (hr6.set (Y := elc X) (elc_size X))
  have hb7 := below_setRow hba (Nat.le_refl r) (elc X)
  have hs7 : ((w5.alloc (.cells (elc 0) 33)).setRow r (elc X)).heap.size = r + 1 := by rw [size_setRow]; simp [hr]
  have HX7 := Lib.hid (hx5.below hb7 (by omega))
  have HB7 := Lib.hid (hB5.trans (hb7.mono (by omega)))
  clear hx5 hB5 hb5 hba hr6 hb7 HU1 HX1 HB1 HRD
  go_upto_region 4 with (first | (refine wl_allocE (by rfl) (by rfl) r hr ?_; go_simp) | (refine wl_store4 (.tmp 6) (.tmp 16) HR6.out (by rfl) (by rfl) (by rfl) (Y := elc X) (by rfl) (elc_size X) (elc_one X) ?_; go_simp))
  clear HR6
  generalize (w5.alloc (.cells (elc 0) 33)).setRow r (elc X) = w7 at *
  go_wp2_with fail
  have HK7 := Lib.hid (HK0.out.below HB7.out)
  have HBY := Lib.hid (Bytes_any X (Nat.lt_trans hXF (by decide)))
  rw [Nat.mod_eq_of_lt hXF, el_is X] at HBY
  have HY0 := Lib.hid hXF
  clear HK0 hXF hg0 hs7
  have hs7 : r < w7.heap.size := HR7.out.lt
  go_loopw [24, 9] (fun i _ wr => ∃ j : Nat, j ≤ m ∧ i = .int .i64 (j : Int) ∧ wr = w7) (fun i _ _ => m - (intOf i).toNat)
  case' atStart => exact ⟨0, by omega, rfl, rfl⟩
  case' round =>
    obtain ⟨j, hj, rfl, rfl⟩ := hrel
    by_cases hlt : j < m
    · obtain ⟨ad, Ai, ni, ci, rfl, hab, hc, hle, hrb⟩ := HK7.out.at_ hlt
      have hni : ni = 32 := by
        have h := H32.out (lat ks j) (lat_mem (by rw [HK7.out.len]; exact hlt))
        rw [hrb.len] at h
        exact h
      subst hni
      clear hrb hle
      go_wp2_with fail
      exact ⟨⟨j + 1, by omega, by go_num, trivial⟩, by simp [intOf]; omega⟩
    · obtain rfl : j = m := by omega
      go_wp2_with (refine wl_load4 (.tmp 6) HR7.out (by rfl) (by rfl) (by rfl) ?_; go_simp)
      refine (HBY.out wr).mono ?_
      rintro e w8 ⟨rfl, hb8⟩
      have hx8 := HX7.out.below hb8 HX7.out.lt
      have hsw := HX7.out.lt
      have hk8 := (HK7.out.below (hb8.mono (by omega)))
      have hB8 := HB7.out.trans (hb8.mono (by omega))
      have hsz8 : g0 < w8.heap.size := hx8.lt
      clear hsw
      obtain ⟨q, hq⟩ : ∃ q, w8.heap.size = q := ⟨_, rfl⟩
      rw [hq] at hsz8
      have hYl := toLe_len 32 X
      have hal := (Below.refl q w8).alloc (by rw [hq]; exact Nat.le_refl _) (.cells (bv z32).toArray 25)
      have hy3 := Arr.new w8 (l := z32) rfl
      rw [hq] at hy3
      have HY3 := Lib.hid hy3
      have HY4 := Lib.hid (hy3.row (r := toLe 32 X) hYl)
      have hb4 := below_setRow hal (Nat.le_refl q) (bv (toLe 32 X)).toArray
      have HX4 := Lib.hid (hx8.below hb4 hsz8)
      have HK4 := Lib.hid (hk8.below (hb4.mono (by omega)))
      have HB4 := Lib.hid (hB8.trans (hb4.mono (by omega)))
      clear hx8 hk8 hB8 hb8 hal hy3 hb4 HBY HX7 HK7 HB7 HR7 hs7
      obtain ⟨Y, hY⟩ : ∃ Y, toLe 32 X = Y := ⟨_, rfl⟩
      rw [hY] at HY4 hYl HX4 HK4 HB4 ⊢
      have HYY := Lib.hid hY
      clear hY
      go_upto_region 11 with (first | (refine wl_allocA (by rfl) (by rfl) q hq ?_; go_simp) | (refine wl_storeA (.tmp 10) (.tmp 34) HY3.out (by rfl) (by rfl) (by rfl) (by rfl) hYl ?_; go_simp))
      clear HY3
      generalize (w8.alloc (.cells (bv z32).toArray 25)).setRow q (bv Y).toArray = w9 at *
      have HY5 := Lib.hid (show Arr w9 q (toLe 32 X) by rw [HYY.out]; exact HY4.out)
      clear HYY HY4 hYl
      go_wp2_with fail
      go_loopw [37, 12, 7] (fun i _ _ wr => ∃ (n x : Nat), n ≤ j ∧ i = .int .i64 (n : Int) ∧ x < pF ∧ chN X ks = chN x (ks.drop n) ∧ Arr wr q (toLe 32 x) ∧ Arr wr g0 z32 ∧ Below g0 w9 wr) (fun i _ _ _ => j - (intOf i).toNat)
      case' atStart => exact ⟨0, X, by omega, rfl, HY0.out, rfl, HY5.out, HX4.out, Below.refl _ _⟩
      case' round =>
        obtain ⟨n, x, hn, rfl, hxp, hch, hy, hx, hb⟩ := hrel
        have HCH := Lib.hid hch
        have hsq := hy.lt
        have hsg := hx.lt
        have HY := Lib.hid hy
        have HX := Lib.hid hx
        have HB := Lib.hid hb
        clear hch hy hx hb HY5
        by_cases hlt : n < j
        · have hkr := HK4.out.below HB.out
          obtain ⟨ad, Ai, ni, ci, rfl, hab, hc, hle, hrb⟩ := hkr.at_ hlt
          have hlen : (lat ks n).length = 32 := H32.out (lat ks n) (lat_mem (by rw [hkr.len]; exact hlt))
          have hni : ni = 32 := by rw [hrb.len] at hlen; exact hlen
          subst hni
          rw [lat_drop ks (by rw [hkr.len]; exact hlt)] at HCH
          have HMU := Lib.hid (Mult_N Ai ci 32 q x (lat ks n) wr hxp (hrb.more (by omega)) HY.out)
          generalize lat ks n = k at *
          clear hrb hle hkr hlen
          have hsl := sc_lt k x
          by_cases h0 : sc k x = 0
          · have HCR := Lib.hid (show chV none = R by rw [← HRR.out, HCH.out, chN_none h0])
            have HM0 := Lib.hid (HMU.out.mono (R' := fun e w' => e = .returned (.tuple #[arr z32, .int .i64 5]) ∧ Below wr.heap.size wr w') (by rintro e w' ⟨h1, _, h2⟩; exact ⟨h1 h0, h2⟩))
            clear HMU HCH h0 hsl
            go_wp2_with fail
            refine HM0.out.mono ?_
            rintro e wa ⟨rfl, hba⟩
            have hxa := HX.out.below hba hsg
            have hya := HY.out.below hba hsq
            have hBa := HB.out.trans (hba.mono (by omega))
            have HYa := Lib.hid hya
            have HYb := Lib.hid (hya.row (r := z32) rfl)
            have HXb := Lib.hid (hxa.far (show g0 ≠ q by omega) (bv z32).toArray)
            have HBb := Lib.hid (below_setRow hBa (show g0 ≤ q by omega) (bv z32).toArray)
            clear hxa hya hBa hba HX HY HB
            have HRS := Lib.hid (HXb.out.row (r := z32) rfl)
            have HBS := Lib.hid (HB4.out.trans (below_setRow HBb.out (Nat.le_refl g0) (bv z32).toArray))
            go_upto_region 16 with (first | (refine wl_storeA (.tmp 10) (.tmp 45) HYa.out (by rfl) (by rfl) (by rfl) (by rfl) (show z32.length = 32 from rfl) ?_; go_simp))
            generalize wa.setRow q (bv z32).toArray = wb at *
            go_wp2_with (first | (refine wl_zeroA (by rfl) (by rfl) ?_; go_simp) | (refine wl_storeA (.tmp 4) (.tmp 49) HXb.out (by rfl) (by rfl) (by rfl) (by rfl) (show z32.length = 32 from rfl) ?_; go_simp))
            (try simp only [Exit.inBlock, Exit.then])
            refine bodyPost_ret (v := .tuple #[arr z32, .int .i64 5]) (results_arr rfl _ _ g0 _ _ rfl rfl HRS.out) rfl ?_
            exact ⟨by rw [← HCR.out]; rfl, HBS.out⟩
          · have HCR := Lib.hid (show chN X ks = chN (sc k x) (ks.drop (n + 1)) by rw [HCH.out, chN_some h0])
            have HM0 := Lib.hid (HMU.out.mono (R' := fun e w' => e = .returned (.tuple #[arr (toLe 32 (sc k x)), .int .i64 0]) ∧ Below wr.heap.size wr w') (by rintro e w' ⟨_, h1, h2⟩; exact ⟨h1 h0, h2⟩))
            clear HMU HCH h0
            generalize sc k x = y at *
            have hYl := toLe_len 32 y
            obtain ⟨Z, hZ⟩ : ∃ Z, toLe 32 y = Z := ⟨_, rfl⟩
            rw [hZ] at HM0 hYl
            have HZZ := Lib.hid hZ
            clear hZ
            go_wp2_with fail
            refine HM0.out.mono ?_
            rintro e wa ⟨rfl, hba⟩
            have hxa := HX.out.below hba hsg
            have hya := HY.out.below hba hsq
            have hBa := HB.out.trans (hba.mono (by omega))
            have HYa := Lib.hid hya
            have HYb := Lib.hid (hya.row (r := Z) hYl)
            have HXb := Lib.hid (hxa.far (show g0 ≠ q by omega) (bv Z).toArray)
            have HBb := Lib.hid (below_setRow hBa (show g0 ≤ q by omega) (bv Z).toArray)
            clear hxa hya hBa hba HX HY HB
            have HYc := Lib.hid (show Arr (wa.setRow q (bv Z).toArray) q (toLe 32 y) by rw [HZZ.out]; exact HYb.out)
            go_upto_region 17 with (first | (refine wl_storeA (.tmp 10) (.tmp 45) HYa.out (by rfl) (by rfl) (by rfl) (by rfl) hYl ?_; go_simp))
            generalize wa.setRow q (bv Z).toArray = wb at *
            go_wp2_with fail
            exact ⟨⟨n + 1, y, by omega, by go_num, hsl, HCR.out, HYc.out, HXb.out, HBb.out⟩, by simp [intOf]; omega⟩
        · obtain rfl : n = j := by omega
          have HCR := Lib.hid (show chV (some x) = R by rw [← HRR.out, HCH.out, List.drop_eq_nil_of_le (by rw [HK4.out.len]; exact Nat.le_refl _), chN_nil])
          have hYl := toLe_len 32 x
          obtain ⟨Z, hZ⟩ : ∃ Z, toLe 32 x = Z := ⟨_, rfl⟩
          rw [hZ] at HY hYl
          have HZZ := Lib.hid hZ
          clear hZ HCH
          have HRS := Lib.hid (HX.out.row (r := Z) hYl)
          have HBS := Lib.hid (HB4.out.trans (below_setRow HB.out (Nat.le_refl g0) (bv Z).toArray))
          go_wp2_with (first | (refine wl_loadA (.tmp 10) HY.out (by rfl) (by rfl) (by rfl) ?_; go_simp) | (refine wl_storeA (.tmp 4) (.tmp 52) HX.out (by rfl) (by rfl) (by rfl) (by rfl) hYl ?_; go_simp))
          (try simp only [Exit.inBlock, Exit.then])
          refine bodyPost_ret (v := .tuple #[arr Z, .int .i64 0]) (results_arr rfl _ _ g0 _ _ rfl rfl HRS.out) rfl ?_
          exact ⟨by rw [← HCR.out, chV, HZZ.out], HBS.out⟩
end Go.Proofs.Ytgpjidlomhkpeaa
