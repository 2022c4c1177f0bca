/-
  Contract of field.multiply. Conditions: the numbers fit.
-/
import Derived.Test.YtgpjidlomhkpeaaFeC
namespace Go.Proofs.Ytgpjidlomhkpeaa
open Go Go.RowKit Go.Sh

theorem mul_step {Q w s d x y h nvn nvo R T : Nat} (h1 : nvn + w * Q = nvo + s * Q) (h2 : nvo + d * Q + x * (y + 18446744073709551616 * R) * Q = T) (h3 : s + 18446744073709551616 * h = x * y + w + d) : nvn + h * (Q * 18446744073709551616) + x * R * (Q * 18446744073709551616) = T := by grind
theorem red_step {Q s d x y h nvn nvo R S T : Nat} (h1 : nvn + 0 * Q = nvo + s * Q) (h2 : nvo + d * Q + ((x + 18446744073709551616 * R) + 38 * (y + 18446744073709551616 * S)) * Q = T) (h3 : s + 18446744073709551616 * h = y * 38 + x + d) : nvn + h * (Q * 18446744073709551616) + (R + 38 * S) * (Q * 18446744073709551616) = T := by grind
theorem out_step {Q x R vb nr T r : Nat} (h1 : nr = r + x * vb * Q) (h2 : r + (x + 18446744073709551616 * R) * vb * Q = T) : nr + R * vb * (Q * 18446744073709551616) = T := by grind
theorem nv_app : ∀ (l m : List Nat), nv (l ++ m) = nv l + 18446744073709551616 ^ l.length * nv m
  | [], m => by simp [nv]
  | x :: l, m => by
    rw [List.cons_append, nv, nv, nv_app l m, List.length_cons, Nat.pow_succ, Nat.mul_add, ← Nat.mul_assoc, Nat.mul_comm 18446744073709551616 (18446744073709551616 ^ l.length), Nat.add_assoc]
theorem nt_set {l : List Nat} {i j x : Nat} (h : j ≠ i) : nt (l.set i x) j = nt l j := by
  unfold nt
  rw [List.getD_eq_getElem?_getD, List.getD_eq_getElem?_getD, List.getElem?_set_ne (fun e => h e.symm)]
set_option maxRecDepth 100000 in
theorem zero8_is : ∀ j, nt [0, 0, 0, 0, 0, 0, 0, 0] j = 0 := by
  intro j
  unfold nt
  rw [List.getD_eq_getElem?_getD]
  rcases (show j = 0 ∨ j = 1 ∨ j = 2 ∨ j = 3 ∨ j = 4 ∨ j = 5 ∨ j = 6 ∨ j = 7 ∨ 8 ≤ j by omega) with rfl | rfl | rfl | rfl | rfl | rfl | rfl | rfl | h
  all_goals first | rfl | (rw [List.getElem?_eq_none (by simpa using h)]; rfl)
set_option maxHeartbeats 8000000 in
set_option maxRecDepth 100000 in
/-- field.multiply -/
theorem multiply_any (u v : Nat) (hu : u < 115792089237316195423570985008687907853269984665640564039457584007913129639936) (hv : v < 115792089237316195423570985008687907853269984665640564039457584007913129639936) (w : World) :
    Calls Try.prog 24 #[el u, el v] w fun e w' => e = .returned (el (u * v % pF)) ∧ Below w.heap.size w w' := by
  rw [el_is u, el_is v]
  have hxs := elc_size u
  have hys := elc_size v
  obtain ⟨hs4, hu4, hv4, hz4, hm4, hB4⟩ := newFour w (.cells (elc u) 33) (.cells (elc v) 33) (.cells #[.int .u64 0, .int .u64 0, .int .u64 0, .int .u64 0] 33) (.cells #[.int .u64 0, .int .u64 0, .int .u64 0, .int .u64 0, .int .u64 0, .int .u64 0, .int .u64 0, .int .u64 0] 60)
  have HU := Lib.hid (show RowU _ _ w.heap.size (ws 4 u) from hu4)
  have HV := Lib.hid (show RowU _ _ (w.heap.size + 1) (ws 4 v) from hv4)
  have HZ := Lib.hid (show Blk4 _ (w.heap.size + 2) _ from ⟨rfl, hz4⟩)
  have HM := Lib.hid (show RowU _ 60 (w.heap.size + 3) [0, 0, 0, 0, 0, 0, 0, 0] from hm4)
  have HB := Lib.hid hB4
  have HU0 := Lib.hid (show nv (ws 4 u) = u from nv_ws 4 u hu)
  have HV0 := Lib.hid (show nv (ws 4 v) = v from nv_ws 4 v hv)
  clear hu4 hv4 hz4 hm4 hB4
  have hxe : ¬ elc u = #[] := by intro h; rw [h] at hxs; cases hxs
  have hye : ¬ elc v = #[] := by intro h; rw [h] at hys; cases hys
  generalize hxc : elc u = xc at *
  generalize hyc : elc v = yc at *
  clear hxc hyc
  go_enter Try.func24, Try.ntmps24
  go_wp2_with fail
  clear hxs hys hxe hye
  generalize (((w.alloc (.cells xc 33)).alloc (.cells yc 33)).alloc (.cells #[.int .u64 0, .int .u64 0, .int .u64 0, .int .u64 0] 33)).alloc (.cells #[.int .u64 0, .int .u64 0, .int .u64 0, .int .u64 0, .int .u64 0, .int .u64 0, .int .u64 0, .int .u64 0] 60) = w4 at *
  generalize hg : w.heap.size = g at *
  have HG := Lib.hid hg
  have HLV := Lib.hid (length_ws 4 v)
  have HAV := Lib.hid (AllB.ws 4 v)
  have HLU := Lib.hid (length_ws 4 u)
  have HAU := Lib.hid (AllB.ws 4 u)
  clear hg hs4
  generalize ws 4 u = lu at *
  generalize ws 4 v = lv at *
  go_loopw [12] (fun i wr => ∃ (k : Nat) (r : List Nat), k ≤ 4 ∧ i = .int .i64 (k : Int) ∧ r.length = 8 ∧ AllB r ∧ (∀ j, k + 4 ≤ j → nt r j = 0) ∧ nv r + nv (lu.drop k) * v * pw64 k = u * v ∧ RowU wr 33 g lu ∧ RowU wr 33 (g + 1) lv ∧ RowU wr 60 (g + 3) r ∧ Blk4 wr (g + 2) #[.int .u64 0, .int .u64 0, .int .u64 0, .int .u64 0] ∧ Below g w wr) (fun i _ => 4 - (intOf i).toNat)
  case' atStart => exact ⟨0, [0, 0, 0, 0, 0, 0, 0, 0], by omega, rfl, rfl, (fun x hx => by simp at hx; omega), (fun j _ => zero8_is j), by rw [pw64_zero, List.drop_zero, HU0.out]; simp [nv], HU.out, HV.out, HM.out, HZ.out, HB.out⟩
  case' round =>
    obtain ⟨k, r, hk, rfl, hrl, hrb, hrz, hrn, hru, hrv, hrr, hz, hbr⟩ := hrel
    by_cases hlt : k < 4
    · have ckk := hru.cell (k := k) (by have := HLU.out; omega)
      have HNR := Lib.hid hrn
      have HZR := Lib.hid hrz
      have hx1 := nt_lt HAU.out k
      have HXD := Lib.hid (nv_drop lu k (by have := HLU.out; omega))
      have HRU := Lib.hid hru
      have HRV := Lib.hid hrv
      have HRR := Lib.hid hrr
      have HRZ := Lib.hid hz
      have HRB := Lib.hid hbr
      have HAR := Lib.hid hrb
      clear hrn hrz hru hrv hrr hz hbr hrb ckk
      obtain ⟨x, hx⟩ : ∃ x, nt lu k = x := ⟨_, rfl⟩
      have HX := Lib.hid hx
      rw [hx] at hx1 HXD
      clear hx
      go_wp2_with fail
      obtain ⟨wq, hwq⟩ : ∃ wq, wr = wq := ⟨_, rfl⟩
      rw [hwq] at HRU HRV HRR HRZ HRB ⊢
      clear hwq wr
      rw [show decide ((k : Int) < 4) = true from decide_eq_true (by omega)]
      go_loopw [7, 15] (fun c j wr => ∃ (m d : Nat) (q : List Nat), m ≤ 4 ∧ j = .int .i64 (m : Int) ∧ c = .int .u64 (d : Int) ∧ d < 18446744073709551616 ∧ q.length = 8 ∧ AllB q ∧ (∀ j, k + 4 ≤ j → nt q j = 0) ∧ nv q + d * pw64 (k + m) + x * nv (lv.drop m) * pw64 (k + m) = nv r + x * v * pw64 k ∧ RowU wr 33 g lu ∧ RowU wr 33 (g + 1) lv ∧ RowU wr 60 (g + 3) q ∧ Blk4 wr (g + 2) #[.int .u64 0, .int .u64 0, .int .u64 0, .int .u64 0] ∧ Below g w wr) (fun _ j _ => 4 - (intOf j).toNat)
      case' atStart => exact ⟨0, 0, r, by omega, rfl, rfl, by omega, hrl, HAR.out, HZR.out, by rw [List.drop_zero, HV0.out, Nat.add_zero]; omega, HRU.out, HRV.out, HRR.out, HRZ.out, HRB.out⟩
      case' round =>
        obtain ⟨m, d, q, hm, rfl, rfl, hd, hql, hqb, hqz, hqn, hru, hrv, hrr, hz, hbr⟩ := hrel
        by_cases hlm : m < 4
        · obtain ⟨i, hi⟩ : ∃ i, k + m = i := ⟨_, rfl⟩
          rw [hi] at hqn
          have hi8 : i < 8 := by omega
          have hi8i : (i : Int) < 8 := by omega
          have hwi : IntKind.i64.wrap ((k : Int) + (m : Int)) = (i : Int) := by rw [IntKind.wrap_i64]; omega
          have ck := hru.cell (k := k) (by have := HLU.out; omega)
          rw [HX.out] at ck
          have cv := hrv.cell (k := m) (by have := HLV.out; omega)
          have cr := hrr.cell (k := i) (by omega)
          have fk' : wr.drew.frozen? ⟨g + 3, i, none⟩ = false := hrr.free i
          have cr' : wr.drew.cell? ⟨g + 3, i, none⟩ = some (.int .u64 (nt q i : Int)) := cr
          obtain ⟨s, h, b1, b2, b3, hS⟩ := step_any x (nt lv m) (nt q i) d hx1 (nt_lt HAV.out m) (nt_lt hqb i) hd
          have HS := Lib.hid hS
          have HNX := Lib.hid (show nv (q.set i s) + h * pw64 (k + (m + 1)) + x * nv (lv.drop (m + 1)) * pw64 (k + (m + 1)) = nv r + x * v * pw64 k by
            rw [nv_drop lv m (by have := HLV.out; omega)] at hqn
            rw [show k + (m + 1) = i + 1 by omega, pw64_succ]
            exact mul_step (nv_set q i s (by omega)) hqn b3)
          have HZX := Lib.hid (show ∀ j, k + 4 ≤ j → nt (q.set i s) j = 0 from fun j hj => by rw [nt_set (by omega)]; exact hqz j hj)
          have HRX := Lib.hid (show RowU (wr.setCell ⟨g + 3, i, none⟩ (.int .u64 (s : Int))).drew 60 (g + 3) _ from hrr.set i s)
          have HUX := Lib.hid (show RowU (wr.setCell ⟨g + 3, i, none⟩ (.int .u64 (s : Int))).drew 33 g lu from hru.far (g := g + 3) (by omega) i (.int .u64 (s : Int)))
          have HVX := Lib.hid (show RowU (wr.setCell ⟨g + 3, i, none⟩ (.int .u64 (s : Int))).drew 33 (g + 1) lv from hrv.far (g := g + 3) (by omega) i (.int .u64 (s : Int)))
          have HZZ := Lib.hid (show Blk4 (wr.setCell ⟨g + 3, i, none⟩ (.int .u64 (s : Int))).drew (g + 2) _ from ⟨hz.1, (Below.heap_setCell wr ⟨g + 3, i, none⟩ (.int .u64 (s : Int)) (g + 2) (show g + 2 ≠ g + 3 by omega)).trans hz.2⟩)
          have HBX := Lib.hid (hbr.setCell (p := ⟨g + 3, i, none⟩) (Nat.le_add_right g 3) (.int .u64 (s : Int))).drew
          have HQB := Lib.hid (hqb.set b1 i)
          clear hS hqn hqz hqb hru hrv hrr hz hbr b3 hi
          go_wp2_with fail
          refine wp_region_noPanic ?_
          refine wp_region_until (S := (fun w' => w'.cell? ⟨g, k, none⟩ = some (.int .u64 (x : Int)) ∧ w'.cell? ⟨g + 1, m, none⟩ = some (.int .u64 (nt lv m : Int)) ∧ w'.cell? ⟨g + 3, i, none⟩ = some (.int .u64 (nt q i : Int)))) 15 (by kernel_rfl) ?_ (fun hHeld => ?_)
          · (try dsimp only)
            exact ⟨ck, cv, cr⟩
          refine wpAnyU_takeY (i := 0) (v := ?v47) rfl (by kernel_rfl) (fun _ _ _ h => h) (Or.inl ⟨by rfl, ?y47⟩) (by assumption) ?r47
          case y47 => (intro W; first | (go_simp; done) | (go_simp; with_reducible rfl))
          (try simp only [List.getElem_toArray, List.getElem_cons_zero, Act.put, List.setIfInBounds_toArray, List.set_cons_zero, List.set_cons_succ])
          refine wpAnyU_takeY (i := 1) (v := ?v48) rfl (by kernel_rfl) (fun _ _ _ h => h) (Or.inl ⟨by rfl, ?y48⟩) (by assumption) ?r48
          case y48 => (intro W; first | (go_simp; done) | (go_simp; with_reducible rfl))
          (try simp only [List.getElem_toArray, List.getElem_cons_zero, List.getElem_cons_succ, Act.put, List.setIfInBounds_toArray, List.set_cons_zero, List.set_cons_succ])
          refine wpAnyU_takeY (i := 2) (v := ?v49) rfl (by kernel_rfl) (fun _ _ _ h => h) (Or.inl ⟨by rfl, ?y49⟩) (by assumption) ?r49
          case y49 => (intro W; first | (go_simp; done) | (go_simp; with_reducible rfl))
          (try simp only [List.getElem_toArray, List.getElem_cons_zero, List.getElem_cons_succ, Act.put, List.setIfInBounds_toArray, List.set_cons_zero, List.set_cons_succ])
          refine wpAnyU_takeY (i := 3) (v := ?v50) rfl (by kernel_rfl) (fun _ _ _ h => h) (Or.inl ⟨by rfl, ?y50⟩) (by assumption) ?r50
          case y50 => (intro W; first | (go_simp; done) | (go_simp; with_reducible rfl))
          (try simp only [List.getElem_toArray, List.getElem_cons_zero, List.getElem_cons_succ, Act.put, List.setIfInBounds_toArray, List.set_cons_zero, List.set_cons_succ])
          refine wpAnyU_takeY (i := 4) (v := ?v51) rfl (by kernel_rfl) (fun _ _ _ h => h) (Or.inl ⟨by rfl, ?y51⟩) (by assumption) ?r51
          case y51 => (intro W; first | (go_simp; done) | (go_simp; with_reducible rfl))
          (try simp only [List.getElem_toArray, List.getElem_cons_zero, List.getElem_cons_succ, Act.put, List.setIfInBounds_toArray, List.set_cons_zero, List.set_cons_succ])
          refine wpAnyU_takeW (i := 5) (v := ?v52) rfl (by kernel_rfl) (fun _ _ _ h => h) (Or.inl ⟨by rfl, ?y52⟩) (by assumption) ?r52
          case y52 => (intro W hSW; (try dsimp only at hSW); first | (go_simp; done) | (go_simp; with_reducible rfl))
          (try simp only [List.getElem_toArray, List.getElem_cons_zero, List.getElem_cons_succ, Act.put, List.setIfInBounds_toArray, List.set_cons_zero, List.set_cons_succ])
          refine wpAnyU_takeY (i := 6) (v := ?v53) rfl (by kernel_rfl) (fun _ _ _ h => h) (Or.inl ⟨by rfl, ?y53⟩) (by assumption) ?r53
          case y53 => (intro W; first | (go_simp; done) | (go_simp; with_reducible rfl))
          (try simp only [List.getElem_toArray, List.getElem_cons_zero, List.getElem_cons_succ, Act.put, List.setIfInBounds_toArray, List.set_cons_zero, List.set_cons_succ])
          refine wpAnyU_takeY (i := 7) (v := ?v54) rfl (by kernel_rfl) (fun _ _ _ h => h) (Or.inl ⟨by rfl, ?y54⟩) (by assumption) ?r54
          case y54 => (intro W; first | (go_simp; done) | (go_simp; with_reducible rfl))
          (try simp only [List.getElem_toArray, List.getElem_cons_zero, List.getElem_cons_succ, Act.put, List.setIfInBounds_toArray, List.set_cons_zero, List.set_cons_succ])
          refine wpAnyU_takeW (i := 8) (v := ?v55) rfl (by kernel_rfl) (fun _ _ _ h => h) (Or.inl ⟨by rfl, ?y55⟩) (by assumption) ?r55
          case y55 => (intro W hSW; (try dsimp only at hSW); first | (go_simp; done) | (go_simp; with_reducible rfl))
          (try simp only [List.getElem_toArray, List.getElem_cons_zero, List.getElem_cons_succ, Act.put, List.setIfInBounds_toArray, List.set_cons_zero, List.set_cons_succ])
          refine wpAnyU_takeY (i := 9) (v := ?v56) rfl (by kernel_rfl) (fun _ _ _ h => h) (Or.inl ⟨by rfl, ?y56⟩) (by assumption) ?r56
          case y56 => (intro W; first | (go_simp; done) | (go_simp; with_reducible rfl))
          (try simp only [List.getElem_toArray, List.getElem_cons_zero, List.getElem_cons_succ, Act.put, List.setIfInBounds_toArray, List.set_cons_zero, List.set_cons_succ])
          refine wpAnyU_takeY (i := 10) (v := ?v57) rfl (by kernel_rfl) (fun _ _ _ h => h) (Or.inl ⟨by rfl, ?y57⟩) (by assumption) ?r57
          case y57 => (intro W; first | (go_simp; done) | (go_simp; with_reducible rfl))
          (try simp only [List.getElem_toArray, List.getElem_cons_zero, List.getElem_cons_succ, Act.put, List.setIfInBounds_toArray, List.set_cons_zero, List.set_cons_succ])
          refine wpAnyU_takeY (i := 11) (v := ?v58) rfl (by kernel_rfl) (fun _ _ _ h => h) (Or.inl ⟨by rfl, ?y58⟩) (by assumption) ?r58
          case y58 => (intro W; first | (go_simp; done) | (go_simp; with_reducible rfl))
          (try simp only [List.getElem_toArray, List.getElem_cons_zero, List.getElem_cons_succ, Act.put, List.setIfInBounds_toArray, List.set_cons_zero, List.set_cons_succ])
          refine wpAnyU_takeY (i := 12) (v := ?v59) rfl (by kernel_rfl) (fun _ _ _ h => h) (Or.inl ⟨by rfl, ?y59⟩) (by assumption) ?r59
          case y59 => (intro W; first | (go_simp; done) | (go_simp; with_reducible rfl))
          (try simp only [List.getElem_toArray, List.getElem_cons_zero, List.getElem_cons_succ, Act.put, List.setIfInBounds_toArray, List.set_cons_zero, List.set_cons_succ])
          refine wpAnyU_takeW (i := 13) (v := ?v60) rfl (by kernel_rfl) (fun _ _ _ h => h) (Or.inl ⟨by rfl, ?y60⟩) (by assumption) ?r60
          case y60 => (intro W hSW; (try dsimp only at hSW); first | (go_simp; done) | (go_simp; with_reducible rfl))
          (try simp only [List.getElem_toArray, List.getElem_cons_zero, List.getElem_cons_succ, Act.put, List.setIfInBounds_toArray, List.set_cons_zero, List.set_cons_succ])
          refine wpAnyU_takeY (i := 14) (v := ?v61) rfl (by kernel_rfl) (fun _ _ _ h => h) (Or.inl ⟨by rfl, ?y61⟩) (by assumption) ?r61
          case y61 => (intro W; first | (go_simp; done) | (go_simp; with_reducible rfl))
          (try simp only [List.getElem_toArray, List.getElem_cons_zero, List.getElem_cons_succ, Act.put, List.setIfInBounds_toArray, List.set_cons_zero, List.set_cons_succ])
          refine wpAnyU_at (c := 15) rfl (by kernel_rfl) (by rfl) (fun K hK => ?_)
          have HK := Lib.hid hK
          clear hK
          go_simp
          refine (HS.out _).mono ?_
          rintro e w' ⟨rfl, rfl⟩
          refine HK.out _ _ ?_
          clear HK K
          (try simp only [List.getElem_toArray, List.getElem_cons_zero, List.getElem_cons_succ, Act.put, List.setIfInBounds_toArray, List.set_cons_zero, List.set_cons_succ])
          refine wpAny_takeY (i := 16) (v := ?v63) rfl (by kernel_rfl) (fun _ _ _ h => h) (Or.inl ⟨by rfl, ?y63⟩) ?r63
          case y63 => (intro W; first | (go_simp; done) | (go_simp; with_reducible rfl))
          (try simp only [List.getElem_toArray, List.getElem_cons_zero, List.getElem_cons_succ, Act.put, List.setIfInBounds_toArray, List.set_cons_zero, List.set_cons_succ])
          refine wpAny_takeY (i := 17) (v := ?v64) rfl (by kernel_rfl) (fun _ _ _ h => h) (Or.inl ⟨by rfl, ?y64⟩) ?r64
          case y64 => (intro W; first | (go_simp; done) | (go_simp; with_reducible rfl))
          (try simp only [List.getElem_toArray, List.getElem_cons_zero, List.getElem_cons_succ, Act.put, List.setIfInBounds_toArray, List.set_cons_zero, List.set_cons_succ])
          refine wpAny_takeY (i := 18) (v := ?v65) rfl (by kernel_rfl) (fun _ _ _ h => h) (Or.inl ⟨by rfl, ?y65⟩) ?r65
          case y65 => (intro W; first | (go_simp; done) | (go_simp; with_reducible rfl))
          (try simp only [List.getElem_toArray, List.getElem_cons_zero, List.getElem_cons_succ, Act.put, List.setIfInBounds_toArray, List.set_cons_zero, List.set_cons_succ])
          refine wpAny_takeY (i := 19) (v := ?v66) rfl (by kernel_rfl) (fun _ _ _ h => h) (Or.inl ⟨by rfl, ?y66⟩) ?r66
          case y66 => (intro W; first | (go_simp; done) | (go_simp; with_reducible rfl))
          (try simp only [List.getElem_toArray, List.getElem_cons_zero, List.getElem_cons_succ, Act.put, List.setIfInBounds_toArray, List.set_cons_zero, List.set_cons_succ])
          refine wpAny_at (c := 20) rfl (by kernel_rfl) (by rfl) (fun K hK => ?_)
          have HK := Lib.hid hK
          clear hK
          go_simp
          refine HK.out _ _ ?_
          clear HK K
          (try simp only [List.getElem_toArray, List.getElem_cons_zero, List.getElem_cons_succ, Act.put, List.setIfInBounds_toArray, List.set_cons_zero, List.set_cons_succ])
          refine wpAny_at (c := 21) rfl (by kernel_rfl) (by rfl) (fun K hK => ?_)
          have HK := Lib.hid hK
          clear hK
          go_simp
          refine HK.out _ _ ?_
          clear HK K
          (try simp only [List.getElem_toArray, List.getElem_cons_zero, List.getElem_cons_succ, Act.put, List.setIfInBounds_toArray, List.set_cons_zero, List.set_cons_succ])
          refine wpAny_done (by kernel_rfl) ?_ _
          refine NoPanic.normal ?_
          clear cr' fk' hHeld ck cv cr
          go_wp2_with fail
          exact ⟨⟨m + 1, h, q.set i s, by omega, by go_num, rfl, b2, by rw [List.length_set]; exact hql, HQB.out, HZX.out, HNX.out, HUX.out, HVX.out, HRX.out, HZZ.out, HBX.out⟩, by simp [intOf]; omega⟩
        · obtain rfl : m = 4 := by omega
          rw [List.drop_eq_nil_of_le (by rw [HLV.out]; exact Nat.le_refl _), nv, Nat.mul_zero, Nat.zero_mul, Nat.add_zero] at hqn
          have fk := hrr.free (k + 4)
          have cr := hrr.cell (k := k + 4) (by omega)
          have hw4 : IntKind.i64.wrap ((k : Int) + 4) = ((k + 4 : Nat) : Int) := by rw [IntKind.wrap_i64]; omega
          obtain ⟨i, hi⟩ : ∃ i, k + 4 = i := ⟨_, rfl⟩
          have hi8 : i < 8 := by omega
          have hi8i : (i : Int) < 8 := by omega
          have HNX := Lib.hid (show nv (q.set i d) + nv (lu.drop (k + 1)) * v * pw64 (k + 1) = u * v by
            have h0 := nv_set q i d (by omega)
            rw [← hi, hqz (k + 4) (Nat.le_refl _), hi] at h0
            have h1 := HNR.out
            rw [HXD.out] at h1
            rw [pw64_succ]
            refine out_step (x := x) (r := nv r) ?_ h1
            rw [← hqn, hi]
            have : pw64 i = 18446744073709551616 ^ i := rfl
            rw [this]
            omega)
          have HZX := Lib.hid (show ∀ j, k + 1 + 4 ≤ j → nt (q.set i d) j = 0 from fun j hj => by rw [nt_set (by omega)]; exact hqz j (by omega))
          rw [hi] at fk cr hw4
          have HRX := Lib.hid (hrr.set i d)
          have HUX := Lib.hid (hru.far (g := g + 3) (by omega) i (.int .u64 (d : Int)))
          have HVX := Lib.hid (hrv.far (g := g + 3) (by omega) i (.int .u64 (d : Int)))
          have HZZ := Lib.hid (show Blk4 (wr.setCell ⟨g + 3, i, none⟩ (.int .u64 (d : Int))) (g + 2) _ from ⟨hz.1, (Below.heap_setCell wr ⟨g + 3, i, none⟩ (.int .u64 (d : Int)) (g + 2) (show g + 2 ≠ g + 3 by omega)).trans hz.2⟩)
          have HBX := Lib.hid (hbr.setCell (p := ⟨g + 3, i, none⟩) (Nat.le_add_right g 3) (.int .u64 (d : Int)))
          have HQB := Lib.hid (hqb.set hd i)
          clear hqn hqz hqb hru hrv hrr hz hbr hi HRU HRV HRR HRZ HRB HNR HZR
          go_wp2_with fail
          exact ⟨⟨k + 1, q.set i d, by omega, by go_num, by rw [List.length_set]; exact hql, HQB.out, HZX.out, HNX.out, HUX.out, HVX.out, HRX.out, HZZ.out, HBX.out⟩, by simp [intOf]; omega⟩
    · obtain rfl : k = 4 := by omega
      rw [List.drop_eq_nil_of_le (by rw [HLU.out]; exact Nat.le_refl _), nv, Nat.zero_mul, Nat.zero_mul, Nat.add_zero] at hrn
      have HN := Lib.hid hrn
      obtain ⟨lo, hlo⟩ : ∃ lo, r.take 4 = lo := ⟨_, rfl⟩
      obtain ⟨hh, hhi⟩ : ∃ hh, r.drop 4 = hh := ⟨_, rfl⟩
      have hlol : lo.length = 4 := by rw [← hlo, List.length_take, hrl]; rfl
      have hhil : hh.length = 4 := by rw [← hhi, List.length_drop, hrl]
      have hlob : AllB lo := fun y hy => hrb y (by rw [← hlo] at hy; exact List.mem_of_mem_take hy)
      have hhib : AllB hh := fun y hy => hrb y (by rw [← hhi] at hy; exact List.mem_of_mem_drop hy)
      have hlt' : ∀ j, j < 4 → nt lo j = nt r j := fun j hj => by
        unfold nt; rw [List.getD_eq_getElem?_getD, List.getD_eq_getElem?_getD, ← hlo, List.getElem?_take, if_pos hj]
      have hht' : ∀ j, nt hh j = nt r (j + 4) := fun j => by
        unfold nt; rw [List.getD_eq_getElem?_getD, List.getD_eq_getElem?_getD, ← hhi, List.getElem?_drop, Nat.add_comm]
      have HSP := Lib.hid (show u * v = nv lo + 115792089237316195423570985008687907853269984665640564039457584007913129639936 * nv hh by
        rw [← hrn, ← List.take_append_drop 4 r, nv_app, hlo, hhi, hlol])
      have HLT := Lib.hid hlt'
      have HHT := Lib.hid hht'
      have HLB := Lib.hid hlob
      have HHB := Lib.hid hhib
      have hba := (Below.refl wr.heap.size wr).alloc (Nat.le_refl _) (.cells #[.int .u64 0, .int .u64 0, .int .u64 0, .int .u64 0] 33)
      have hgz := hz.lt
      have hgr := hrr.lt
      have HR5 := Lib.hid (hrr.below hba hgr)
      have HZ5 := Lib.hid (hz.below hba hgz)
      have HO5 := Lib.hid (show RowU (wr.alloc (.cells #[.int .u64 0, .int .u64 0, .int .u64 0, .int .u64 0] 33)) 33 wr.heap.size [0, 0, 0, 0] from heap_alloc_new wr _)
      have HB5 := Lib.hid (hbr.trans (hba.mono (by omega)))
      clear hlo hhi hlob hhib hlt' hht' hba hrn hrz hrb hru hrv hrr hz hbr
      go_wp2_with fail
      generalize wr.alloc (.cells #[.int .u64 0, .int .u64 0, .int .u64 0, .int .u64 0] 33) = w5 at *
      obtain ⟨p, hp⟩ : ∃ p, wr.heap.size = p := ⟨_, rfl⟩
      rw [hp] at HO5 hgz hgr ⊢
      clear hp wr
      rw [show ((4 : Nat) : Int) = 4 from rfl]
      go_loopw [10, 44] (fun c j wr => ∃ (m d : Nat) (q : List Nat), m ≤ 4 ∧ j = .int .i64 (m : Int) ∧ c = .int .u64 (d : Int) ∧ d < 18446744073709551616 ∧ q.length = 4 ∧ AllB q ∧ (∀ j, m ≤ j → nt q j = 0) ∧ nv q + d * pw64 m + (nv (lo.drop m) + 38 * nv (hh.drop m)) * pw64 m = nv lo + 38 * nv hh ∧ RowU wr 60 (g + 3) r ∧ RowU wr 33 p q ∧ Blk4 wr (g + 2) #[.int .u64 0, .int .u64 0, .int .u64 0, .int .u64 0] ∧ Below g w wr) (fun _ j _ => 4 - (intOf j).toNat)
      case' atStart => exact ⟨0, 0, [0, 0, 0, 0], by omega, rfl, rfl, by omega, rfl, (fun x hx => by simp at hx; omega), (fun j _ => by
        have := zero8_is j
        unfold nt at this ⊢
        rw [List.getD_eq_getElem?_getD] at this ⊢
        rcases (show j = 0 ∨ j = 1 ∨ j = 2 ∨ j = 3 ∨ 4 ≤ j by omega) with rfl | rfl | rfl | rfl | h
        all_goals first | rfl | (rw [List.getElem?_eq_none (by simpa using h)]; rfl)), by rw [pw64_zero, List.drop_zero, List.drop_zero]; simp [nv], HR5.out, HO5.out, HZ5.out, HB5.out⟩
      case' round =>
        obtain ⟨m, d, q, hm, rfl, rfl, hd, hql, hqb, hqz, hqn, hrr, hro, hz, hbr⟩ := hrel
        by_cases hlm : m < 4
        · obtain ⟨i, hi⟩ : ∃ i, m + 4 = i := ⟨_, rfl⟩
          have hi8 : i < 8 := by omega
          have hi8i : (i : Int) < 8 := by omega
          have hm8i : (m : Int) < 8 := by omega
          have hwi : IntKind.i64.wrap ((m : Int) + 4) = (i : Int) := by rw [IntKind.wrap_i64]; omega
          have ch := hrr.cell (k := i) (by omega)
          rw [← hi, ← HHT.out m, hi] at ch
          have cl := hrr.cell (k := m) (by omega)
          rw [← HLT.out m hlm] at cl
          have co := hro.cell (k := m) (by omega)
          have fo' : wr.drew.frozen? ⟨p, m, none⟩ = false := hro.free m
          have co' : wr.drew.cell? ⟨p, m, none⟩ = some (.int .u64 (nt q m : Int)) := co
          obtain ⟨s, h, b1, b2, b3, hS⟩ := step_any (nt hh m) 38 (nt lo m) d (nt_lt HHB.out m) (by decide) (nt_lt HLB.out m) hd
          have HS := Lib.hid hS
          have HNX := Lib.hid (show nv (q.set m s) + h * pw64 (m + 1) + (nv (lo.drop (m + 1)) + 38 * nv (hh.drop (m + 1))) * pw64 (m + 1) = nv lo + 38 * nv hh by
            rw [nv_drop lo m (by omega), nv_drop hh m (by omega)] at hqn
            have h0 := nv_set q m s (by omega)
            rw [hqz m (Nat.le_refl _)] at h0
            rw [pw64_succ]
            exact red_step h0 hqn b3)
          have HZX := Lib.hid (show ∀ j, m + 1 ≤ j → nt (q.set m s) j = 0 from fun j hj => by rw [nt_set (by omega)]; exact hqz j (by omega))
          have HOX := Lib.hid (show RowU (wr.setCell ⟨p, m, none⟩ (.int .u64 (s : Int))).drew 33 p _ from hro.set m s)
          have HRX := Lib.hid (show RowU (wr.setCell ⟨p, m, none⟩ (.int .u64 (s : Int))).drew 60 (g + 3) r from hrr.far (g := p) (by omega) m (.int .u64 (s : Int)))
          have HZZ := Lib.hid (show Blk4 (wr.setCell ⟨p, m, none⟩ (.int .u64 (s : Int))).drew (g + 2) _ from ⟨hz.1, (Below.heap_setCell wr ⟨p, m, none⟩ (.int .u64 (s : Int)) (g + 2) (show g + 2 ≠ p by omega)).trans hz.2⟩)
          have HBX := Lib.hid (hbr.setCell (p := ⟨p, m, none⟩) (show g ≤ p by omega) (.int .u64 (s : Int))).drew
          have HQB := Lib.hid (hqb.set b1 m)
          clear hS hqn hqz hqb hrr hro hz hbr b3 hi
          go_wp2_with fail
          refine wp_region_noPanic ?_
          refine wp_region_until (S := (fun w' => w'.cell? ⟨g + 3, i, none⟩ = some (.int .u64 (nt hh m : Int)) ∧ w'.cell? ⟨g + 3, m, none⟩ = some (.int .u64 (nt lo m : Int)))) 9 (by kernel_rfl) ?_ (fun hHeld => ?_)
          · (try dsimp only)
            exact ⟨ch, cl⟩
          refine wpAnyU_takeY (i := 0) (v := ?v31) rfl (by kernel_rfl) (fun _ _ _ h => h) (Or.inl ⟨by rfl, ?y31⟩) (by assumption) ?r31
          case y31 => (intro W; first | (go_simp; done) | (go_simp; with_reducible rfl))
          (try simp only [List.getElem_toArray, List.getElem_cons_zero, Act.put, List.setIfInBounds_toArray, List.set_cons_zero, List.set_cons_succ])
          refine wpAnyU_takeY (i := 1) (v := ?v32) rfl (by kernel_rfl) (fun _ _ _ h => h) (Or.inl ⟨by rfl, ?y32⟩) (by assumption) ?r32
          case y32 => (intro W; first | (go_simp; done) | (go_simp; with_reducible rfl))
          (try simp only [List.getElem_toArray, List.getElem_cons_zero, List.getElem_cons_succ, Act.put, List.setIfInBounds_toArray, List.set_cons_zero, List.set_cons_succ])
          refine wpAnyU_takeY (i := 2) (v := ?v33) rfl (by kernel_rfl) (fun _ _ _ h => h) (Or.inl ⟨by rfl, ?y33⟩) (by assumption) ?r33
          case y33 => (intro W; first | (go_simp; done) | (go_simp; with_reducible rfl))
          (try simp only [List.getElem_toArray, List.getElem_cons_zero, List.getElem_cons_succ, Act.put, List.setIfInBounds_toArray, List.set_cons_zero, List.set_cons_succ])
          refine wpAnyU_takeY (i := 3) (v := ?v34) rfl (by kernel_rfl) (fun _ _ _ h => h) (Or.inl ⟨by rfl, ?y34⟩) (by assumption) ?r34
          case y34 => (intro W; first | (go_simp; done) | (go_simp; with_reducible rfl))
          (try simp only [List.getElem_toArray, List.getElem_cons_zero, List.getElem_cons_succ, Act.put, List.setIfInBounds_toArray, List.set_cons_zero, List.set_cons_succ])
          refine wpAnyU_takeW (i := 4) (v := ?v35) rfl (by kernel_rfl) (fun _ _ _ h => h) (Or.inl ⟨by rfl, ?y35⟩) (by assumption) ?r35
          case y35 => (intro W hSW; (try dsimp only at hSW); first | (go_simp; done) | (go_simp; with_reducible rfl))
          (try simp only [List.getElem_toArray, List.getElem_cons_zero, List.getElem_cons_succ, Act.put, List.setIfInBounds_toArray, List.set_cons_zero, List.set_cons_succ])
          refine wpAnyU_takeY (i := 5) (v := ?v36) rfl (by kernel_rfl) (fun _ _ _ h => h) (Or.inl ⟨by rfl, ?y36⟩) (by assumption) ?r36
          case y36 => (intro W; first | (go_simp; done) | (go_simp; with_reducible rfl))
          (try simp only [List.getElem_toArray, List.getElem_cons_zero, List.getElem_cons_succ, Act.put, List.setIfInBounds_toArray, List.set_cons_zero, List.set_cons_succ])
          refine wpAnyU_takeY (i := 6) (v := ?v37) rfl (by kernel_rfl) (fun _ _ _ h => h) (Or.inl ⟨by rfl, ?y37⟩) (by assumption) ?r37
          case y37 => (intro W; first | (go_simp; done) | (go_simp; with_reducible rfl))
          (try simp only [List.getElem_toArray, List.getElem_cons_zero, List.getElem_cons_succ, Act.put, List.setIfInBounds_toArray, List.set_cons_zero, List.set_cons_succ])
          refine wpAnyU_takeW (i := 7) (v := ?v38) rfl (by kernel_rfl) (fun _ _ _ h => h) (Or.inl ⟨by rfl, ?y38⟩) (by assumption) ?r38
          case y38 => (intro W hSW; (try dsimp only at hSW); first | (go_simp; done) | (go_simp; with_reducible rfl))
          (try simp only [List.getElem_toArray, List.getElem_cons_zero, List.getElem_cons_succ, Act.put, List.setIfInBounds_toArray, List.set_cons_zero, List.set_cons_succ])
          refine wpAnyU_takeY (i := 8) (v := ?v39) rfl (by kernel_rfl) (fun _ _ _ h => h) (Or.inl ⟨by rfl, ?y39⟩) (by assumption) ?r39
          case y39 => (intro W; first | (go_simp; done) | (go_simp; with_reducible rfl))
          (try simp only [List.getElem_toArray, List.getElem_cons_zero, List.getElem_cons_succ, Act.put, List.setIfInBounds_toArray, List.set_cons_zero, List.set_cons_succ])
          refine wpAnyU_at (c := 9) rfl (by kernel_rfl) (by rfl) (fun K hK => ?_)
          have HK := Lib.hid hK
          clear hK
          go_simp
          refine (HS.out _).mono ?_
          rintro e w' ⟨rfl, rfl⟩
          refine HK.out _ _ ?_
          clear HK K
          (try simp only [List.getElem_toArray, List.getElem_cons_zero, List.getElem_cons_succ, Act.put, List.setIfInBounds_toArray, List.set_cons_zero, List.set_cons_succ])
          refine wpAny_takeY (i := 10) (v := ?v41) rfl (by kernel_rfl) (fun _ _ _ h => h) (Or.inl ⟨by rfl, ?y41⟩) ?r41
          case y41 => (intro W; first | (go_simp; done) | (go_simp; with_reducible rfl))
          (try simp only [List.getElem_toArray, List.getElem_cons_zero, List.getElem_cons_succ, Act.put, List.setIfInBounds_toArray, List.set_cons_zero, List.set_cons_succ])
          refine wpAny_takeY (i := 11) (v := ?v42) rfl (by kernel_rfl) (fun _ _ _ h => h) (Or.inl ⟨by rfl, ?y42⟩) ?r42
          case y42 => (intro W; first | (go_simp; done) | (go_simp; with_reducible rfl))
          (try simp only [List.getElem_toArray, List.getElem_cons_zero, List.getElem_cons_succ, Act.put, List.setIfInBounds_toArray, List.set_cons_zero, List.set_cons_succ])
          refine wpAny_takeY (i := 12) (v := ?v43) rfl (by kernel_rfl) (fun _ _ _ h => h) (Or.inl ⟨by rfl, ?y43⟩) ?r43
          case y43 => (intro W; first | (go_simp; done) | (go_simp; with_reducible rfl))
          (try simp only [List.getElem_toArray, List.getElem_cons_zero, List.getElem_cons_succ, Act.put, List.setIfInBounds_toArray, List.set_cons_zero, List.set_cons_succ])
          refine wpAny_takeY (i := 13) (v := ?v44) rfl (by kernel_rfl) (fun _ _ _ h => h) (Or.inl ⟨by rfl, ?y44⟩) ?r44
          case y44 => (intro W; first | (go_simp; done) | (go_simp; with_reducible rfl))
          (try simp only [List.getElem_toArray, List.getElem_cons_zero, List.getElem_cons_succ, Act.put, List.setIfInBounds_toArray, List.set_cons_zero, List.set_cons_succ])
          refine wpAny_at (c := 14) rfl (by kernel_rfl) (by rfl) (fun K hK => ?_)
          have HK := Lib.hid hK
          clear hK
          go_simp
          refine HK.out _ _ ?_
          clear HK K
          (try simp only [List.getElem_toArray, List.getElem_cons_zero, List.getElem_cons_succ, Act.put, List.setIfInBounds_toArray, List.set_cons_zero, List.set_cons_succ])
          refine wpAny_at (c := 15) rfl (by kernel_rfl) (by rfl) (fun K hK => ?_)
          have HK := Lib.hid hK
          clear hK
          go_simp
          refine HK.out _ _ ?_
          clear HK K
          (try simp only [List.getElem_toArray, List.getElem_cons_zero, List.getElem_cons_succ, Act.put, List.setIfInBounds_toArray, List.set_cons_zero, List.set_cons_succ])
          refine wpAny_done (by kernel_rfl) ?_ _
          refine NoPanic.normal ?_
          clear co' fo' hHeld ch cl co
          go_wp2_with fail
          exact ⟨⟨m + 1, h, q.set m s, by omega, by go_num, rfl, b2, by rw [List.length_set]; exact hql, HQB.out, HZX.out, HNX.out, HRX.out, HOX.out, HZZ.out, HBX.out⟩, by simp [intOf]; omega⟩
        · obtain rfl : m = 4 := by omega
          rw [List.drop_eq_nil_of_le (by omega), List.drop_eq_nil_of_le (by omega), nv, Nat.mul_zero, Nat.zero_mul, Nat.add_zero, pw64_4] at hqn
          have hq4 := nv_lt hqb
          rw [hql] at hq4
          have hl4 := nv_lt HLB.out
          rw [hlol] at hl4
          have hh4 := nv_lt HHB.out
          rw [hhil] at hh4
          have hd38 : d ≤ 38 := by omega
          have hwr : IntKind.u64.wrap (38 * (d : Int)) = ((38 * d : Nat) : Int) := by rw [IntKind.wrap_u64]; omega
          obtain ⟨n1, hn1⟩ : ∃ n1, 38 * d = n1 := ⟨_, rfl⟩
          rw [hn1] at hwr
          have HPL := Lib.hid (plus_any q hql hqb n1 (by omega))
          have HQG := Lib.hid (show Blk4 wr p (uv q).toArray from ⟨by rw [List.size_toArray, length_uv, hql], hro⟩)
          have HZ6 := Lib.hid hz
          have HB6 := Lib.hid hbr
          have hpz := hro.lt
          clear hro hrr hz hbr hqz hqb
          have hQs : (uv q).toArray.size = 4 := by rw [List.size_toArray, length_uv, hql]
          have hqe : ¬ (uv q).toArray = #[] := by intro h; rw [h] at hQs; cases hQs
          generalize (uv q).toArray = QX at *
          have HEQ := Lib.hid hqn
          have HN1 := Lib.hid hn1
          clear hqn hn1
          go_wp2_with (refine wl_load4 (.tmp 9) HQG.out (by rfl) (by rfl) (by rfl) ?_)
          refine (HPL.out wr).mono ?_
          rintro e w6 ⟨q2, c2, rfl, hq2l, hq2b, hc2, hq2n, hb6⟩
          have hs6 := hb6.size
          have HQ6 := Lib.hid (HQG.out.below hb6 hpz)
          have HZ7 := Lib.hid (HZ6.out.below hb6 (by omega))
          have HB7 := Lib.hid (HB6.out.trans (hb6.mono (by omega)))
          have hwr2 : IntKind.u64.wrap (38 * (c2 : Int)) = ((38 * c2 : Nat) : Int) := by rw [IntKind.wrap_u64]; omega
          obtain ⟨n2, hn2⟩ : ∃ n2, 38 * c2 = n2 := ⟨_, rfl⟩
          rw [hn2] at hwr2
          have HPL2 := Lib.hid (plus_any q2 hq2l hq2b n2 (by omega))
          have hQ2s : (uv q2).toArray.size = 4 := by rw [List.size_toArray, length_uv, hq2l]
          have hQ2o := uv_one q2
          have HEQ2 := Lib.hid hq2n
          have HN2 := Lib.hid hn2
          have hq2e : ¬ (uv q2).toArray = #[] := by intro h; rw [h] at hQ2s; cases hQ2s
          clear hb6 hq2n hn2 hwr HPL hqe hQs HQG HZ6 HB6
          generalize (uv q2).toArray = Q2 at *
          have HQ7 := Lib.hid (HQ6.out.set (Y := Q2) hQ2s)
          have HZ8 := Lib.hid (HZ7.out.far (show g + 2 ≠ p by omega) Q2)
          have HB8 := Lib.hid (below_setRow HB7.out (show g ≤ p by omega) Q2)
          have hs7 : (w6.setRow p Q2).heap.size = w6.heap.size := size_setRow _ _ _
          go_wp2_with (first | (refine wl_store4 (.tmp 9) (.tmp 67) HQ6.out (by rfl) (by rfl) (by rfl) (Y := Q2) (by rfl) hQ2s hQ2o ?_) | (refine wl_load4 (.tmp 9) HQ7.out (by rfl) (by rfl) (by rfl) ?_))
          generalize w6.setRow p Q2 = w7 at *
          refine (HPL2.out w7).mono ?_
          rintro e w8 ⟨q3, c3, rfl, hq3l, hq3b, hc3, hq3n, hb8⟩
          have hs8 := hb8.size
          have HQ8 := Lib.hid (HQ7.out.below hb8 (by omega))
          have HZ9 := Lib.hid (HZ8.out.below hb8 (by omega))
          have HB9 := Lib.hid (HB8.out.trans (hb8.mono (by omega)))
          have hv3l := nv_lt hq3b
          rw [hq3l] at hv3l
          have hv2l := nv_lt hq2b
          rw [hq2l] at hv2l
          have hmod : nv q3 % pF = u * v % pF := by
            have e1 := HEQ.out
            have e2 := HEQ2.out
            have e3 := HN1.out
            have e4 := HN2.out
            have e5 := HSP.out
            rw [pw64_4] at e2 hq3n
            have hc0 : c3 = 0 := by omega
            have e6 : u * v + pF * 0 = nv q3 + pF * (2 * nv hh + 2 * d + 2 * c2) := by
              rw [pF_is, e5]
              omega
            have e7 := congrArg (· % pF) e6
            simp only [Nat.add_mul_mod_self_left] at e7
            exact e7.symm
          have hre : ws 4 (nv q3) = q3 := by rw [← hq3l]; exact ws_nv hq3b
          have hel : (uv q3).toArray = elc (nv q3) := by unfold elc; rw [hre]
          have HNM := Lib.hid (Norm_any (nv q3) hv3l)
          rw [hmod] at HNM
          rw [el_is (nv q3), ← hel] at HNM
          have hQ3s : (uv q3).toArray.size = 4 := by rw [List.size_toArray, length_uv, hq3l]
          have hQ3o := uv_one q3
          have hq3e : ¬ (uv q3).toArray = #[] := by intro h; rw [h] at hQ3s; cases hQ3s
          clear hb8 hq3n hmod hre hel hwr2 HPL2 hq2e hv3l
          generalize (uv q3).toArray = Q3 at *
          have HQ9 := Lib.hid (HQ8.out.set (Y := Q3) hQ3s)
          have HZ10 := Lib.hid (HZ9.out.far (show g + 2 ≠ p by omega) Q3)
          have HB10 := Lib.hid (below_setRow HB9.out (show g ≤ p by omega) Q3)
          have hs9 : (w8.setRow p Q3).heap.size = w8.heap.size := size_setRow _ _ _
          go_wp2_with (first | (refine wl_store4 (.tmp 9) (.tmp 74) HQ8.out (by rfl) (by rfl) (by rfl) (Y := Q3) (by rfl) hQ3s hQ3o ?_) | (refine wl_load4 (.tmp 9) HQ9.out (by rfl) (by rfl) (by rfl) ?_))
          generalize w8.setRow p Q3 = w9 at *
          refine (HNM.out w9).mono ?_
          rintro e w10 ⟨rfl, hb10⟩
          have HZ11 := Lib.hid (HZ10.out.below hb10 (by omega))
          have HB11 := Lib.hid (HB10.out.trans (hb10.mono (by omega)))
          obtain ⟨F, hF⟩ : ∃ F, u * v % pF = F := ⟨_, rfl⟩
          rw [hF] at ⊢
          have HFF := Lib.hid hF
          have hY := elc_size F
          have hO := elc_one F
          have HE := Lib.hid (el_is F)
          rw [el_is F]
          clear hb10 hF
          generalize elc F = Y at *
          have HRS := Lib.hid ((HZ11.out.set (Y := Y) hY).load)
          have HBS := Lib.hid (below_setRow HB11.out (show g ≤ g + 2 by omega) Y)
          go_wp2_with (refine wl_store4 (.tmp 4) (.tmp 77) HZ11.out (by rfl) (by rfl) (by rfl) (Y := Y) (by rfl) hY hO ?_)
          (try simp only [Exit.inBlock, Exit.then])
          refine bodyPost_ret (v := .agg Y) (results_cellU rfl _ _ _ ⟨g + 2, 0, none⟩ _ rfl HRS.out) rfl ?_
          exact ⟨by rw [HFF.out, HE.out], by rw [HG.out]; exact HBS.out⟩
end Go.Proofs.Ytgpjidlomhkpeaa
