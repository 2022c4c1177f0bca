/-
  Contracts of field.Of, field.add. Conditions: the numbers fit.
-/
import Derived.Test.YtgpjidlomhkpeaaFeA
import Derived.Test.YtgpjidlomhkpeaaUntil
import Derived.BigQuiet
import Derived.StillTailTactics
import Derived.Deep.RegionHeld3
namespace Go.Proofs.Ytgpjidlomhkpeaa
open Go Go.RowKit Go.Sh

def elc (v : Nat) : Array Value := (uv (ws 4 v)).toArray
theorem el_is (v : Nat) : el v = .agg (elc v) := rfl
theorem elc_size (v : Nat) : (elc v).size = 4 := rfl
theorem elc_one (v : Nat) : ∀ x ∈ (elc v).toList, x.oneCell' = true := uv_one _
theorem newThree (w : World) (o1 o2 o3 : Obj) : (((w.alloc o1).alloc o2).alloc o3).heap.size = w.heap.size + 3 ∧ (((w.alloc o1).alloc o2).alloc o3).heap[w.heap.size]? = some o1 ∧ (((w.alloc o1).alloc o2).alloc o3).heap[w.heap.size + 1]? = some o2 ∧ (((w.alloc o1).alloc o2).alloc o3).heap[w.heap.size + 2]? = some o3 ∧ Below w.heap.size w (((w.alloc o1).alloc o2).alloc o3) := by
  obtain ⟨h1, h2, h3, h4⟩ := newTwo w o1 o2
  have h5 := heap_alloc_new ((w.alloc o1).alloc o2) o3
  have b2 := (Below.refl ((w.alloc o1).alloc o2).heap.size ((w.alloc o1).alloc o2)).alloc (Nat.le_refl _) o3
  rw [h1] at h5 b2
  exact ⟨by simp, (b2.block _ (by omega)).trans h2, (b2.block _ (by omega)).trans h3, h5, h4.trans (b2.mono (by omega))⟩
theorem carry_add {Q x y s c d nvn nvo R T : Nat} (h1 : nvn + x * Q = nvo + s * Q) (h2 : nvo + c * Q + (y + 18446744073709551616 * R) * Q = T) (h3 : s + 18446744073709551616 * d = x + y + c) : nvn + d * (Q * 18446744073709551616) + R * (Q * 18446744073709551616) = T := by
  have h4 := congrArg (· * Q) h3
  simp only [Nat.add_mul] at h4 h2
  have e : d * (Q * 18446744073709551616) = 18446744073709551616 * d * Q := by rw [← Nat.mul_assoc, Nat.mul_comm, Nat.mul_assoc]
  have e2 : R * (Q * 18446744073709551616) = 18446744073709551616 * R * Q := by rw [← Nat.mul_assoc, Nat.mul_comm, Nat.mul_assoc]
  rw [e, e2]
  omega
set_option maxRecDepth 100000 in
/-- field.Of -/
theorem Of_any (n : Nat) (hn : n < 18446744073709551616) (w : World) : Calls Try.prog 15 #[.int .u64 (n : Int)] w fun e w' => e = .returned (el n) ∧ Below w.heap.size w w' := by
  have he : Value.agg #[.int .u64 (n : Int), .int .u64 ((0 : Nat) : Int), .int .u64 ((0 : Nat) : Int), .int .u64 ((0 : Nat) : Int)] = el n := by
    rw [el_of hn (by decide) (by decide) (by decide)]
    congr 1
  have HE := Lib.hid he
  have HL := Lib.hid (Blk4.new w (X := #[.int .u64 (n : Int), .int .u64 0, .int .u64 0, .int .u64 0]) rfl).load
  have HB := Lib.hid ((Below.refl w.heap.size w).alloc (Nat.le_refl _) (.cells #[.int .u64 (n : Int), .int .u64 0, .int .u64 0, .int .u64 0] 33))
  clear he
  go_enter Try.func15, Try.ntmps15
  go_wp2_with fail
  (try simp only [Exit.inBlock, Exit.then])
  refine bodyPost_ret (v := .agg #[.int .u64 (n : Int), .int .u64 0, .int .u64 0, .int .u64 0]) (results_cellU rfl _ _ _ ⟨w.heap.size, 0, none⟩ _ rfl HL.out) rfl ?_
  exact ⟨by rw [← HE.out]; rfl, HB.out⟩
set_option maxHeartbeats 4000000 in
set_option maxRecDepth 100000 in
/-- field.add -/
theorem add_any (u v : Nat) (hu : u < 115792089237316195423570985008687907853269984665640564039457584007913129639936) (hv : v < 115792089237316195423570985008687907853269984665640564039457584007913129639936) (huv : u + v < 115792089237316195423570985008687907853269984665640564039457584007913129639936) (w : World) :
    Calls Try.prog 26 #[el u, el v] w fun e w' => e = .returned (el ((u + v) % pF)) ∧ Below w.heap.size w w' := by
  rw [el_is u, el_is v]
  have hxs := elc_size u
  have hys := elc_size v
  obtain ⟨hs3, hu3, hv3, hz3, hB3⟩ := newThree w (.cells (elc u) 33) (.cells (elc v) 33) (.cells #[.int .u64 0, .int .u64 0, .int .u64 0, .int .u64 0] 33)
  have HU := Lib.hid (show RowU _ _ w.heap.size (ws 4 u) from hu3)
  have HVr := Lib.hid (show RowU _ _ (w.heap.size + 1) (ws 4 v) from hv3)
  have HZ := Lib.hid (show Blk4 _ (w.heap.size + 2) _ from ⟨rfl, hz3⟩)
  have HB := Lib.hid hB3
  have HU0 := Lib.hid (show nv (ws 4 u) = u from nv_ws 4 u hu)
  have HV0 := Lib.hid (show nv (ws 4 v) = v from nv_ws 4 v hv)
  clear hu3 hv3 hz3 hB3 hs3
  have hxe : ¬ elc u = #[] := by intro h; rw [h] at hxs; cases hxs
  have hye : ¬ elc v = #[] := by intro h; rw [h] at hys; cases hys
  generalize hxc : elc u = xc at *
  generalize hyc : elc v = yc at *
  clear hxc hyc
  go_enter Try.func26, Try.ntmps26
  go_wp2_with fail
  clear hxs hys hxe hye
  generalize ((w.alloc (.cells xc 33)).alloc (.cells yc 33)).alloc (.cells #[.int .u64 0, .int .u64 0, .int .u64 0, .int .u64 0] 33) = w3 at *
  generalize hg : w.heap.size = g at *
  have HG := Lib.hid hg
  have HLV := Lib.hid (length_ws 4 v)
  have HAV := Lib.hid (AllB.ws 4 v)
  have HLU := Lib.hid (length_ws 4 u)
  have HAU := Lib.hid (AllB.ws 4 u)
  clear hg hu hv
  generalize ws 4 u = lu at *
  generalize ws 4 v = lv at *
  go_loopw [5, 6, 7] (fun c _ i wr => ∃ (k d : Nat) (r : List Nat), k ≤ 4 ∧ i = .int .i64 (k : Int) ∧ c = .int .u64 (d : Int) ∧ d ≤ 1 ∧ r.length = 4 ∧ AllB r ∧ nv r + d * pw64 k + nv (lv.drop k) * pw64 k = u + v ∧ RowU wr 33 g r ∧ RowU wr 33 (g + 1) lv ∧ Blk4 wr (g + 2) #[.int .u64 0, .int .u64 0, .int .u64 0, .int .u64 0] ∧ Below g w wr) (fun _ _ i _ => 4 - (intOf i).toNat)
  case' atStart => exact ⟨0, 0, lu, by omega, rfl, rfl, by omega, HLU.out, HAU.out, by rw [pw64_zero, List.drop_zero, HU0.out, HV0.out]; omega, HU.out, HVr.out, HZ.out, HB.out⟩
  case' round =>
    obtain ⟨k, d, r, hk, rfl, rfl, hd, hrl, hrb, hrn, hr, hv, hz, hbr⟩ := hrel
    by_cases hlt : k < 4
    · obtain ⟨s, d', b1, b2, b3, HA⟩ := add64 (nt r k) (nt lv k) d (nt_lt hrb k) (nt_lt HAV.out k) hd
      have ck := hr.cell (k := k) (by omega)
      have cv := hv.cell (k := k) (by have := HLV.out; omega)
      have fk := hr.free k
      have fk' : wr.drew.frozen? ⟨g, k, none⟩ = false := fk
      have ck' : wr.drew.cell? ⟨g, k, none⟩ = some (.int .u64 (nt r k : Int)) := ck
      go_wp2_with fail
      refine wp_region_noPanic ?_
      refine wp_region_until (S := (fun w' => w'.cell? ⟨g, k, none⟩ = some (.int .u64 (nt r k : Int)) ∧ w'.cell? ⟨g + 1, k, none⟩ = some (.int .u64 (nt lv k : Int)))) 13 (by kernel_rfl) ?_ (fun hHeld => ?_)
      · (try dsimp only)
        exact ⟨ck, cv⟩
      refine wpAnyU_takeY (i := 0) (v := ?v1) rfl (by kernel_rfl) (fun _ _ _ h => h) (Or.inl ⟨by rfl, ?y1⟩) (by assumption) ?r1
      case y1 => (intro W; first | (go_simp; done) | (go_simp; with_reducible rfl))
      (try simp only [List.getElem_toArray, List.getElem_cons_zero, Act.put, List.setIfInBounds_toArray, List.set_cons_zero, List.set_cons_succ])
      refine wpAnyU_takeY (i := 1) (v := ?v2) rfl (by kernel_rfl) (fun _ _ _ h => h) (Or.inl ⟨by rfl, ?y2⟩) (by assumption) ?r2
      case y2 => (intro W; first | (go_simp; done) | (go_simp; with_reducible rfl))
      (try simp only [List.getElem_toArray, List.getElem_cons_zero, List.getElem_cons_succ, Act.put, List.setIfInBounds_toArray, List.set_cons_zero, List.set_cons_succ])
      refine wpAnyU_takeY (i := 2) (v := ?v3) rfl (by kernel_rfl) (fun _ _ _ h => h) (Or.inl ⟨by rfl, ?y3⟩) (by assumption) ?r3
      case y3 => (intro W; first | (go_simp; done) | (go_simp; with_reducible rfl))
      (try simp only [List.getElem_toArray, List.getElem_cons_zero, List.getElem_cons_succ, Act.put, List.setIfInBounds_toArray, List.set_cons_zero, List.set_cons_succ])
      refine wpAnyU_takeW (i := 3) (v := ?v4) rfl (by kernel_rfl) (fun _ _ _ h => h) (Or.inl ⟨by rfl, ?y4⟩) (by assumption) ?r4
      case y4 => (intro W hSW; (try dsimp only at hSW); first | (go_simp; done) | (go_simp; with_reducible rfl))
      (try simp only [List.getElem_toArray, List.getElem_cons_zero, List.getElem_cons_succ, Act.put, List.setIfInBounds_toArray, List.set_cons_zero, List.set_cons_succ])
      refine wpAnyU_takeY (i := 4) (v := ?v5) rfl (by kernel_rfl) (fun _ _ _ h => h) (Or.inl ⟨by rfl, ?y5⟩) (by assumption) ?r5
      case y5 => (intro W; first | (go_simp; done) | (go_simp; with_reducible rfl))
      (try simp only [List.getElem_toArray, List.getElem_cons_zero, List.getElem_cons_succ, Act.put, List.setIfInBounds_toArray, List.set_cons_zero, List.set_cons_succ])
      refine wpAnyU_takeY (i := 5) (v := ?v6) rfl (by kernel_rfl) (fun _ _ _ h => h) (Or.inl ⟨by rfl, ?y6⟩) (by assumption) ?r6
      case y6 => (intro W; first | (go_simp; done) | (go_simp; with_reducible rfl))
      (try simp only [List.getElem_toArray, List.getElem_cons_zero, List.getElem_cons_succ, Act.put, List.setIfInBounds_toArray, List.set_cons_zero, List.set_cons_succ])
      refine wpAnyU_takeW (i := 6) (v := ?v7) rfl (by kernel_rfl) (fun _ _ _ h => h) (Or.inl ⟨by rfl, ?y7⟩) (by assumption) ?r7
      case y7 => (intro W hSW; (try dsimp only at hSW); first | (go_simp; done) | (go_simp; with_reducible rfl))
      (try simp only [List.getElem_toArray, List.getElem_cons_zero, List.getElem_cons_succ, Act.put, List.setIfInBounds_toArray, List.set_cons_zero, List.set_cons_succ])
      refine wpAnyU_takeY (i := 7) (v := ?v8) rfl (by kernel_rfl) (fun _ _ _ h => h) (Or.inl ⟨by rfl, ?y8⟩) (by assumption) ?r8
      case y8 => (intro W; first | (go_simp; done) | (go_simp; with_reducible rfl))
      (try simp only [List.getElem_toArray, List.getElem_cons_zero, List.getElem_cons_succ, Act.put, List.setIfInBounds_toArray, List.set_cons_zero, List.set_cons_succ])
      refine wpAnyU_takeY (i := 8) (v := ?v9) rfl (by kernel_rfl) (fun _ _ _ h => h) (Or.inl ⟨by rfl, ?y9⟩) (by assumption) ?r9
      case y9 => (intro W; first | (go_simp; done) | (go_simp; with_reducible rfl))
      (try simp only [List.getElem_toArray, List.getElem_cons_zero, List.getElem_cons_succ, Act.put, List.setIfInBounds_toArray, List.set_cons_zero, List.set_cons_succ])
      refine wpAnyU_takeY (i := 9) (v := ?v10) rfl (by kernel_rfl) (fun _ _ _ h => h) (Or.inl ⟨by rfl, ?y10⟩) (by assumption) ?r10
      case y10 => (intro W; first | (go_simp; done) | (go_simp; with_reducible rfl))
      (try simp only [List.getElem_toArray, List.getElem_cons_zero, List.getElem_cons_succ, Act.put, List.setIfInBounds_toArray, List.set_cons_zero, List.set_cons_succ])
      refine wpAnyU_takeY (i := 10) (v := ?v11) rfl (by kernel_rfl) (fun _ _ _ h => h) (Or.inl ⟨by rfl, ?y11⟩) (by assumption) ?r11
      case y11 => (intro W; first | (go_simp; done) | (go_simp; with_reducible rfl))
      (try simp only [List.getElem_toArray, List.getElem_cons_zero, List.getElem_cons_succ, Act.put, List.setIfInBounds_toArray, List.set_cons_zero, List.set_cons_succ])
      refine wpAnyU_takeY (i := 11) (v := ?v12) rfl (by kernel_rfl) (fun _ _ _ h => h) (Or.inl ⟨by rfl, ?y12⟩) (by assumption) ?r12
      case y12 => (intro W; first | (go_simp; done) | (go_simp; with_reducible rfl))
      (try simp only [List.getElem_toArray, List.getElem_cons_zero, List.getElem_cons_succ, Act.put, List.setIfInBounds_toArray, List.set_cons_zero, List.set_cons_succ])
      refine wpAnyU_takeY (i := 12) (v := ?v13) rfl (by kernel_rfl) (fun _ _ _ h => h) (Or.inl ⟨by rfl, ?y13⟩) (by assumption) ?r13
      case y13 => (intro W; first | (go_simp; done) | (go_simp; with_reducible rfl))
      (try simp only [List.getElem_toArray, List.getElem_cons_zero, List.getElem_cons_succ, Act.put, List.setIfInBounds_toArray, List.set_cons_zero, List.set_cons_succ])
      refine wpAnyU_at (c := 13) rfl (by kernel_rfl) (by rfl) (fun K hK => ?_)
      have HK := Lib.hid hK
      clear hK
      go_simp
      refine HK.out _ _ ?_
      clear HK K
      (try simp only [List.getElem_toArray, List.getElem_cons_zero, List.getElem_cons_succ, Act.put, List.setIfInBounds_toArray, List.set_cons_zero, List.set_cons_succ])
      refine wpAny_at (c := 14) rfl (by kernel_rfl) (by rfl) (fun K hK => ?_)
      have HK := Lib.hid hK
      clear hK
      go_simp
      refine HK.out _ _ ?_
      clear HK K
      (try simp only [List.getElem_toArray, List.getElem_cons_zero, List.getElem_cons_succ, Act.put, List.setIfInBounds_toArray, List.set_cons_zero, List.set_cons_succ])
      refine wpAny_done (by kernel_rfl) ?_ _
      refine NoPanic.normal ?_
      have HNX := Lib.hid (show nv (r.set k s) + d' * pw64 (k + 1) + nv (lv.drop (k + 1)) * pw64 (k + 1) = u + v by
        have hd1 := nv_drop lv k (by have := HLV.out; omega)
        rw [hd1] at hrn
        have h0 := nv_set r k s (by omega)
        rw [pw64_succ]
        exact carry_add h0 hrn b3)
      have HRX := Lib.hid (show RowU (wr.setCell ⟨g, k, none⟩ (.int .u64 (s : Int))).drew 33 g _ from hr.set k s)
      have HVX := Lib.hid (show RowU (wr.setCell ⟨g, k, none⟩ (.int .u64 (s : Int))).drew 33 (g + 1) lv from hv.far (g := g) (by omega) k (.int .u64 (s : Int)))
      have HZX := Lib.hid (show Blk4 (wr.setCell ⟨g, k, none⟩ (.int .u64 (s : Int))).drew (g + 2) _ from ⟨hz.1, (Below.heap_setCell wr ⟨g, k, none⟩ (.int .u64 (s : Int)) (g + 2) (show g + 2 ≠ g by omega)).trans hz.2⟩)
      have HBX := Lib.hid (hbr.setCell (p := ⟨g, k, none⟩) (Nat.le_refl _) (.int .u64 (s : Int))).drew
      have HRB := Lib.hid (hrb.set b1 k)
      clear hr hv hz hbr hrb hrn b3 ck cv fk fk' ck' HA hHeld
      go_wp2_with fail
      exact ⟨⟨k + 1, d', r.set k s, by omega, by go_num, rfl, b2, by rw [List.length_set]; exact hrl, HRB.out, HNX.out, HRX.out, HVX.out, HZX.out, HBX.out⟩, by simp [intOf]; omega⟩
    · obtain rfl : k = 4 := by omega
      rw [List.drop_eq_nil_of_le (by rw [HLV.out]; exact Nat.le_refl _), nv, Nat.zero_mul, Nat.add_zero, pw64_4] at hrn
      have hd0 : nv r = u + v := by omega
      have hre : ws 4 (u + v) = r := by rw [← hd0, ← hrl]; exact ws_nv hrb
      subst hre
      have HRG := Lib.hid (show Blk4 wr g (elc (u + v)) from ⟨rfl, hr⟩)
      have HZG := Lib.hid hz
      have HBG := Lib.hid hbr
      have HN := Lib.hid (Norm_any (u + v) huv)
      rw [el_is (u + v)] at HN
      have hgs := hz.lt
      clear hr hv hz hbr hrb hrn hd0 hrl huv
      obtain ⟨uv0, huv0⟩ : ∃ x, u + v = x := ⟨_, rfl⟩
      rw [huv0] at HN HRG
      have HUV := Lib.hid huv0
      clear huv0
      generalize elc uv0 = X at *
      go_wp2_with (refine wl_load4 (.tmp 2) HRG.out (by rfl) (by rfl) (by rfl) ?_)
      refine (HN.out wr).mono ?_
      rintro e w5 ⟨rfl, hb5⟩
      have HZ5 := Lib.hid (HZG.out.below hb5 hgs)
      have HB5 := Lib.hid (HBG.out.trans (hb5.mono (by omega)))
      have hY := elc_size (uv0 % pF)
      have hO := elc_one (uv0 % pF)
      have HE := Lib.hid (el_is (uv0 % pF))
      rw [el_is (uv0 % pF)]
      clear hb5
      generalize elc (uv0 % pF) = Y at *
      have HRS := Lib.hid ((HZ5.out.set (Y := Y) hY).load)
      have HBS := Lib.hid (below_setRow HB5.out (show g ≤ g + 2 by omega) Y)
      go_wp2_with (refine wl_store4 (.tmp 4) (.tmp 25) HZ5.out (by rfl) (by rfl) (by rfl) (Y := Y) (by rfl) hY hO ?_)
      (try simp only [Exit.inBlock, Exit.then])
      refine bodyPost_ret (v := .agg Y) (results_cellU rfl _ _ _ ⟨g + 2, 0, none⟩ _ rfl HRS.out) rfl ?_
      exact ⟨by rw [HUV.out, HE.out], by rw [HG.out]; exact HBS.out⟩
end Go.Proofs.Ytgpjidlomhkpeaa
