/-
  Contract of field.Sub. Conditions: the numbers fit.
-/
import Derived.Test.YtgpjidlomhkpeaaFeB
import Derived.Test.YtgpjidlomhkpeaaInvRgn
import Derived.Test.YtgpjidlomhkpeaaUntil
namespace Go.Proofs.Ytgpjidlomhkpeaa
open Go Go.RowKit Go.Sh

theorem sub64z (x y c : Nat) (hx : x < 18446744073709551616) (hy : y < 18446744073709551616) (hc : c ≤ 1) : ∃ s k : Nat, s < 18446744073709551616 ∧ k ≤ 1 ∧ s + y + c = x + 18446744073709551616 * k ∧ ∀ w : World, (callFunc 27 #[.int .u64 (x : Int), .int .u64 (y : Int), .int .u64 (c : Int)]).run Try.prog w = .ok (.value (.tuple #[.int .u64 (s : Int), .int .u64 (k : Int)])) w := sub64 x y c hx hy hc
theorem borrow_sub {Q x y s c d nvn nvo R T : Nat} (h1 : nvn + x * Q = nvo + s * Q) (h2 : nvo + T = pF + c * Q + (y + 18446744073709551616 * R) * Q) (h3 : s + y + c = x + 18446744073709551616 * d) : nvn + T = pF + d * (Q * 18446744073709551616) + R * (Q * 18446744073709551616) := by
  have h4 := congrArg (· * Q) h3
  simp only [Nat.add_mul] at h4 h2
  have e : d * (Q * 18446744073709551616) = 18446744073709551616 * d * Q := by rw [← Nat.mul_assoc, Nat.mul_comm, Nat.mul_assoc]
  have e2 : R * (Q * 18446744073709551616) = 18446744073709551616 * R * Q := by rw [← Nat.mul_assoc, Nat.mul_comm, Nat.mul_assoc]
  rw [e, e2]
  omega
theorem pF_is : pF = 57896044618658097711785492504343953926634992332820282019728792003956564819949 := rfl
theorem ws_pF : ws 4 pF = [18446744073709551597, 18446744073709551615, 18446744073709551615, 9223372036854775807] := by decide
theorem newFour (w : World) (o1 o2 o3 o4 : Obj) : ((((w.alloc o1).alloc o2).alloc o3).alloc o4).heap.size = w.heap.size + 4 ∧ ((((w.alloc o1).alloc o2).alloc o3).alloc o4).heap[w.heap.size]? = some o1 ∧ ((((w.alloc o1).alloc o2).alloc o3).alloc o4).heap[w.heap.size + 1]? = some o2 ∧ ((((w.alloc o1).alloc o2).alloc o3).alloc o4).heap[w.heap.size + 2]? = some o3 ∧ ((((w.alloc o1).alloc o2).alloc o3).alloc o4).heap[w.heap.size + 3]? = some o4 ∧ Below w.heap.size w ((((w.alloc o1).alloc o2).alloc o3).alloc o4) := by
  obtain ⟨h1, h2, h3, h6, h4⟩ := newThree w o1 o2 o3
  have h5 := heap_alloc_new (((w.alloc o1).alloc o2).alloc o3) o4
  have b2 := (Below.refl (((w.alloc o1).alloc o2).alloc o3).heap.size (((w.alloc o1).alloc o2).alloc o3)).alloc (Nat.le_refl _) o4
  rw [h1] at h5 b2
  exact ⟨by simp, (b2.block _ (by omega)).trans h2, (b2.block _ (by omega)).trans h3, (b2.block _ (by omega)).trans h6, h5, h4.trans (b2.mono (by omega))⟩
/-- the operations of a region: a load of a whole element; a call -/
theorem op_load4 {o : Oper} {a : Act} {w : World} {K : Act → World → Prop} {Q : Exit → Act → World → Prop} (x : Operand) (ho : o.op = .load 33 x) {p : Nat} {X : Array Value} (h : Blk4 w p X) (hx : a.eval x = .pointer (some ⟨p, 0, none⟩)) (hk : K (a.put o.dst (.agg X)) w) : o.wp Try.prog a w K Q := by
  obtain ⟨h1, h2⟩ := h
  obtain ⟨l⟩ := X
  exact wp_load_mid 33 x ho p 0 hx l _ (blk_range h2) Try.underlying33 rfl (by rw [show l.length = 4 from h1]; exact info4) hk
set_option maxHeartbeats 4000000 in
set_option maxRecDepth 100000 in
/-- field.Sub -/
theorem Sub_any (u v : Nat) (hu : u < 115792089237316195423570985008687907853269984665640564039457584007913129639936) (hv : v < 115792089237316195423570985008687907853269984665640564039457584007913129639936) (w : World) :
    Calls Try.prog 21 #[el u, el v] w fun e w' => e = .returned (el ((u + (pF - v % pF)) % pF)) ∧ Below w.heap.size w w' := by
  have hup : u % pF < pF := Nat.mod_lt _ (by rw [pF_is]; decide)
  have hvp : v % pF < pF := Nat.mod_lt _ (by rw [pF_is]; decide)
  rw [el_is u, el_is v]
  have hxs := elc_size u
  have hys := elc_size v
  have hps := elc_size pF
  have HMC := Lib.hid (show elc pF = #[.int .u64 18446744073709551597, .int .u64 18446744073709551615, .int .u64 18446744073709551615, .int .u64 9223372036854775807] by unfold elc; rw [ws_pF]; rfl)
  obtain ⟨hs4, hu4, hv4, hz4, hm4, hB4⟩ := newFour w (.cells (elc u) 33) (.cells (elc v) 33) (.cells #[.int .u64 0, .int .u64 0, .int .u64 0, .int .u64 0] 33) (.cells (elc pF) 33)
  have HU := Lib.hid (show Blk4 _ w.heap.size (elc u) from ⟨rfl, hu4⟩)
  have HV := Lib.hid (show Blk4 _ (w.heap.size + 1) (elc v) from ⟨rfl, hv4⟩)
  have HZ := Lib.hid (show Blk4 _ (w.heap.size + 2) _ from ⟨rfl, hz4⟩)
  have HM := Lib.hid (show Blk4 _ (w.heap.size + 3) (elc pF) from ⟨rfl, hm4⟩)
  have HB := Lib.hid hB4
  have HNV := Lib.hid (Norm_any v hv)
  have HNU := Lib.hid (Norm_any u hu)
  rw [el_is v] at HNV
  rw [el_is u] at HNU
  clear hu4 hv4 hz4 hm4 hB4
  have hxe : ¬ elc u = #[] := by intro h; rw [h] at hxs; cases hxs
  have hye : ¬ elc v = #[] := by intro h; rw [h] at hys; cases hys
  generalize hxc : elc u = xc at *
  generalize hyc : elc v = yc at *
  clear hxc hyc
  go_enter Try.func21, Try.ntmps21
  go_wp2_with (refine wl_load4 (.tmp 3) HV.out (by rfl) (by rfl) (by rfl) ?_)
  generalize (((w.alloc (.cells xc 33)).alloc (.cells yc 33)).alloc (.cells #[.int .u64 0, .int .u64 0, .int .u64 0, .int .u64 0] 33)).alloc (.cells (elc pF) 33) = w4 at *
  generalize hg : w.heap.size = g at *
  have HG := Lib.hid hg
  clear hg hxs hys hxe hye
  refine (HNV.out w4).mono ?_
  rintro e w5 ⟨rfl, hb5⟩
  rw [hs4] at hb5
  have HU5 := Lib.hid (HU.out.below hb5 (by omega))
  have HV5 := Lib.hid (HV.out.below hb5 (by omega))
  have HZ5 := Lib.hid (HZ.out.below hb5 (by omega))
  have HM5 := Lib.hid (HM.out.below hb5 (by omega))
  have HB5 := Lib.hid (HB.out.trans (hb5.mono (by omega)))
  have hs5 := hb5.size
  clear hb5 HU HV HZ HM HB HNV
  obtain ⟨b, hb⟩ : ∃ b, v % pF = b := ⟨_, rfl⟩
  rw [hb] at hvp ⊢
  have HBV := Lib.hid hb
  have hbl : b < 115792089237316195423570985008687907853269984665640564039457584007913129639936 := by rw [pF_is] at hvp; omega
  clear hb
  rw [el_is b]
  have hY := elc_size b
  have hO := elc_one b
  have HV6 := Lib.hid (HV5.out.set (Y := elc b) hY)
  have HU6 := Lib.hid (HU5.out.far (show g ≠ g + 1 by omega) (elc b))
  have HZ6 := Lib.hid (HZ5.out.far (show g + 2 ≠ g + 1 by omega) (elc b))
  have HM6 := Lib.hid (HM5.out.far (show g + 3 ≠ g + 1 by omega) (elc b))
  have HB6 := Lib.hid (below_setRow HB5.out (Nat.le_succ g) (elc b))
  have HV6' := Lib.hid (show RowU _ _ (g + 1) (ws 4 b) from HV6.out.2)
  have HM6' := Lib.hid (show RowU _ _ (g + 3) (ws 4 pF) from HM6.out.2)
  have HBN := Lib.hid (nv_ws 4 b hbl)
  have HPN := Lib.hid (nv_ws 4 pF (by rw [pF_is]; decide))
  clear HU5 HZ5 HM5 HB5 HV6 HM6
  have hye : ¬ elc b = #[] := by intro h; rw [h] at hY; cases hY
  generalize hyc : elc b = bc at *
  clear hyc
  go_wp2_with (refine wl_store4 (.tmp 3) (.tmp 10) HV5.out (by rfl) (by rfl) (by rfl) (Y := bc) (by rfl) hY hO ?_)
  clear HV5 hY hO hye
  generalize w5.setRow (g + 1) bc = w6 at *
  have HLV := Lib.hid (length_ws 4 b)
  have HAV := Lib.hid (AllB.ws 4 b)
  have HLU := Lib.hid (length_ws 4 pF)
  have HAU := Lib.hid (AllB.ws 4 pF)
  generalize ws 4 pF = lu at *
  generalize ws 4 b = lv at *
  go_loopw [6, 7, 11] (fun c _ i wr => ∃ (k d : Nat) (r : List Nat), k ≤ 4 ∧ i = .int .i64 (k : Int) ∧ c = .int .u64 (d : Int) ∧ d ≤ 1 ∧ r.length = 4 ∧ AllB r ∧ nv r + b = pF + d * pw64 k + nv (lv.drop k) * pw64 k ∧ RowU wr 33 (g + 3) r ∧ RowU wr 33 (g + 1) lv ∧ Blk4 wr g xc ∧ Blk4 wr (g + 2) #[.int .u64 0, .int .u64 0, .int .u64 0, .int .u64 0] ∧ Below g w wr) (fun _ _ i _ => 4 - (intOf i).toNat)
  case' atStart => exact ⟨0, 0, lu, by omega, rfl, rfl, by omega, HLU.out, HAU.out, by rw [pw64_zero, List.drop_zero, HBN.out, HPN.out]; omega, HM6'.out, HV6'.out, HU6.out, HZ6.out, HB6.out⟩
  case' round =>
    obtain ⟨k, d, r, hk, rfl, rfl, hd, hrl, hrb, hrn, hr, hv', hu', hz, hbr⟩ := hrel
    by_cases hlt : k < 4
    · obtain ⟨s, d', b1, b2, b3, HA⟩ := sub64z (nt r k) (nt lv k) d (nt_lt hrb k) (nt_lt HAV.out k) hd
      have ck := hr.cell (k := k) (by omega)
      have cv := hv'.cell (k := k) (by have := HLV.out; omega)
      have fk := hr.free k
      have fk' : wr.drew.frozen? ⟨g + 3, k, none⟩ = false := fk
      have ck' : wr.drew.cell? ⟨g + 3, k, none⟩ = some (.int .u64 (nt r k : Int)) := ck
      go_wp2_with fail
      refine wp_region_noPanic ?_
      refine wp_region_until (S := (fun w' => w'.cell? ⟨g + 3, k, none⟩ = some (.int .u64 (nt r k : Int)) ∧ w'.cell? ⟨g + 1, k, none⟩ = some (.int .u64 (nt lv k : Int)))) 13 (by kernel_rfl) ?_ (fun hHeld => ?_)
      · (try dsimp only)
        exact ⟨ck, cv⟩
      refine wpAnyU_takeY (i := 0) (v := ?v16) rfl (by kernel_rfl) (fun _ _ _ h => h) (Or.inl ⟨by rfl, ?y16⟩) (by assumption) ?r16
      case y16 => (intro W; first | (go_simp; done) | (go_simp; with_reducible rfl))
      (try simp only [List.getElem_toArray, List.getElem_cons_zero, Act.put, List.setIfInBounds_toArray, List.set_cons_zero, List.set_cons_succ])
      refine wpAnyU_takeY (i := 1) (v := ?v17) rfl (by kernel_rfl) (fun _ _ _ h => h) (Or.inl ⟨by rfl, ?y17⟩) (by assumption) ?r17
      case y17 => (intro W; first | (go_simp; done) | (go_simp; with_reducible rfl))
      (try simp only [List.getElem_toArray, List.getElem_cons_zero, List.getElem_cons_succ, Act.put, List.setIfInBounds_toArray, List.set_cons_zero, List.set_cons_succ])
      refine wpAnyU_takeY (i := 2) (v := ?v18) rfl (by kernel_rfl) (fun _ _ _ h => h) (Or.inl ⟨by rfl, ?y18⟩) (by assumption) ?r18
      case y18 => (intro W; first | (go_simp; done) | (go_simp; with_reducible rfl))
      (try simp only [List.getElem_toArray, List.getElem_cons_zero, List.getElem_cons_succ, Act.put, List.setIfInBounds_toArray, List.set_cons_zero, List.set_cons_succ])
      refine wpAnyU_takeW (i := 3) (v := ?v19) rfl (by kernel_rfl) (fun _ _ _ h => h) (Or.inl ⟨by rfl, ?y19⟩) (by assumption) ?r19
      case y19 => (intro W hSW; (try dsimp only at hSW); first | (go_simp; done) | (go_simp; with_reducible rfl))
      (try simp only [List.getElem_toArray, List.getElem_cons_zero, List.getElem_cons_succ, Act.put, List.setIfInBounds_toArray, List.set_cons_zero, List.set_cons_succ])
      refine wpAnyU_takeY (i := 4) (v := ?v20) rfl (by kernel_rfl) (fun _ _ _ h => h) (Or.inl ⟨by rfl, ?y20⟩) (by assumption) ?r20
      case y20 => (intro W; first | (go_simp; done) | (go_simp; with_reducible rfl))
      (try simp only [List.getElem_toArray, List.getElem_cons_zero, List.getElem_cons_succ, Act.put, List.setIfInBounds_toArray, List.set_cons_zero, List.set_cons_succ])
      refine wpAnyU_takeY (i := 5) (v := ?v21) rfl (by kernel_rfl) (fun _ _ _ h => h) (Or.inl ⟨by rfl, ?y21⟩) (by assumption) ?r21
      case y21 => (intro W; first | (go_simp; done) | (go_simp; with_reducible rfl))
      (try simp only [List.getElem_toArray, List.getElem_cons_zero, List.getElem_cons_succ, Act.put, List.setIfInBounds_toArray, List.set_cons_zero, List.set_cons_succ])
      refine wpAnyU_takeW (i := 6) (v := ?v22) rfl (by kernel_rfl) (fun _ _ _ h => h) (Or.inl ⟨by rfl, ?y22⟩) (by assumption) ?r22
      case y22 => (intro W hSW; (try dsimp only at hSW); first | (go_simp; done) | (go_simp; with_reducible rfl))
      (try simp only [List.getElem_toArray, List.getElem_cons_zero, List.getElem_cons_succ, Act.put, List.setIfInBounds_toArray, List.set_cons_zero, List.set_cons_succ])
      refine wpAnyU_takeY (i := 7) (v := ?v23) rfl (by kernel_rfl) (fun _ _ _ h => h) (Or.inl ⟨by rfl, ?y23⟩) (by assumption) ?r23
      case y23 => (intro W; first | (go_simp; done) | (go_simp; with_reducible rfl))
      (try simp only [List.getElem_toArray, List.getElem_cons_zero, List.getElem_cons_succ, Act.put, List.setIfInBounds_toArray, List.set_cons_zero, List.set_cons_succ])
      refine wpAnyU_takeY (i := 8) (v := ?v24) rfl (by kernel_rfl) (fun _ _ _ h => h) (Or.inl ⟨by rfl, ?y24⟩) (by assumption) ?r24
      case y24 => (intro W; first | (go_simp; done) | (go_simp; with_reducible rfl))
      (try simp only [List.getElem_toArray, List.getElem_cons_zero, List.getElem_cons_succ, Act.put, List.setIfInBounds_toArray, List.set_cons_zero, List.set_cons_succ])
      refine wpAnyU_takeY (i := 9) (v := ?v25) rfl (by kernel_rfl) (fun _ _ _ h => h) (Or.inl ⟨by rfl, ?y25⟩) (by assumption) ?r25
      case y25 => (intro W; first | (go_simp; done) | (go_simp; with_reducible rfl))
      (try simp only [List.getElem_toArray, List.getElem_cons_zero, List.getElem_cons_succ, Act.put, List.setIfInBounds_toArray, List.set_cons_zero, List.set_cons_succ])
      refine wpAnyU_takeY (i := 10) (v := ?v26) rfl (by kernel_rfl) (fun _ _ _ h => h) (Or.inl ⟨by rfl, ?y26⟩) (by assumption) ?r26
      case y26 => (intro W; first | (go_simp; done) | (go_simp; with_reducible rfl))
      (try simp only [List.getElem_toArray, List.getElem_cons_zero, List.getElem_cons_succ, Act.put, List.setIfInBounds_toArray, List.set_cons_zero, List.set_cons_succ])
      refine wpAnyU_takeY (i := 11) (v := ?v27) rfl (by kernel_rfl) (fun _ _ _ h => h) (Or.inl ⟨by rfl, ?y27⟩) (by assumption) ?r27
      case y27 => (intro W; first | (go_simp; done) | (go_simp; with_reducible rfl))
      (try simp only [List.getElem_toArray, List.getElem_cons_zero, List.getElem_cons_succ, Act.put, List.setIfInBounds_toArray, List.set_cons_zero, List.set_cons_succ])
      refine wpAnyU_takeY (i := 12) (v := ?v28) rfl (by kernel_rfl) (fun _ _ _ h => h) (Or.inl ⟨by rfl, ?y28⟩) (by assumption) ?r28
      case y28 => (intro W; first | (go_simp; done) | (go_simp; with_reducible rfl))
      (try simp only [List.getElem_toArray, List.getElem_cons_zero, List.getElem_cons_succ, Act.put, List.setIfInBounds_toArray, List.set_cons_zero, List.set_cons_succ])
      refine wpAnyU_at (c := 13) rfl (by kernel_rfl) (by rfl) (fun K hK => ?_)
      have HK := Lib.hid hK
      clear hK
      go_simp
      refine HK.out _ _ ?_
      clear HK K
      (try simp only [List.getElem_toArray, List.getElem_cons_zero, List.getElem_cons_succ, Act.put, List.setIfInBounds_toArray, List.set_cons_zero, List.set_cons_succ])
      refine wpAny_at (c := 14) rfl (by kernel_rfl) (by rfl) (fun K hK => ?_)
      have HK := Lib.hid hK
      clear hK
      go_simp
      refine HK.out _ _ ?_
      clear HK K
      (try simp only [List.getElem_toArray, List.getElem_cons_zero, List.getElem_cons_succ, Act.put, List.setIfInBounds_toArray, List.set_cons_zero, List.set_cons_succ])
      refine wpAny_done (by kernel_rfl) ?_ _
      refine NoPanic.normal ?_
      have HNX := Lib.hid (show nv (r.set k s) + b = pF + d' * pw64 (k + 1) + nv (lv.drop (k + 1)) * pw64 (k + 1) by
        have hd1 := nv_drop lv k (by have := HLV.out; omega)
        rw [hd1] at hrn
        have h0 := nv_set r k s (by omega)
        rw [pw64_succ]
        exact borrow_sub h0 hrn b3)
      have HRX := Lib.hid (show RowU (wr.setCell ⟨g + 3, k, none⟩ (.int .u64 (s : Int))).drew 33 (g + 3) _ from hr.set k s)
      have HVX := Lib.hid (show RowU (wr.setCell ⟨g + 3, k, none⟩ (.int .u64 (s : Int))).drew 33 (g + 1) lv from hv'.far (g := g + 3) (by omega) k (.int .u64 (s : Int)))
      have HUX := Lib.hid (show Blk4 (wr.setCell ⟨g + 3, k, none⟩ (.int .u64 (s : Int))).drew g _ from ⟨hu'.1, (Below.heap_setCell wr ⟨g + 3, k, none⟩ (.int .u64 (s : Int)) g (show g ≠ g + 3 by omega)).trans hu'.2⟩)
      have HZX := Lib.hid (show Blk4 (wr.setCell ⟨g + 3, k, none⟩ (.int .u64 (s : Int))).drew (g + 2) _ from ⟨hz.1, (Below.heap_setCell wr ⟨g + 3, k, none⟩ (.int .u64 (s : Int)) (g + 2) (show g + 2 ≠ g + 3 by omega)).trans hz.2⟩)
      have HBX := Lib.hid (hbr.setCell (p := ⟨g + 3, k, none⟩) (Nat.le_add_right g 3) (.int .u64 (s : Int))).drew
      have HRB := Lib.hid (hrb.set b1 k)
      clear hr hv' hu' hz hbr hrb hrn b3 ck cv fk fk' ck' HA hHeld
      go_wp2_with fail
      exact ⟨⟨k + 1, d', r.set k s, by omega, by go_num, rfl, b2, by rw [List.length_set]; exact hrl, HRB.out, HNX.out, HRX.out, HVX.out, HUX.out, HZX.out, HBX.out⟩, by simp [intOf]; omega⟩
    · obtain rfl : k = 4 := by omega
      rw [List.drop_eq_nil_of_le (by rw [HLV.out]; exact Nat.le_refl _), nv, Nat.zero_mul, Nat.add_zero, pw64_4] at hrn
      have hnr := nv_lt hrb
      rw [hrl] at hnr
      have hd0 : nv r = pF - b := by rw [pF_is] at hrn hvp ⊢; omega
      have hre : ws 4 (pF - b) = r := by rw [← hd0, ← hrl]; exact ws_nv hrb
      subst hre
      have HRG := Lib.hid (show Blk4 wr (g + 3) (elc (pF - b)) from ⟨rfl, hr⟩)
      have HUG := Lib.hid hu'
      have HZG := Lib.hid hz
      have HBG := Lib.hid hbr
      have hgs := hz.lt
      have hgs3 := HRG.out.lt
      clear hr hv' hu' hz hbr hrb hrn hd0 hrl hnr
      go_wp2_with fail
      obtain ⟨uu, huu⟩ : ∃ uu, u % pF = uu := ⟨_, rfl⟩
      rw [huu] at HNU hup
      obtain ⟨F, hF⟩ : ∃ F, (uu + (pF - b)) % pF = F := ⟨_, rfl⟩
      have hfin : F = (u + (pF - b)) % pF := by rw [← hF, ← huu, Nat.add_mod, Nat.mod_mod, ← Nat.add_mod]
      have HFIN := Lib.hid hfin
      have hf := add_any uu (pF - b) (by have := hup; rw [pF_is] at this; omega) (by rw [pF_is]; omega) (by have := hup; rw [pF_is] at this ⊢; omega)
      rw [hF] at hf
      have HF := Lib.hid hf
      clear hf hfin hF huu hup
      refine wp_region_head 4 [28, 29, 30, 31] (fun i v _ => match i with
        | 0 => v = .agg xc
        | 1 => v = el uu
        | 2 => v = el (pF - b)
        | 3 => v = el F
        | _ => True) (fun _ _ => none) (by kernel_rfl) (by kernel_rfl) rfl rfl (by decide) (by show ∀ d ∈ [28, 29, 30, 31], d < 32; decide) rfl (fun i v _ _ h _ => h) ?_ ?_
      · intro i o h a w1 hA hD hb
        match i, h with
        | 0, h =>
          obtain rfl := Option.some.inj h
          exact op_load4 (.tmp 2) rfl (HUG.out.below hb (by omega)) (hA 2 (by decide)) ⟨_, rfl, Below.refl _ _, rfl, fun b h => by cases h⟩
        | 1, h =>
          obtain rfl := Option.some.inj h
          have e28 : a.eval (.tmp 28) = .agg xc := hD ⟨0, .data⟩ (by simp) rfl 28 rfl
          go_simp
          rw [ev_get e28]
          refine (HNU.out w1).mono ?_
          rintro e w2 ⟨rfl, hb2⟩
          exact ⟨rfl, hb2⟩
        | 2, h =>
          obtain rfl := Option.some.inj h
          exact op_load4 (.tmp 5) rfl (HRG.out.below hb (by omega)) (hA 5 (by decide)) ⟨_, rfl, Below.refl _ _, rfl, fun b h => by cases h⟩
        | 3, h =>
          obtain rfl := Option.some.inj h
          have e29 : a.eval (.tmp 29) = el uu := hD ⟨1, .data⟩ (by simp) rfl 29 rfl
          have e30 : a.eval (.tmp 30) = el (pF - b) := hD ⟨2, .data⟩ (by simp) rfl 30 rfl
          go_simp
          rw [ev_get e29, ev_get e30]
          refine (HF.out w1).mono ?_
          rintro e w2 ⟨rfl, hb2⟩
          exact ⟨rfl, hb2⟩
        | k + 4, h => simp at h
      · intro x w' hx _ _ hb
        have x0 : x 0 = .agg xc := hx 0 (by decide)
        have x1 : x 1 = el uu := hx 1 (by decide)
        have x2 : x 2 = el (pF - b) := hx 2 (by decide)
        have x3 : x 3 = el F := hx 3 (by decide)
        simp only [setAll, List.drop_succ_cons, List.drop_zero, Nat.zero_add, Nat.reduceAdd, x0, x1, x2, x3]
        rw [el_is F]
        have hY := elc_size F
        have hO := elc_one F
        have HE := Lib.hid (el_is F)
        have HZ7 := Lib.hid (HZG.out.below hb hgs)
        have HB7 := Lib.hid (HBG.out.trans (hb.mono (by omega)))
        generalize elc F = Y at *
        have HRS := Lib.hid ((HZ7.out.set (Y := Y) hY).load)
        have HBS := Lib.hid (below_setRow HB7.out (show g ≤ g + 2 by omega) Y)
        clear hx hb x0 x1 x2 x3
        go_wp2_with (refine wl_store4 (.tmp 4) (.tmp 31) HZ7.out (by rfl) (by rfl) (by rfl) (Y := Y) (by rfl) hY hO ?_)
        (try simp only [Exit.inBlock, Exit.then])
        refine bodyPost_ret (v := .agg Y) (results_cellU rfl _ _ _ ⟨g + 2, 0, none⟩ _ rfl HRS.out) rfl ?_
        exact ⟨by rw [← HE.out, HFIN.out, HBV.out], by rw [HG.out]; exact HBS.out⟩
end Go.Proofs.Ytgpjidlomhkpeaa
