/-
  Contracts of field.step and field.plus. Conditions: the words have 64 bits.
-/
import Derived.Test.YtgpjidlomhkpeaaFe
import Derived.LoopTactic
namespace Go.Proofs.Ytgpjidlomhkpeaa
open Go Go.RowKit Go.Sh

theorem add64z (x y : Nat) (hx : x < 18446744073709551616) (hy : y < 18446744073709551616) : ∃ s k : Nat, s < 18446744073709551616 ∧ k ≤ 1 ∧ s + 18446744073709551616 * k = x + y ∧ ∀ w : World, (callFunc 19 #[.int .u64 (x : Int), .int .u64 (y : Int), .int .u64 0]).run Try.prog w = .ok (.value (.tuple #[.int .u64 (s : Int), .int .u64 (k : Int)])) w := by
  obtain ⟨s, k, h1, h2, h3, h4⟩ := add64 x y 0 hx hy (by decide)
  exact ⟨s, k, h1, h2, h3, h4⟩
theorem mulx (x y : Nat) (hx : x < 18446744073709551616) (hy : y < 18446744073709551616) : ∃ h l : Nat, l < 18446744073709551616 ∧ h + 1 < 18446744073709551616 ∧ l + 18446744073709551616 * h = x * y ∧ ∀ w : World, Calls Try.prog 30 #[.int .u64 (x : Int), .int .u64 (y : Int)] w fun e w' => e = .returned (.tuple #[.int .u64 (h : Int), .int .u64 (l : Int)]) ∧ w' = w := by
  refine ⟨x * y / 18446744073709551616, x * y % 18446744073709551616, Nat.mod_lt _ (by decide), ?_, Nat.mod_add_div _ _, mul64 x y hx hy⟩
  have : x * y ≤ 18446744073709551615 * 18446744073709551615 := Nat.mul_le_mul (by omega) (by omega)
  omega
theorem wrap_small (n : Nat) (h : n < 18446744073709551616) : IntKind.u64.wrap (n : Int) = (n : Int) := by rw [IntKind.wrap_u64]; omega
set_option maxRecDepth 100000 in
/-- field.step -/
theorem step_any (x y m c : Nat) (hx : x < 18446744073709551616) (hy : y < 18446744073709551616) (hm : m < 18446744073709551616) (hc : c < 18446744073709551616) :
    ∃ l h : Nat, l < 18446744073709551616 ∧ h < 18446744073709551616 ∧ l + 18446744073709551616 * h = x * y + m + c ∧ ∀ w : World, Calls Try.prog 28 #[.int .u64 (x : Int), .int .u64 (y : Int), .int .u64 (m : Int), .int .u64 (c : Int)] w fun e w' => e = .returned (.tuple #[.int .u64 (l : Int), .int .u64 (h : Int)]) ∧ w = w' := by
  obtain ⟨h0, l0, a1, a2, a3, HM⟩ := mulx x y hx hy
  obtain ⟨l1, k1, b1, b2, b3, HA⟩ := add64z l0 m a1 hm
  obtain ⟨l2, k2, c1, c2, c3, HB⟩ := add64z l1 c b1 hc
  have e : l2 + 18446744073709551616 * (h0 + k1 + k2) = x * y + m + c := by omega
  have bound : x * y ≤ 18446744073709551615 * 18446744073709551615 := Nat.mul_le_mul (by omega) (by omega)
  have hb : h0 + k1 + k2 < 18446744073709551616 := by omega
  refine ⟨l2, h0 + k1 + k2, c1, hb, e, fun w => ?_⟩
  have HMM := Lib.hid HM
  have w1 : IntKind.u64.wrap ((h0 : Int) + (k1 : Int)) = (h0 : Int) + (k1 : Int) := by have := wrap_small (h0 + k1) (by omega); simpa using this
  have w2 : IntKind.u64.wrap ((h0 : Int) + (k1 : Int) + (k2 : Int)) = (h0 : Int) + (k1 : Int) + (k2 : Int) := by have := wrap_small (h0 + k1 + k2) hb; simpa using this
  clear HM bound e a3 b3 c3
  go_enter Try.func28, Try.ntmps28
  go_wp2_with fail
  refine (HMM.out w).mono ?_
  rintro e w' ⟨rfl, rfl⟩
  go_wp2_with fail
  go_ret2
  exact ⟨by simp, rfl⟩

theorem add64y (x c : Nat) (hx : x < 18446744073709551616) (hc : c ≤ 1) : ∃ s k : Nat, s < 18446744073709551616 ∧ k ≤ 1 ∧ s + 18446744073709551616 * k = x + c ∧ ∀ w : World, (callFunc 19 #[.int .u64 (x : Int), .int .u64 0, .int .u64 (c : Int)]).run Try.prog w = .ok (.value (.tuple #[.int .u64 (s : Int), .int .u64 (k : Int)])) w := by
  obtain ⟨s, k, h1, h2, h3, h4⟩ := add64 x 0 c hx (by decide) hc
  exact ⟨s, k, h1, h2, h3, h4⟩
set_option maxHeartbeats 4000000 in
set_option maxRecDepth 100000 in
/-- field.plus -/
theorem plus_any (l : List Nat) (hl : l.length = 4) (hb : AllB l) (n : Nat) (hn : n < 18446744073709551616) (w : World) :
    Calls Try.prog 13 #[.agg (uv l).toArray, .int .u64 (n : Int)] w fun e w' => ∃ (l' : List Nat) (c : Nat), e = .returned (.tuple #[.agg (uv l').toArray, .int .u64 (c : Int)]) ∧ l'.length = 4 ∧ AllB l' ∧ c ≤ 1 ∧ nv l' + c * pw64 4 = nv l + n ∧ Below w.heap.size w w' := by
  have hzero := zeroE
  have hzs : (uv [0, 0, 0, 0]).toArray.size = 4 := rfl
  have hxs : (uv l).toArray.size = 4 := by rw [List.size_toArray, length_uv, hl]
  obtain ⟨s0, k0, a1, a2, a3, HA⟩ := add64z (nt l 0) n (nt_lt hb 0) hn
  have hn0 : nv (l.set 0 s0) + k0 * pw64 1 = nv l + n := by
    have := nv_set l 0 s0 (by omega)
    simp only [Nat.pow_zero, Nat.mul_one] at this
    rw [show pw64 1 = 18446744073709551616 from rfl]
    omega
  have HB0 := Lib.hid (hb.set a1 0)
  have c0 := (twoU w 33 l [0, 0, 0, 0]).2.1.cell (k := 0) (by omega)
  have f0 := (twoU w 33 l [0, 0, 0, 0]).2.1.free 0
  obtain ⟨hs2, hr2, hz2, hB2⟩ := twoU w 33 (l.set 0 s0) [0, 0, 0, 0]
  have hset : (uv l).toArray.setIfInBounds 0 (.int .u64 (s0 : Int)) = (uv (l.set 0 s0)).toArray := by rw [List.setIfInBounds_toArray, uv_set]
  have HSET := Lib.hid hset
  have HR2 := Lib.hid hr2
  have HZ2 := Lib.hid hz2
  have HB2 := Lib.hid hB2
  have HN := Lib.hid hn0
  have HL := Lib.hid hl
  clear hr2 hz2 hB2 hn0 hs2 a3 hb hl hset
  generalize hxc : (uv l).toArray = xc at *
  generalize hyc : (uv (l.set 0 s0)).toArray = yc at *
  generalize hzc : (uv [0, 0, 0, 0]).toArray = zc at *
  have hze : ¬ zc = #[] := by intro h; rw [h] at hzs; cases hzs
  have hxe : ¬ xc = #[] := by intro h; rw [h] at hxs; cases hxs
  go_enter Try.func13, Try.ntmps13
  go_wp2_with fail
  clear hze hzero hzc hxe hxs hxc hyc c0 f0 HA
  rw [HSET.out]
  generalize (w.alloc (.cells yc 33)).alloc (.cells zc 33) = w2 at *
  generalize hg : w.heap.size = g at *
  have HG := Lib.hid hg
  clear hg
  go_loopw [6, 7] (fun c i wr => ∃ (k d : Nat) (r : List Nat), 1 ≤ k ∧ k ≤ 4 ∧ i = .int .i64 (k : Int) ∧ c = .int .u64 (d : Int) ∧ d ≤ 1 ∧ r.length = 4 ∧ AllB r ∧ nv r + d * pw64 k = nv l + n ∧ RowU wr 33 g r ∧ RowU wr 33 (g + 1) [0, 0, 0, 0] ∧ Below g w wr) (fun _ i _ => 4 - (intOf i).toNat)
  case' atStart => exact ⟨1, k0, l.set 0 s0, by omega, by omega, rfl, rfl, a2, by rw [List.length_set]; exact HL.out, HB0.out, HN.out, HR2.out, HZ2.out, HB2.out⟩
  case' round =>
    obtain ⟨k, d, r, hk1, hk, rfl, rfl, hd, hrl, hrb, hrn, hr, hz, hbr⟩ := hrel
    by_cases hlt : k < 4
    · obtain ⟨s, d', b1, b2, b3, HA⟩ := add64y (nt r k) d (nt_lt hrb k) hd
      have ck := hr.cell (k := k) (by omega)
      have fk := hr.free k
      have HNX := Lib.hid (show nv (r.set k s) + d' * pw64 (k + 1) = nv l + n by rw [pw64_succ]; exact carry_step (nv_set r k s (by omega)) hrn b3)
      have HRX := Lib.hid (hr.set k s)
      have HZX := Lib.hid (hz.far (g := g) (by omega) k (.int .u64 (s : Int)))
      have HBX := Lib.hid (hbr.setCell (p := ⟨g, k, none⟩) (Nat.le_refl _) (.int .u64 (s : Int)))
      have HRB := Lib.hid (hrb.set b1 k)
      clear hr hz hbr hrb hrn b3
      go_wp2_with fail
      exact ⟨⟨k + 1, d', r.set k s, by omega, by omega, by go_num, rfl, b2, by rw [List.length_set]; exact hrl, HRB.out, HNX.out, HRX.out, HZX.out, HBX.out⟩, by simp [intOf]; omega⟩
    · obtain rfl : k = 4 := by omega
      have HLD := Lib.hid hr
      have hst := hz.store (r := r) hrl
      have HRS := Lib.hid ((hz.setRow (r := r)).load4 hrl)
      have HBX := Lib.hid (below_setRow hbr (Nat.le_succ g) (uv r).toArray)
      have HF := Lib.hid hrn
      have HRB := Lib.hid hrb
      have hxs : (uv r).toArray.size = 4 := by rw [List.size_toArray, length_uv, hrl]
      clear hr hz hbr hrn hrb
      generalize hX : (uv r).toArray = X at *
      have hxe : ¬ X = #[] := by intro h; rw [h] at hxs; cases hxs
      have HX := Lib.hid hX
      clear hX
      go_wp2_with (refine wl_loadE (.tmp 2) HLD.out hrl (by rfl) rfl rfl X HX.out ?_)
      (try simp only [Exit.inBlock, Exit.then])
      refine bodyPost_ret (v := .tuple #[.agg X, .int .u64 (d : Int)]) (results_cellU2 rfl _ _ _ ⟨g + 1, 0, none⟩ _ _ rfl rfl HRS.out) rfl ?_
      exact ⟨r, d, by rw [HX.out], hrl, HRB.out, hd, HF.out, by rw [HG.out]; exact HBX.out⟩
/-- four words as one number -/
def V4 (a b c d : Nat) : Nat := a + 18446744073709551616 * b + 340282366920938463463374607431768211456 * c + 6277101735386680763835789423207666416102355444464034512896 * d
/-- 2^255 - 19 -/
def pF : Nat := 57896044618658097711785492504343953926634992332820282019728792003956564819949
theorem pw64_4 : pw64 4 = 115792089237316195423570985008687907853269984665640564039457584007913129639936 := by decide
theorem el_cases (v : Nat) (hv : v < 115792089237316195423570985008687907853269984665640564039457584007913129639936) : ∃ a b c d : Nat, a < 18446744073709551616 ∧ b < 18446744073709551616 ∧ c < 18446744073709551616 ∧ d < 18446744073709551616 ∧ V4 a b c d = v ∧ el v = .agg #[.int .u64 (a : Int), .int .u64 (b : Int), .int .u64 (c : Int), .int .u64 (d : Int)] := by
  refine ⟨v % 18446744073709551616, v / 18446744073709551616 % 18446744073709551616, v / 18446744073709551616 / 18446744073709551616 % 18446744073709551616, v / 18446744073709551616 / 18446744073709551616 / 18446744073709551616 % 18446744073709551616, ?_, ?_, ?_, ?_, ?_, rfl⟩
  · omega
  · omega
  · omega
  · omega
  · unfold V4; omega
theorem el_of {a b c d : Nat} (ha : a < 18446744073709551616) (hb : b < 18446744073709551616) (hc : c < 18446744073709551616) (hd : d < 18446744073709551616) : Value.agg #[.int .u64 (a : Int), .int .u64 (b : Int), .int .u64 (c : Int), .int .u64 (d : Int)] = el (V4 a b c d) := by
  have e0 : V4 a b c d % 18446744073709551616 = a := by unfold V4; omega
  have e1 : V4 a b c d / 18446744073709551616 % 18446744073709551616 = b := by unfold V4; omega
  have e2 : V4 a b c d / 18446744073709551616 / 18446744073709551616 % 18446744073709551616 = c := by unfold V4; omega
  have e3 : V4 a b c d / 18446744073709551616 / 18446744073709551616 / 18446744073709551616 % 18446744073709551616 = d := by unfold V4; omega
  have : el (V4 a b c d) = .agg #[.int .u64 ((V4 a b c d % 18446744073709551616 : Nat) : Int), .int .u64 ((V4 a b c d / 18446744073709551616 % 18446744073709551616 : Nat) : Int), .int .u64 ((V4 a b c d / 18446744073709551616 / 18446744073709551616 % 18446744073709551616 : Nat) : Int), .int .u64 ((V4 a b c d / 18446744073709551616 / 18446744073709551616 / 18446744073709551616 % 18446744073709551616 : Nat) : Int)] := rfl
  rw [this, e0, e1, e2, e3]
theorem plus4 (a b c d n : Nat) (ha : a < 18446744073709551616) (hb : b < 18446744073709551616) (hc : c < 18446744073709551616) (hd : d < 18446744073709551616) (hn : n < 18446744073709551616) (w : World) :
    Calls Try.prog 13 #[.agg #[.int .u64 (a : Int), .int .u64 (b : Int), .int .u64 (c : Int), .int .u64 (d : Int)], .int .u64 (n : Int)] w fun e w' => ∃ a' b' c' d' k : Nat, e = .returned (.tuple #[.agg #[.int .u64 (a' : Int), .int .u64 (b' : Int), .int .u64 (c' : Int), .int .u64 (d' : Int)], .int .u64 (k : Int)]) ∧ a' < 18446744073709551616 ∧ b' < 18446744073709551616 ∧ c' < 18446744073709551616 ∧ d' < 18446744073709551616 ∧ k ≤ 1 ∧ V4 a' b' c' d' + k * 115792089237316195423570985008687907853269984665640564039457584007913129639936 = V4 a b c d + n ∧ Below w.heap.size w w' := by
  refine (plus_any [a, b, c, d] rfl (fun x hx => by simp only [List.mem_cons, List.not_mem_nil, or_false] at hx; omega) n hn w).mono ?_
  rintro e w' ⟨l, k, rfl, hl, hlb, hk, hv, hbl⟩
  match l, hl with
  | [a', b', c', d'], _ =>
    refine ⟨a', b', c', d', k, rfl, hlb a' (by simp), hlb b' (by simp), hlb c' (by simp), hlb d' (by simp), hk, ?_, hbl⟩
    rw [pw64_4] at hv
    simp only [nv] at hv
    unfold V4
    omega
set_option maxHeartbeats 4000000 in
set_option maxRecDepth 100000 in
/-- field.Norm -/
theorem Norm_any (v : Nat) (hv : v < 115792089237316195423570985008687907853269984665640564039457584007913129639936) (w : World) : Calls Try.prog 9 #[el v] w fun e w' => e = .returned (el (v % pF)) ∧ Below w.heap.size w w' := by
  obtain ⟨a, b, c, d, ha, hb, hc, hd, hV, hE⟩ := el_cases v hv
  rw [hE]
  have HV := Lib.hid hV
  have HP := Lib.hid (plus4 a b c)
  have hshr : (d : Int) / 9223372036854775808 = ((d / 9223372036854775808 : Nat) : Int) := by omega
  have hand : bits .and .u64 (d : Int) 9223372036854775807 = ((d % 9223372036854775808 : Nat) : Int) := by
    have h := bits_and_u64_nat d 9223372036854775807 hd (by omega)
    have e : d &&& 9223372036854775807 = d % 9223372036854775808 := Nat.and_two_pow_sub_one_eq_mod d 63
    rw [e] at h
    exact h
  obtain ⟨t, ht⟩ : ∃ t, d / 9223372036854775808 = t := ⟨_, rfl⟩
  obtain ⟨m, hm⟩ : ∃ m, d % 9223372036854775808 = m := ⟨_, rfl⟩
  rw [ht] at hshr
  rw [hm] at hand
  have hwr : IntKind.u64.wrap (19 * (t : Int)) = ((19 * t : Nat) : Int) := by rw [IntKind.wrap_u64]; omega
  obtain ⟨n, hn⟩ : ∃ n, 19 * t = n := ⟨_, rfl⟩
  rw [hn] at hwr
  have HN := Lib.hid hn
  have HT := Lib.hid ht
  have HM := Lib.hid hm
  clear hV hE ht hm hn hv
  go_enter Try.func9, Try.ntmps9
  go_wp2_with fail
  obtain ⟨hs2, hg2, hr2, hb2⟩ := newTwo w (.cells #[.int .u64 (a : Int), .int .u64 (b : Int), .int .u64 (c : Int), .int .u64 (m : Int)] 33) (.cells #[.int .u64 0, .int .u64 0, .int .u64 0, .int .u64 0] 33)
  generalize (w.alloc (.cells #[.int .u64 (a : Int), .int .u64 (b : Int), .int .u64 (c : Int), .int .u64 (m : Int)] 33)).alloc (.cells #[.int .u64 0, .int .u64 0, .int .u64 0, .int .u64 0] 33) = w2 at *
  have HG2 := Lib.hid (show Blk4 w2 w.heap.size _ from ⟨rfl, hg2⟩)
  have HR2 := Lib.hid (show Blk4 w2 (w.heap.size + 1) _ from ⟨rfl, hr2⟩)
  have HB2 := Lib.hid hb2
  generalize hg : w.heap.size = g at *
  have HGG := Lib.hid hg
  clear hg2 hr2 hb2 hg hwr hand hshr
  refine (HP.out m n ha hb hc (by have := HM.out; omega) (by have := HN.out; have := HT.out; omega) w2).mono ?_
  rintro e w3 ⟨a3, b3, c3, d3, k3, rfl, ha3, hb3, hc3, hd3, hk3, hv3, hbl3⟩
  rw [hs2] at hbl3
  have hs3 := hbl3.size
  have HG3 := Lib.hid (HG2.out.below hbl3 (by omega))
  have HR3 := Lib.hid (HR2.out.below hbl3 (by omega))
  have HB3 := Lib.hid (HB2.out.trans (hbl3.mono (by omega)))
  have HV3 := Lib.hid hv3
  clear hbl3 hv3 HG2 HR2 HB2
  have h1 : ∀ v ∈ (#[Value.int .u64 (a3 : Int), .int .u64 (b3 : Int), .int .u64 (c3 : Int), .int .u64 (d3 : Int)] : Array Value).toList, v.oneCell' = true := by
    intro v hv; simp only [List.mem_cons, List.not_mem_nil, or_false] at hv; rcases hv with rfl | rfl | rfl | rfl <;> rfl
  have HO := Lib.hid h1
  clear h1
  have HG4 := Lib.hid (HG3.out.set (Y := #[.int .u64 (a3 : Int), .int .u64 (b3 : Int), .int .u64 (c3 : Int), .int .u64 (d3 : Int)]) rfl)
  have HR4 := Lib.hid (HR3.out.far (show g + 1 ≠ g by omega) #[.int .u64 (a3 : Int), .int .u64 (b3 : Int), .int .u64 (c3 : Int), .int .u64 (d3 : Int)])
  have HB4 := Lib.hid (below_setRow HB3.out (Nat.le_refl g) #[.int .u64 (a3 : Int), .int .u64 (b3 : Int), .int .u64 (c3 : Int), .int .u64 (d3 : Int)])
  have hs4 : (w3.setRow g #[.int .u64 (a3 : Int), .int .u64 (b3 : Int), .int .u64 (c3 : Int), .int .u64 (d3 : Int)]).heap.size = w3.heap.size := size_setRow _ _ _
  have hv1 : V4 a3 b3 c3 d3 = V4 a b c m + n := by
    have h1 := HV3.out; have h2 := HM.out; have h3 := HN.out; have h4 := HT.out
    unfold V4 at h1 ⊢; omega
  have HV1 := Lib.hid hv1
  have HP5 := Lib.hid (plus4 a3 b3 c3 d3 19 ha3 hb3 hc3 hd3 (by decide))
  clear HB3 HR3 HV3 hv1 HP
  go_wp2_with (first | (refine wl_store4 (.tmp 1) (.tmp 18) HG3.out (by rfl) (by rfl) (by rfl) (Y := #[.int .u64 (a3 : Int), .int .u64 (b3 : Int), .int .u64 (c3 : Int), .int .u64 (d3 : Int)]) (by rfl) (by rfl) HO.out ?_) | (refine wl_load4 (.tmp 1) HG4.out (by rfl) (by rfl) (by rfl) ?_))
  generalize w3.setRow g #[.int .u64 (a3 : Int), .int .u64 (b3 : Int), .int .u64 (c3 : Int), .int .u64 (d3 : Int)] = w4 at *
  refine (HP5.out w4).mono ?_
  rintro e w5 ⟨a5, b5, c5, d5, k5, rfl, ha5, hb5, hc5, hd5, hk5, hv5, hbl5⟩
  have hs5 := hbl5.size
  have HG5 := Lib.hid (HG4.out.below hbl5 (by omega))
  have HR5 := Lib.hid (HR4.out.below hbl5 (by omega))
  have HB5 := Lib.hid (HB4.out.trans (hbl5.mono (by omega)))
  have hv2 : V4 a5 b5 c5 d5 = V4 a3 b3 c3 d3 + 19 := by
    have h1 := HV1.out; have h2 := HM.out; have h3 := HN.out; have h4 := HT.out
    unfold V4 at h1 hv5 ⊢; omega
  have HV2 := Lib.hid hv2
  have hshr : (d5 : Int) / 9223372036854775808 = ((d5 / 9223372036854775808 : Nat) : Int) := by omega
  have hba := (Below.refl w5.heap.size w5).alloc (Nat.le_refl _) (.cells #[.int .u64 (a5 : Int), .int .u64 (b5 : Int), .int .u64 (c5 : Int), .int .u64 (d5 : Int)] 33)
  have HG6 := Lib.hid (HG5.out.below hba (by omega))
  have HR6 := Lib.hid (HR5.out.below hba (by omega))
  have HL6 := Lib.hid (Blk4.new w5 (X := #[.int .u64 (a5 : Int), .int .u64 (b5 : Int), .int .u64 (c5 : Int), .int .u64 (d5 : Int)]) rfl)
  have HB6 := Lib.hid (HB5.out.trans (hba.mono (by omega)))
  have HR5x := Lib.hid HR5.out
  have HB5x := Lib.hid HB5.out
  clear hbl5 hv5 hv2 HG4 HR4 HB4 HG5 HR5 HB5 hba
  have hO5 : ∀ v ∈ (#[.int .u64 (a5 : Int), .int .u64 (b5 : Int), .int .u64 (c5 : Int), .int .u64 (d5 : Int)] : Array Value).toList, v.oneCell' = true := by
    intro v hv; simp only [List.mem_cons, List.not_mem_nil, or_false] at hv; rcases hv with rfl | rfl | rfl | rfl <;> rfl
  by_cases hz : d5 / 9223372036854775808 = 0
  · have hv6 : V4 a3 b3 c3 d3 = v % pF := by
      have h0 := HV.out; have h1 := HV1.out; have h2 := HM.out; have h3 := HN.out; have h4 := HT.out; have h5 := HV2.out
      unfold pF; unfold V4 at h0 h1 h5 ⊢; omega
    rw [hz] at hshr
    have hshr0 : (d5 : Int) / 9223372036854775808 = 0 := hshr
    have HV6 := Lib.hid hv6
    clear hv6 hz hshr
    have HRS := Lib.hid ((HR6.out.set (Y := #[.int .u64 (a3 : Int), .int .u64 (b3 : Int), .int .u64 (c3 : Int), .int .u64 (d3 : Int)]) rfl).load)
    have HBS := Lib.hid (below_setRow HB6.out (Nat.le_succ g) #[.int .u64 (a3 : Int), .int .u64 (b3 : Int), .int .u64 (c3 : Int), .int .u64 (d3 : Int)])
    go_wp2_with (first | (refine wl_load4 (.tmp 1) HG6.out (by rfl) (by rfl) (by rfl) ?_) | (refine wl_store4 (.tmp 2) (.tmp 29) HR6.out (by rfl) (by rfl) (by rfl) (Y := #[.int .u64 (a3 : Int), .int .u64 (b3 : Int), .int .u64 (c3 : Int), .int .u64 (d3 : Int)]) (by rfl) (by rfl) HO.out ?_))
    (try simp only [Exit.inBlock, Exit.then])
    refine bodyPost_ret (v := .agg #[.int .u64 (a3 : Int), .int .u64 (b3 : Int), .int .u64 (c3 : Int), .int .u64 (d3 : Int)]) (results_cellU rfl _ _ _ ⟨g + 1, 0, none⟩ _ rfl HRS.out) rfl ?_
    exact ⟨by rw [el_of ha3 hb3 hc3 hd3, HV6.out], by rw [HGG.out]; exact HBS.out⟩
  · obtain ⟨m5, hm5⟩ : ∃ m5, d5 % 9223372036854775808 = m5 := ⟨_, rfl⟩
    have hand : bits .and .u64 (d5 : Int) 9223372036854775807 = (m5 : Int) := by
      have h := bits_and_u64_nat d5 9223372036854775807 hd5 (by omega)
      have e : d5 &&& 9223372036854775807 = d5 % 9223372036854775808 := Nat.and_two_pow_sub_one_eq_mod d5 63
      rw [e, hm5] at h
      exact h
    have ht1 : t ≤ 1 := by have := HT.out; omega
    have hv6 : V4 a5 b5 c5 m5 = v % pF := by
      have h0 := HV.out; have h1 := HV1.out; have h2 := HM.out; have h3 := HN.out; have h4 := HT.out; have h5 := HV2.out
      have e : v = V4 a5 b5 c5 m5 + pF * (t + 1) := by
        unfold pF; unfold V4 at h0 h1 h5 ⊢; omega
      have hlt : V4 a5 b5 c5 m5 < pF := by
        unfold pF; unfold V4 at h0 h1 h5 ⊢; omega
      rw [e, Nat.add_mul_mod_self_left, Nat.mod_eq_of_lt hlt]
    have hne : ((d5 : Int) / 9223372036854775808 == 0) = false := by
      rw [hshr]; simp only [beq_eq_false_iff_ne, ne_eq]; omega
    have hm6 : m5 < 18446744073709551616 := by omega
    have HV6 := Lib.hid hv6
    clear hv6 hz hshr hm5
    have hba := (Below.refl w5.heap.size w5).alloc (Nat.le_refl _) (.cells #[.int .u64 (a5 : Int), .int .u64 (b5 : Int), .int .u64 (c5 : Int), .int .u64 (m5 : Int)] 33)
    have HL7 := Lib.hid (Blk4.new w5 (X := #[.int .u64 (a5 : Int), .int .u64 (b5 : Int), .int .u64 (c5 : Int), .int .u64 (m5 : Int)]) rfl)
    have HR7 := Lib.hid (HR5x.out.below hba (by omega))
    have HRS := Lib.hid ((HR7.out.set (Y := #[.int .u64 (a5 : Int), .int .u64 (b5 : Int), .int .u64 (c5 : Int), .int .u64 (m5 : Int)]) rfl).load)
    have HBS := Lib.hid (below_setRow (HB5x.out.trans (hba.mono (by omega))) (Nat.le_succ g) #[.int .u64 (a5 : Int), .int .u64 (b5 : Int), .int .u64 (c5 : Int), .int .u64 (m5 : Int)])
    have hO7 : ∀ v ∈ (#[.int .u64 (a5 : Int), .int .u64 (b5 : Int), .int .u64 (c5 : Int), .int .u64 (m5 : Int)] : Array Value).toList, v.oneCell' = true := by
      intro v hv; simp only [List.mem_cons, List.not_mem_nil, or_false] at hv; rcases hv with rfl | rfl | rfl | rfl <;> rfl
    clear hba hO5 HG6 HR6 HL6 HB6
    go_wp2_with (first | (refine wl_load4 (.tmp 4) HL7.out (by rfl) (by rfl) (by rfl) ?_) | (refine wl_store4 (.tmp 2) (.tmp 34) HR7.out (by rfl) (by rfl) (by rfl) (Y := #[.int .u64 (a5 : Int), .int .u64 (b5 : Int), .int .u64 (c5 : Int), .int .u64 (m5 : Int)]) (by rfl) (by rfl) hO7 ?_))
    (try simp only [Exit.inBlock, Exit.then])
    refine bodyPost_ret (v := .agg #[.int .u64 (a5 : Int), .int .u64 (b5 : Int), .int .u64 (c5 : Int), .int .u64 (m5 : Int)]) (results_cellU rfl _ _ _ ⟨g + 1, 0, none⟩ _ rfl HRS.out) rfl ?_
    exact ⟨by rw [el_of ha5 hb5 hc5 hm6, HV6.out], by rw [HGG.out]; exact HBS.out⟩
end Go.Proofs.Ytgpjidlomhkpeaa
