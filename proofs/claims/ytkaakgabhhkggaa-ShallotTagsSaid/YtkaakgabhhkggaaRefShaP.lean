/-
  Contract of shallotref02.padding: the padding of n bytes. Conditions: n is a number of bytes that a machine can have.
-/
import Derived.Test.YtkaakgabhhkggaaShaPad
import Derived.Test.YtkaakgabhhkggaaPut
namespace Go.Proofs.Ytkaakgabhhkggaa
open Go Go.RowKit Go.Sh

theorem rowf_append (a b : Nat) (f : Nat → UInt8) : rowf (a + b) f = rowf a f ++ rowf b (fun i => f (a + i)) := by
  unfold rowf
  rw [List.range_add, List.map_append, List.map_map]
  rfl
theorem rowf_one (f : Nat → UInt8) : rowf 1 f = [f 0] := rfl
theorem shPad_eq (n : Nat) : shPad n = 128 :: zs (padZ n) ++ putB 2 8 (8 * n) := by
  unfold shPad
  rw [rowf_append, show 1 + padZ n = 1 + padZ n from rfl, rowf_append 1, rowf_one, rowf_zs]
  unfold putB
  rw [if_pos rfl, List.cons_append, List.cons_append, List.nil_append]
  rw [if_pos rfl]
  congr 1
  congr 1
  · refine rowf_congr fun i hi => ?_
    rw [if_neg (by omega), if_neg (by omega)]
  · refine rowf_congr fun i hi => ?_
    rw [if_neg (by omega), if_pos (by omega), show padZ n + 8 - (1 + padZ n + i) = 8 - 1 - i by omega]
theorem putL_eight {v : Nat} (h : v < 18446744073709551616) : putL 2 8 v = putB 2 8 v ∧ putE 2 8 v = 0 := by
  have e : putE 2 8 v = 0 := by
    unfold putE
    rw [if_neg (by decide), if_neg (by rw [show (256 : Nat) ^ Int.toNat 8 = 18446744073709551616 from rfl]; omega)]
  refine ⟨?_, e⟩
  unfold putL
  rw [if_pos e]
  rfl
theorem zs_succ (k : Nat) : zs (k + 1) = zs k ++ [0] := by
  unfold zs
  rw [List.replicate_succ']

set_option maxRecDepth 100000 in
set_option maxHeartbeats 4000000 in
theorem RefPadding_any (n : Nat) (w : World) (hn : n ≤ 1152921504606846976) :
    Calls Try.prog 61 #[.int .i64 (n : Int)] w (fun e w' => ∃ g c, e = .returned (.slice (some ⟨g, 0, none⟩) (shPad n).length c) ∧ w'.ownsRow w.heap.size 5 1 (.slice (some ⟨g, 0, none⟩) (shPad n).length c) (shPad n).length (bv (shPad n)) ∧ Below w.heap.size w w') := by
  obtain ⟨e1, e2⟩ := putL_eight (v := 8 * n) (by omega)
  have HPU := Lib.hid (RefPut_any 2 8 (8 * n))
  rw [e1, e2] at HPU
  rw [show ((8 * n : Nat) : Int) = 8 * (n : Int) by omega] at HPU
  have HEQ := Lib.hid (shPad_eq n)
  have HLN := Lib.hid (show (shPad n).length = 1 + padZ n + 8 from length_shPad n)
  have HZ := Lib.hid (show ∀ m, 1 ≤ m → m ≤ padZ n + 1 → ((n + m + 8) % 64 = 0 ↔ m = padZ n + 1) by intro m hm1 hm; unfold padZ at *; omega)
  have HZ2 := Lib.hid (show padZ n < 64 by unfold padZ; omega)
  have HLP := Lib.hid (length_putB 2 8 (8 * n))
  clear e1 e2
  generalize putB 2 8 (8 * n) = pu at *
  generalize padZ n = z at *
  generalize shPad n = sp at *
  have HB0 := Lib.hid ((Below.refl w.heap.size w).alloc (Nat.le_refl _) (.cells #[.int .u8 128] 5))
  have HO0 := Lib.hid (show (w.alloc (.cells #[.int .u8 128] 5)).ownsRow w.heap.size 5 1 (.slice (some ⟨w.heap.size, 0, none⟩) 1 1) 1 (bv (128 :: zs (1 - 1))) from World.ownsRow_lit w #[.int .u8 128] 1 (Nat.le_refl _) (by decide) rfl)
  have hm8 : IntKind.u64.wrap ((n : Int) * 8) = ((8 * n : Nat) : Int) := by rw [IntKind.wrap_u64]; omega
  go_enter Try.func61, Try.ntmps61
  go_wp2_with fail
  generalize w.alloc (.cells #[.int .u8 128] 5) = w1 at *
  generalize hG : w.heap.size = G at *
  have HG := Lib.hid hG
  clear hG
  go_loopw [3] (fun v wr => ∃ m g c : Nat, 1 ≤ m ∧ m ≤ z + 1 ∧ v = .slice (some ⟨g, 0, none⟩) m c ∧ wr.ownsRow G 5 1 (.slice (some ⟨g, 0, none⟩) m c) m (bv (128 :: zs (m - 1))) ∧ Below G w wr) (fun v _ => 65 - (match v with | .slice _ n _ => n | _ => 0))
  case atStart => exact ⟨1, _, _, by omega, by omega, rfl, HO0.out, HB0.out⟩
  case round =>
    obtain ⟨m, g, c, hm1, hm2, rfl, ho, hb⟩ := hrel
    have HO := Lib.hid ho
    have HB := Lib.hid hb
    have hz := hb.size
    have hm64 : m < 65 := by have := HZ2.out; omega
    rw [HG.out] at hz
    clear ho hb HB0 HO0
    have hmod : Int.tmod ((n : Int) + (m : Int) + 8) 64 = ((n : Int) + (m : Int) + 8) % 64 := Int.tmod_eq_emod_of_nonneg (by omega)
    have HM1 := Lib.hid hm1
    clear hm1
    by_cases hke : m = z + 1
    · have ht : (((n : Int) + (m : Int) + 8) % 64 != 0) = false := by
        have := (HZ.out m HM1.out hm2).2 hke
        rw [bne_eq_false_iff_eq]
        omega
      have HMZ := Lib.hid hke
      clear hke hm2
      go_wp2_with fail
      refine (HPU.out _ (by omega)).mono ?_
      rintro e w3 ⟨A3, t3, c3, rfl, hl3, ho3, hb3⟩
      have HO3 := Lib.hid (own_later HO.out hb3)
      have HB3 := Lib.hid (HB.out.trans (hb3.mono hz))
      have HP3 := Lib.hid (RB.of_own ho3)
      have hz3 := hb3.size
      rw [HLP.out] at hl3
      subst hl3
      clear ho3 hb3 HO HB
      go_wp2_with (at_builtin; refine wl_app TB rfl (.tmp 24) (.tmp 25) rfl (.slice (some ⟨g, 0, none⟩) m c) rfl A3 8 c3 rfl G m _ HO3.out w3.heap.size (bv pu) HP3.out (bv_one _) ?c3 ?c4 ?c5 ?c6)
      case c3 => omega
      case c4 => omega
      case c5 => omega
      case c6 =>
        intro A2 c2 w2 hown2 hg2 hat2
        have hA : ∃ g, A2 = some ⟨g, 0, none⟩ := by
          rcases hat2 with h | h <;> exact ⟨_, own_some hown2 (h.trans rfl)⟩
        obtain ⟨g2, rfl⟩ := hA
        have HO2 := Lib.hid hown2
        have HB2 := Lib.hid (HB3.out.grown hg2 (by omega) (own_drop HO3.out))
        clear hown2 hg2 hat2
        go_wp2
        go_ret
        have e1 : sp.length = m + 8 := by rw [HLN.out, HMZ.out]; omega
        rw [e1]
        refine ⟨g2, c2, rfl, ?_, ?_⟩
        · have := HO2.out
          rw [HMZ.out] at this ⊢
          rw [HEQ.out, HG.out, bv_append]
          exact this
        · rw [HG.out]; exact HB2.out
    · have ht : (((n : Int) + (m : Int) + 8) % 64 != 0) = true := by
        have := mt (HZ.out m HM1.out hm2).1 hke
        rw [bne_iff_ne]
        omega
      have hm3 : m < z + 1 := by omega
      clear hke hm2
      go_wp2_with (at_builtin; refine wl_app TB rfl (.tmp 14) (.tmp 15) rfl (.slice (some ⟨g, 0, none⟩) m c) rfl (some ⟨wr.heap.size, 0, none⟩) 1 1 rfl G m _ (HO.out.alloc _) (wr.heap.size + 1) [.int .u8 0] ?c1 ?c2 ?c3 ?c4 ?c5 ?c6)
      case c1 => exact Reads.lit wr _ [_] 1 1 rfl _ rfl
      case c2 => simp [Value.oneCell']
      case c3 => omega
      case c4 => omega
      case c5 => simp; omega
      case c6 =>
        intro A2 c2 w2 hown2 hg2 hat2
        have hA : ∃ g, A2 = some ⟨g, 0, none⟩ := by
          rcases hat2 with h | h <;> exact ⟨_, own_some hown2 (h.trans rfl)⟩
        obtain ⟨g2, rfl⟩ := hA
        have HO2 := Lib.hid hown2
        have HB2 := Lib.hid ((HB.out.alloc hz _).grown hg2 (by simp; omega) (own_drop HO.out))
        clear hown2 hg2 hat2
        go_wp2
        refine ⟨⟨m + 1, g2, c2, by omega, by omega, rfl, ?_, HB2.out⟩, by simp; omega⟩
        obtain ⟨k, rfl⟩ : ∃ k, m = k + 1 := ⟨m - 1, by have := HM1.out; omega⟩
        have := HO2.out
        rw [show k + 1 - 1 = k from rfl] at this
        rw [show k + 1 + 1 - 1 = k + 1 from rfl, zs_succ, ← List.cons_append, bv_append]
        exact this
end Go.Proofs.Ytkaakgabhhkggaa
