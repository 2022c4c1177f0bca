/-
  Contract of shallotref18.Digits: a number's decimal digits. No conditions but that the number fits.
-/
import Derived.Test.YtkmcjjoicpgjfaaDoorCopy
import Derived.Lib.ItoaNum
import Derived.Lib.ItoaLen
namespace Go.Proofs.YtkmcjjoicpgjfaaDoor
open Go Go.RowKit Go.Sh

/-- the digit of a that stands last -/
def dgl (a : Nat) : UInt8 := UInt8.ofNat (48 + a % 10)
theorem dec_step {a : Nat} (h : ¬ a < 10) : Lib.decDigits a = Lib.decDigits (a / 10) ++ [dgl a] := by
  rw [Lib.decDigits, dif_neg h]; rfl
theorem dec_last {a : Nat} (h : a < 10) : Lib.decDigits a = [dgl a] := by
  rw [Lib.decDigits, dif_pos h]; unfold dgl; rw [Nat.mod_eq_of_lt h]
theorem dgl_nat (a : Nat) : ((dgl a).toNat : Int) = 48 + (a : Int) % 10 := by
  unfold dgl
  rw [UInt8.toNat_ofNat']
  omega
theorem dec_len {N : Nat} (h : N < 18446744073709551616) : (Lib.decDigits N).length ≤ 20 := by rw [Lib.decDigits_length]; exact Lib.nDigits_le20 N h
theorem str_cat (a b : List UInt8) : (⟨a.toArray⟩ ++ ⟨b.toArray⟩ : ByteArray) = ⟨(a ++ b).toArray⟩ := by
  apply ByteArray.ext
  rw [ByteArray.data_append]
  simp
set_option maxRecDepth 100000 in
set_option maxHeartbeats 2000000 in
theorem Digits_any (n : Int) (h0 : -9223372036854775808 ≤ n) (h1 : n ≤ 9223372036854775807) (w : World) :
    Calls Tryd.prog 31 #[.int .i64 n] w (fun e w' => e = .returned (.string ⟨(Lib.itoa n).toArray⟩) ∧ Below w.heap.size w w') := by
  obtain ⟨N, hN⟩ : ∃ N, n.natAbs = N := ⟨_, rfl⟩
  have hN64 : N ≤ 9223372036854775808 := by omega
  have HL := Lib.hid (dec_len (N := N) (by omega))
  by_cases hneg : n < 0
  · have hn : n = -(N : Int) := by omega
    have HI := Lib.hid (show Lib.itoa n = 45 :: Lib.decDigits N by unfold Lib.itoa; rw [if_pos hneg, hN])
    rw [HI.out]
    subst hn
    have dneg : 0 < N := by omega
    clear hN h0 h1 HI hneg
    go_enter Tryd.func31, Tryd.ntmps31
    go_wp2_with fail
    go_loopw [0, 3, 5] (fun cur b _ wr => ∃ (a : Nat) (ds : List UInt8) (A : Option Addr) (m c : Nat), cur = .int .i64 (-(a : Int)) ∧ a ≤ 9223372036854775808 ∧ b = .slice A m c ∧ RB wr wr.heap.size A m ds ∧ Below w.heap.size w wr ∧ Lib.decDigits N = Lib.decDigits a ++ ds) (fun cur _ _ _ => (intOf cur).natAbs)
    case atStart => exact ⟨N, [], none, 0, 0, rfl, hN64, rfl, RB.none_, Below.refl _ _, by simp⟩
    case round =>
      obtain ⟨a, ds, A, m, c, rfl, ha, rfl, hr, hb, hd⟩ := hrel
      have HR := Lib.hid hr
      have HB := Lib.hid hb
      have HD := Lib.hid hd
      have hs := hb.size
      have hm : m ≤ 20 := by
        have h1 := HL.out
        rw [hd, List.length_append] at h1
        have := hr.len
        omega
      have hdg := dgl_nat a
      have hA0 : 0 < ((dgl a).toNat : Int) := by omega
      obtain ⟨b, hbd⟩ : ∃ b, a / 10 = b := ⟨_, rfl⟩
      clear hr hb hd
      by_cases hr0 : a % 10 = 0
      · have t1 : Int.tmod (-(a : Int)) 10 = 0 := by rw [Int.neg_tmod, Int.tmod_eq_emod_of_nonneg (by omega)]; omega
        have t2 : Int.tdiv (-(a : Int)) 10 = -(b : Int) := by rw [Int.neg_tdiv, Int.tdiv_eq_ediv_of_nonneg (by omega)]; omega
        have HV := Lib.hid (show bv [dgl a] = [.int .u8 48] by show [Value.int .u8 ((dgl a).toNat : Int)] = _; rw [show ((dgl a).toNat : Int) = 48 by omega])
        go_wp2_with (at_builtin; refine wl_app TB rfl (.tmp 17) (.tmp 18) rfl _ rfl A m c rfl wr.heap.size 1 (bv [dgl a]) ?hown_n0 wr.heap.size (bv ds) ?hrd_n0 (bv_one _) ?hb1_n0 ?hb2_n0 ?hb3_n0 ?hgo_n0)
        case hown_n0 => rw [HV.out]; exact World.ownsRow_lit wr #[.int .u8 48] 1 (Nat.le_refl _) (by decide) rfl
        case hrd_n0 => exact HR.out.alloc (Nat.le_refl _) _
        case hb1_n0 => omega
        case hb2_n0 => omega
        case hb3_n0 => simp
        case hgo_n0 =>
          intro A2 c2 w2 ho hg _
          rw [← bv_append] at ho
          have HR2 := Lib.hid (RB.of_own ho)
          have HB2 := Lib.hid ((HB.out.alloc hs (.cells #[.int .u8 48] 5)).grown hg (by simp; omega) (by simp [Value.ownBlock]; omega))
          clear ho hg HR HV
          rw [show [dgl a] ++ ds = dgl a :: ds from rfl] at HR2
          by_cases ht : a < 10
          · obtain rfl : b = 0 := by omega
            have HE := Lib.hid (show Lib.decDigits N = dgl a :: ds by rw [HD.out, dec_last ht]; rfl)
            rw [← HE.out] at HR2
            have HT2 := Lib.hid t2
            clear t1 hdg hA0 HD HE
            have hll := HL.out
            go_wp2_with (refine wl_str Tryd.underlying39 Tryd.underlying5 Tryd.underlying9 rfl (.tmp 25) rfl A2 (1 + m) c2 rfl w2.heap.size (Lib.decDigits N) HR2.out ?_)
            go_ret
            exact ⟨by rw [str_cat]; rfl, HB2.out⟩
          · have HE := Lib.hid (show Lib.decDigits N = Lib.decDigits b ++ (dgl a :: ds) by rw [HD.out, dec_step ht, hbd, List.append_assoc]; rfl)
            have hb0 : b ≠ 0 := by omega
            have hz0 : (-(b : Int) == 0) = false := by rw [beq_eq_false_iff_ne]; omega
            go_wp2_with fail
            exact ⟨⟨b, dgl a :: ds, A2, 1 + m, c2, rfl, by omega, rfl, HR2.out, HB2.out, HE.out⟩, by simp [intOf]; omega⟩
      · obtain ⟨r, hr1⟩ : ∃ r, a % 10 = r := ⟨_, rfl⟩
        rw [hr1] at hr0
        have t1 : Int.tmod (-(a : Int)) 10 = -(r : Int) := by rw [Int.neg_tmod, Int.tmod_eq_emod_of_nonneg (by omega)]; omega
        have t2 : Int.tdiv (-(a : Int)) 10 = -(b : Int) := by rw [Int.neg_tdiv, Int.tdiv_eq_ediv_of_nonneg (by omega)]; omega
        have t3 : (-(r : Int) < 0) = True := by simp only [eq_iff_iff, iff_true]; omega
        have HV := Lib.hid (show bv [dgl a] = [.int .u8 (48 + (r : Int))] by show [Value.int .u8 ((dgl a).toNat : Int)] = _; rw [show ((dgl a).toNat : Int) = (48 + (r : Int)) by omega])
        go_wp2_with (at_builtin; refine wl_app TB rfl (.tmp 17) (.tmp 18) rfl _ rfl A m c rfl wr.heap.size 1 (bv [dgl a]) ?hown_n1 wr.heap.size (bv ds) ?hrd_n1 (bv_one _) ?hb1_n1 ?hb2_n1 ?hb3_n1 ?hgo_n1)
        case hown_n1 => rw [HV.out]; exact World.ownsRow_lit wr #[.int .u8 (48 + (r : Int))] 1 (Nat.le_refl _) (by decide) rfl
        case hrd_n1 => exact HR.out.alloc (Nat.le_refl _) _
        case hb1_n1 => omega
        case hb2_n1 => omega
        case hb3_n1 => simp
        case hgo_n1 =>
          intro A2 c2 w2 ho hg _
          rw [← bv_append] at ho
          have HR2 := Lib.hid (RB.of_own ho)
          have HB2 := Lib.hid ((HB.out.alloc hs (.cells #[.int .u8 (48 + (r : Int))] 5)).grown hg (by simp; omega) (by simp [Value.ownBlock]; omega))
          clear ho hg HR HV
          rw [show [dgl a] ++ ds = dgl a :: ds from rfl] at HR2
          by_cases ht : a < 10
          · obtain rfl : b = 0 := by omega
            have HE := Lib.hid (show Lib.decDigits N = dgl a :: ds by rw [HD.out, dec_last ht]; rfl)
            rw [← HE.out] at HR2
            have HT2 := Lib.hid t2
            clear t1 t3 hdg hA0 HD HE
            have hll := HL.out
            go_wp2_with (refine wl_str Tryd.underlying39 Tryd.underlying5 Tryd.underlying9 rfl (.tmp 25) rfl A2 (1 + m) c2 rfl w2.heap.size (Lib.decDigits N) HR2.out ?_)
            go_ret
            exact ⟨by rw [str_cat]; rfl, HB2.out⟩
          · have HE := Lib.hid (show Lib.decDigits N = Lib.decDigits b ++ (dgl a :: ds) by rw [HD.out, dec_step ht, hbd, List.append_assoc]; rfl)
            have hb0 : b ≠ 0 := by omega
            have hz0 : (-(b : Int) == 0) = false := by rw [beq_eq_false_iff_ne]; omega
            go_wp2_with fail
            exact ⟨⟨b, dgl a :: ds, A2, 1 + m, c2, rfl, by omega, rfl, HR2.out, HB2.out, HE.out⟩, by simp [intOf]; omega⟩
  · have hn : n = (N : Int) := by omega
    have HI := Lib.hid (show Lib.itoa n = Lib.decDigits N by unfold Lib.itoa; rw [if_neg hneg]; congr 1; omega)
    rw [HI.out]
    subst hn
    have dneg : ((N : Int) < 0) = False := by simp only [eq_iff_iff, iff_false]; omega
    clear hN h0 h1 HI hneg
    go_enter Tryd.func31, Tryd.ntmps31
    go_wp2_with fail
    go_loopw [0, 3, 5] (fun cur b _ wr => ∃ (a : Nat) (ds : List UInt8) (A : Option Addr) (m c : Nat), cur = .int .i64 ((a : Int)) ∧ a ≤ 9223372036854775808 ∧ b = .slice A m c ∧ RB wr wr.heap.size A m ds ∧ Below w.heap.size w wr ∧ Lib.decDigits N = Lib.decDigits a ++ ds) (fun cur _ _ _ => (intOf cur).natAbs)
    case atStart => exact ⟨N, [], none, 0, 0, rfl, hN64, rfl, RB.none_, Below.refl _ _, by simp⟩
    case round =>
      obtain ⟨a, ds, A, m, c, rfl, ha, rfl, hr, hb, hd⟩ := hrel
      have HR := Lib.hid hr
      have HB := Lib.hid hb
      have HD := Lib.hid hd
      have hs := hb.size
      have hm : m ≤ 20 := by
        have h1 := HL.out
        rw [hd, List.length_append] at h1
        have := hr.len
        omega
      have hdg := dgl_nat a
      have hA0 : 0 < ((dgl a).toNat : Int) := by omega
      obtain ⟨b, hbd⟩ : ∃ b, a / 10 = b := ⟨_, rfl⟩
      clear hr hb hd
      obtain ⟨r, hr1⟩ : ∃ r, a % 10 = r := ⟨_, rfl⟩
      have t1 : Int.tmod (a : Int) 10 = (r : Int) := by rw [Int.tmod_eq_emod_of_nonneg (by omega)]; omega
      have t2 : Int.tdiv (a : Int) 10 = (b : Int) := by rw [Int.tdiv_eq_ediv_of_nonneg (by omega)]; omega
      have t3 : ((r : Int) < 0) = False := by simp only [eq_iff_iff, iff_false]; omega
      have HV := Lib.hid (show bv [dgl a] = [.int .u8 (48 + (r : Int))] by show [Value.int .u8 ((dgl a).toNat : Int)] = _; rw [show ((dgl a).toNat : Int) = (48 + (r : Int)) by omega])
      go_wp2_with (at_builtin; refine wl_app TB rfl (.tmp 17) (.tmp 18) rfl _ rfl A m c rfl wr.heap.size 1 (bv [dgl a]) ?hown_p wr.heap.size (bv ds) ?hrd_p (bv_one _) ?hb1_p ?hb2_p ?hb3_p ?hgo_p)
      case hown_p => rw [HV.out]; exact World.ownsRow_lit wr #[.int .u8 (48 + (r : Int))] 1 (Nat.le_refl _) (by decide) rfl
      case hrd_p => exact HR.out.alloc (Nat.le_refl _) _
      case hb1_p => omega
      case hb2_p => omega
      case hb3_p => simp
      case hgo_p =>
        intro A2 c2 w2 ho hg _
        rw [← bv_append] at ho
        have HR2 := Lib.hid (RB.of_own ho)
        have HB2 := Lib.hid ((HB.out.alloc hs (.cells #[.int .u8 (48 + (r : Int))] 5)).grown hg (by simp; omega) (by simp [Value.ownBlock]; omega))
        clear ho hg HR HV
        rw [show [dgl a] ++ ds = dgl a :: ds from rfl] at HR2
        by_cases ht : a < 10
        · obtain rfl : b = 0 := by omega
          have HE := Lib.hid (show Lib.decDigits N = dgl a :: ds by rw [HD.out, dec_last ht]; rfl)
          rw [← HE.out] at HR2
          have HT2 := Lib.hid t2
          clear t1 t3 hdg hA0 HD HE
          have hll := HL.out
          go_wp2_with (refine wl_str Tryd.underlying39 Tryd.underlying5 Tryd.underlying9 rfl (.tmp 28) rfl A2 (1 + m) c2 rfl w2.heap.size (Lib.decDigits N) HR2.out ?_)
          go_ret
          exact ⟨by rfl, HB2.out⟩
        · have HE := Lib.hid (show Lib.decDigits N = Lib.decDigits b ++ (dgl a :: ds) by rw [HD.out, dec_step ht, hbd, List.append_assoc]; rfl)
          have hb0 : b ≠ 0 := by omega
          have hz0 : ((b : Int) == 0) = false := by rw [beq_eq_false_iff_ne]; omega
          go_wp2_with fail
          exact ⟨⟨b, dgl a :: ds, A2, 1 + m, c2, rfl, by omega, rfl, HR2.out, HB2.out, HE.out⟩, by simp [intOf]; omega⟩
end Go.Proofs.YtkmcjjoicpgjfaaDoor
