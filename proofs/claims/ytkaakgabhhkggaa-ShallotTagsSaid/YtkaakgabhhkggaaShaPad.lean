/-
  Contract of sha.padding: what is put behind n bytes. Conditions: n is a number of bytes that a machine can have.
-/
import Derived.Test.YtkaakgabhhkggaaShaSum
namespace Go.Proofs.Ytkaakgabhhkggaa
open Go Go.RowKit Go.Sh

/-- the noughts of the padding -/
def padZ (n : Nat) : Nat := (119 - n % 64) % 64
/-- the padding of n bytes -/
def shPad (n : Nat) : List UInt8 := rowf (1 + padZ n + 8) fun j => if j = 0 then 128 else if padZ n + 8 - j < 8 then pc (8 * n) (padZ n + 8 - j) else 0
theorem length_shPad (n : Nat) : (shPad n).length = 1 + padZ n + 8 := length_rowf _ _
theorem shPad_full (n : Nat) : (n + (shPad n).length) % 64 = 0 := by
  rw [length_shPad]
  unfold padZ
  omega

set_option maxRecDepth 100000 in
set_option maxHeartbeats 2000000 in
theorem padding_any (n : Nat) (w : World) (hn : n ≤ 1152921504606846976) :
    Calls Try.prog 59 #[.int .u64 (n : Int)] w (fun e w' => ∃ g c, e = .returned (.slice (some ⟨g, 0, none⟩) (shPad n).length c) ∧ w'.ownsRow w.heap.size 5 1 (.slice (some ⟨g, 0, none⟩) (shPad n).length c) (shPad n).length (bv (shPad n)) ∧ Below w.heap.size w w') := by
  obtain ⟨z, hz⟩ : ∃ z, padZ n = z := ⟨_, rfl⟩
  have hz64 : z < 64 := by rw [← hz]; unfold padZ; omega
  have HZ := Lib.hid (show (119 - ((n : Int) % 64)) % 64 = (z : Int) by rw [← hz]; unfold padZ; omega)
  have HL := Lib.hid (show (shPad n).length = 1 + z + 8 by rw [length_shPad, hz])
  have HP := Lib.hid (show shPad n = rowf (1 + z + 8) (fun j => if j = 0 then 128 else if z + 8 - j < 8 then pc (8 * n) (z + 8 - j) else 0) by rw [← hz]; rfl)
  rw [HL.out]
  obtain ⟨L, hL⟩ : ∃ L, 1 + z + 8 = L := ⟨_, rfl⟩
  have HLL := Lib.hid (show 1 + ((119 : Int) - (n : Int)) % 64 + 8 = (L : Int) by
    rw [← hL, ← hz]
    unfold padZ
    omega)
  have HZL := Lib.hid hL
  have HSZ := Lib.hid (show L ≤ 281474976710656 by omega)
  have hL9 : 9 ≤ L := by omega
  rw [hL] at HP ⊢
  clear hz hz64 hL
  generalize shPad n = sp at *
  go_enter Try.func59, Try.ntmps59
  go_wp2_with (at_make; refine wl_makeB TB rfl (.tmp 13) (.tmp 13) rfl .i64 .i64 _ _ rfl rfl L ?_ ?_ ?_ w.heap.size (Nat.le_refl _) ?_)
  · exact HLL.out
  · exact HLL.out
  · exact HSZ.out
  intro w1 hown hg _
  have HO1 := Lib.hid hown
  have HB1 := Lib.hid (show Below w.heap.size w w1 from (Below.refl _ _).grown hg (Nat.le_refl _) (by simp))
  clear hown hg
  generalize hgg : w.heap.size = g0 at *
  have HG := Lib.hid hgg
  clear hgg
  have hfr0 := HO1.out.frozenAt 0
  have hcr0 := HO1.out.cellAt 0 (by omega)
  rw [bv_at _ _ (by rw [length_zs]; omega)] at hcr0
  have h0L : 0 < L := by omega
  have hs0 := (HO1.out.stored 0 (.int .u8 ((128 : UInt8).toNat : Int))).1
  rw [bv_store, rowf_zs, rowf_set] at hs0
  have HS0 := Lib.hid (show (w1.setCell ⟨g0, 0, none⟩ (.int .u8 128)).ownsRow g0 5 1 (.slice (some ⟨g0, 0, none⟩) L L) L (bv (rowf L fun j => if j = 0 then 128 else if L - 1 - j < 0 then pc (8 * n) (L - 1 - j) else 0)) by
    rw [show (rowf L fun j => if j = 0 then 128 else if L - 1 - j < 0 then pc (8 * n) (L - 1 - j) else 0) = rowf L (fun j => if j = 0 then 128 else 0) from rowf_congr fun j _ => by simp]
    exact hs0)
  have HB2 := Lib.hid (HB1.out.setCell (p := ⟨g0, 0, none⟩) (Nat.le_refl _) (.int .u8 128))
  clear hs0
  go_wp2_with fail
  clear hfr0 hcr0 HB1 HO1 h0L
  generalize w1.setCell ⟨g0, 0, none⟩ (.int .u8 128) = w2 at *
  go_loopw [5] (fun i wr => ∃ k : Nat, k ≤ 8 ∧ i = .int .i64 k ∧ wr.ownsRow g0 5 1 (.slice (some ⟨g0, 0, none⟩) L L) L (bv (rowf L fun j => if j = 0 then 128 else if L - 1 - j < k then pc (8 * n) (L - 1 - j) else 0)) ∧ Below g0 w wr) (fun i _ => 8 - (intOf i).toNat)
  case atStart => exact ⟨0, by omega, rfl, HS0.out, HB2.out⟩
  case round =>
    obtain ⟨k, hk, rfl, hown, hb⟩ := hrel
    have HO := Lib.hid hown
    have HB := Lib.hid hb
    clear hown hb
    by_cases hlt : k < 8
    · have hfr := HO.out.frozenAt (L - 1 - k)
      have hcr := HO.out.cellAt (L - 1 - k) (by omega)
      rw [bv_at _ _ (by rw [length_rowf]; omega)] at hcr
      have u1 : IntKind.i64.wrap ((L : Int) - 1) = (L : Int) - 1 := by rw [IntKind.wrap_i64]; have := HSZ.out; omega
      have u2 : IntKind.i64.wrap ((L : Int) - 1 - (k : Int)) = (L : Int) - 1 - (k : Int) := by rw [IntKind.wrap_i64]; have := HSZ.out; omega
      have u3 : IntKind.u64.wrap (8 * (n : Int)) = 8 * (n : Int) := by rw [IntKind.wrap_u64]; omega
      have p1 : 0 ≤ (L : Int) - 1 - (k : Int) := by omega
      have p2 : (L : Int) - 1 - (k : Int) < (L : Int) := by omega
      have p3 : ((L : Int) - 1 - (k : Int)).toNat = L - 1 - k := by omega
      go_wp2_with fail
      have hpw := piece_wrap (8 * n) k
      rw [show ((8 * n : Nat) : Int) = 8 * (n : Int) by omega] at hpw
      rw [hpw]
      refine ⟨⟨k + 1, by omega, by go_num, ?_, HB.out.setCell (Nat.le_refl _) _⟩, by simp [intOf]; omega⟩
      have h := (HO.out.stored (L - 1 - k) (.int .u8 ((pc (8 * n) k).toNat : Int))).1
      rw [bv_store, rowf_set] at h
      rw [show (rowf L fun j => if j = 0 then 128 else if L - 1 - j < k + 1 then pc (8 * n) (L - 1 - j) else 0) = rowf L (fun j => if j = L - 1 - k then pc (8 * n) k else if j = 0 then 128 else if L - 1 - j < k then pc (8 * n) (L - 1 - j) else 0) from rowf_congr (fun j hj => by
        by_cases hjk : j = L - 1 - k
        · subst hjk
          rw [if_pos rfl, if_neg (by omega), show L - 1 - (L - 1 - k) = k by omega, if_pos (by omega)]
        · rw [if_neg hjk]
          split
          · rfl
          · split <;> split <;> first | rfl | omega)]
      exact h
    · obtain rfl : k = 8 := by omega
      go_wp2_with fail
      go_ret
      refine ⟨g0, L, rfl, ?_, ?_⟩
      · rw [HG.out, HP.out]
        have h := HO.out
        rw [show (rowf L fun j => if j = 0 then 128 else if L - 1 - j < 8 then pc (8 * n) (L - 1 - j) else 0) = rowf L (fun j => if j = 0 then 128 else if z + 8 - j < 8 then pc (8 * n) (z + 8 - j) else 0) from rowf_congr (fun j hj => by
          have := HZL.out
          rw [show L - 1 - j = z + 8 - j by omega])] at h
        exact h
      · rw [HG.out]
        exact HB.out
end Go.Proofs.Ytkaakgabhhkggaa
