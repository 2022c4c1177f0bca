/-
  Contract of dir.wellFormed: a name in form, in plain words. No conditions but the size of the string.
-/
import Derived.Test.YtkmcjjoicpgjfaaDoorCopy
namespace Go.Proofs.YtkmcjjoicpgjfaaDoor
open Go Go.RowKit Go.Sh
open Classical

/-- byte k of a name -/
def nby (s : ByteArray) (k : Nat) : UInt8 := s.data.getD k 0
def nletter (c : UInt8) : Prop := 97 ≤ c.toNat ∧ c.toNat ≤ 122
def ndigit (c : UInt8) : Prop := 48 ≤ c.toNat ∧ c.toNat ≤ 57
def nokAt (s : ByteArray) (k : Nat) : Prop := nletter (nby s k) ∨ (ndigit (nby s k) ∧ 0 < k)
/-- a name in form -/
def wfN (s : ByteArray) : Prop := 1 ≤ s.size ∧ s.size ≤ 16 ∧ ∀ k, k < s.size → nokAt s k

theorem index_name (s : ByteArray) (k : Nat) (hk : k < s.size) (W : World) : (Instr.index 9 (.string s) (.int .i64 (k : Int))).run Tryd.prog W = .ok (.int .u8 ((nby s k).toNat : Int)) W := by
  have h0 : s.data.size = s.size := rfl
  have h1 : nby s k = s[k]'hk := by
    unfold nby
    rw [Array.getD_eq_getD_getElem?, Array.getElem?_eq_getElem (by omega : k < s.data.size), Option.getD_some]
    rfl
  rw [h1]
  simp [Instr.index, run_underlying Tryd.underlying9, asIntOf, hk]
set_option maxRecDepth 100000 in
set_option maxHeartbeats 2000000 in
theorem wellFormed_any (s : ByteArray) (w : World) :
    Calls Tryd.prog 97 #[.string s] w (fun e w' => e = .returned (.bool (decide (wfN s))) ∧ w = w') := by
  by_cases h1 : s.size < 1
  · have HI := Lib.hid (show decide (wfN s) = false by rw [decide_eq_false_iff_not]; rintro ⟨h, _⟩; omega)
    rw [HI.out]
    have i1 : (s.size : Int) < 1 := by omega
    go_enter Tryd.func97, Tryd.ntmps97
    go_wp2_with fail
    go_ret
    exact ⟨rfl, rfl⟩
  by_cases h2 : 16 < s.size
  · have HI := Lib.hid (show decide (wfN s) = false by rw [decide_eq_false_iff_not]; rintro ⟨_, h, _⟩; omega)
    rw [HI.out]
    have i1 : ¬ (s.size : Int) < 1 := by omega
    have i2 : (16 : Int) < (s.size : Int) := by omega
    go_enter Tryd.func97, Tryd.ntmps97
    go_wp2_with fail
    go_ret
    exact ⟨rfl, rfl⟩
  have HI := Lib.hid (show decide (wfN s) = decide (∀ k, k < s.size → nokAt s k) by simp only [wfN, show 1 ≤ s.size by omega, show s.size ≤ 16 by omega, true_and])
  have HIX := Lib.hid (index_name s)
  generalize decide (wfN s) = b at *
  have i1 : ¬ (s.size : Int) < 1 := by omega
  have i2 : ¬ (16 : Int) < (s.size : Int) := by omega
  go_enter Tryd.func97, Tryd.ntmps97
  go_wp2_with fail
  go_loopw [3, 4, 5, 6] (fun i _ _ _ wr => ∃ k : Nat, k ≤ s.size ∧ i = .int .i64 (k : Int) ∧ wr = w ∧ ∀ j, j < k → nokAt s j) (fun i _ _ _ _ => s.size - (intOf i).toNat)
  case atStart => exact ⟨0, by omega, rfl, rfl, fun j hj => absurd hj (by omega)⟩
  case round =>
    obtain ⟨k, hk, rfl, rfl, hall⟩ := hrel
    have HA := Lib.hid hall
    clear hall
    by_cases hlt : k < s.size
    · have hix := HIX.out k hlt
      obtain ⟨x, hx⟩ : ∃ x, (nby s k).toNat = x := ⟨_, rfl⟩
      have HOK := Lib.hid (show nokAt s k ↔ ((97 ≤ x ∧ x ≤ 122) ∨ ((48 ≤ x ∧ x ≤ 57) ∧ 0 < k)) by rw [← hx]; exact Iff.rfl)
      rw [hx] at hix
      clear hx
      by_cases hok : nokAt s k
      · have HKK := Lib.hid hok
        have hok' := HOK.out.1 hok
        have HALL := Lib.hid (show ∀ j, j < k + 1 → nokAt s j from fun j hj => by
          by_cases hjk : j < k
          · exact HA.out j hjk
          · obtain rfl : j = k := by omega
            exact HKK.out)
        clear hok
        by_cases a1 : 97 ≤ x
        · by_cases a2 : x ≤ 122
          · clear hok'
            have b1 : (97 : Int) ≤ (x : Int) := by omega
            have b2 : (x : Int) ≤ 122 := by omega
            have b3 : (48 : Int) ≤ (x : Int) := by omega
            have b4 : ¬ (x : Int) ≤ 57 := by omega
            go_wp2_with fail
            exact ⟨⟨k + 1, by omega, by go_num, by first | rfl | trivial, HALL.out⟩, by simp [intOf]; omega⟩
          · exact absurd hok' (by omega)
        · have c1 : 48 ≤ x := by omega
          have c2 : x ≤ 57 := by omega
          have c3 : 0 < k := by omega
          clear hok'
          have b1 : ¬ (97 : Int) ≤ (x : Int) := by omega
          have b3 : (48 : Int) ≤ (x : Int) := by omega
          have b4 : (x : Int) ≤ 57 := by omega
          have b5 : 0 < k := by omega
          go_wp2_with fail
          exact ⟨⟨k + 1, by omega, by go_num, by first | rfl | trivial, HALL.out⟩, by simp [intOf]; omega⟩
      · have HBF := Lib.hid (show b = false by rw [HI.out, decide_eq_false_iff_not]; intro h; exact hok (h k hlt))
        have hok' : ¬ ((97 ≤ x ∧ x ≤ 122) ∨ ((48 ≤ x ∧ x ≤ 57) ∧ 0 < k)) := fun h => hok (HOK.out.2 h)
        clear hok
        by_cases a1 : 97 ≤ x
        · have b1 : (97 : Int) ≤ (x : Int) := by omega
          have b2 : ¬ (x : Int) ≤ 122 := by omega
          have b3 : (48 : Int) ≤ (x : Int) := by omega
          have b4 : ¬ (x : Int) ≤ 57 := by omega
          clear hok'
          go_wp2_with fail
          go_ret
          exact ⟨by rw [HBF.out]; first | done | rfl, rfl⟩
        · have b1 : ¬ (97 : Int) ≤ (x : Int) := by omega
          by_cases a3 : 48 ≤ x
          · have b3 : (48 : Int) ≤ (x : Int) := by omega
            by_cases a4 : x ≤ 57
            · have b4 : (x : Int) ≤ 57 := by omega
              have b5 : ¬ 0 < k := by omega
              clear hok'
              go_wp2_with fail
              go_ret
              exact ⟨by rw [HBF.out]; first | done | rfl, rfl⟩
            · have b4 : ¬ (x : Int) ≤ 57 := by omega
              clear hok'
              go_wp2_with fail
              go_ret
              exact ⟨by rw [HBF.out]; first | done | rfl, rfl⟩
          · have b3 : ¬ (48 : Int) ≤ (x : Int) := by omega
            clear hok'
            go_wp2_with fail
            go_ret
            exact ⟨by rw [HBF.out]; first | done | rfl, rfl⟩
    · obtain rfl : k = s.size := by omega
      have HBT := Lib.hid (show b = true by rw [HI.out, decide_eq_true_iff]; exact HA.out)
      go_wp2_with fail
      go_ret
      exact ⟨by rw [HBT.out]; first | done | rfl, rfl⟩
end Go.Proofs.YtkmcjjoicpgjfaaDoor
