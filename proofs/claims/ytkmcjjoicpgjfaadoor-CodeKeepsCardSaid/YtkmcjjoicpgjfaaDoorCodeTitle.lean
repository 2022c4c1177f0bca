/-
  Contracts of code.title and shallotref18.Name: the name of an op. No conditions but that the number is a byte.
-/
import Derived.Test.YtkmcjjoicpgjfaaDoorCodeUses
namespace Go.Proofs.YtkmcjjoicpgjfaaDoor
open Go Go.RowKit Go.Sh

/-- the bytes of an op's name -/
def nmA : Nat → List UInt8
  | 0 => [104, 97, 108, 116]
  | 1 => [112, 117, 115, 104]
  | 2 => [97, 100, 100]
  | 3 => [115, 117, 98]
  | 4 => [109, 117, 108]
  | 5 => [108, 111, 97, 100]
  | 6 => [115, 116, 111, 114, 101]
  | 7 => [106, 117, 109, 112]
  | 8 => [122, 101, 114, 111]
  | 9 => [102, 114, 101, 115, 104]
  | 10 => [115, 101, 110, 100]
  | 11 => [99, 111, 118, 101, 114]
  | 12 => [119, 97, 105, 116]
  | 13 => [97, 102, 116, 101, 114]
  | 14 => [104, 101, 97, 114, 100]
  | 15 => [98, 108, 111, 99, 107]
  | 16 => [114, 101, 116]
  | _ => [63]
def nmV (o : Nat) : ByteArray := ⟨(nmA o).toArray⟩
theorem nmV_big {o : Nat} (h : ¬ o ≤ 16) : nmV o = ⟨#[63]⟩ := by
  obtain ⟨n, rfl⟩ : ∃ n, o = n + 17 := ⟨o - 17, by omega⟩
  rfl
theorem nmA_len (o : Nat) : (nmA o).length ≤ 5 := by
  by_cases h : o ≤ 16
  · rcases u8_cases h with rfl | rfl | rfl | rfl | rfl | rfl | rfl | rfl | rfl | rfl | rfl | rfl | rfl | rfl | rfl | rfl | rfl <;> decide
  · obtain ⟨n, rfl⟩ : ∃ n, o = n + 17 := ⟨o - 17, by omega⟩
    show [63].length ≤ 5
    decide
set_option maxRecDepth 100000 in
theorem title_any (o : Nat) (w : World) : Calls Tryd.prog 26 #[.int .u8 (o : Int)] w (fun e w' => e = .returned (.string (nmV o)) ∧ w = w') := by
  by_cases h : o ≤ 16
  · rcases u8_cases h with rfl | rfl | rfl | rfl | rfl | rfl | rfl | rfl | rfl | rfl | rfl | rfl | rfl | rfl | rfl | rfl | rfl
    all_goals
      clear h
      go_enter Tryd.func26, Tryd.ntmps26
      go_wp2
      go_ret
      exact ⟨rfl, rfl⟩
  · rw [nmV_big h]
    have f0 : ((o : Int) == 0) = false := by rw [beq_eq_false_iff_ne]; omega
    have f1 : ((o : Int) == 1) = false := by rw [beq_eq_false_iff_ne]; omega
    have f2 : ((o : Int) == 2) = false := by rw [beq_eq_false_iff_ne]; omega
    have f3 : ((o : Int) == 3) = false := by rw [beq_eq_false_iff_ne]; omega
    have f4 : ((o : Int) == 4) = false := by rw [beq_eq_false_iff_ne]; omega
    have f5 : ((o : Int) == 5) = false := by rw [beq_eq_false_iff_ne]; omega
    have f6 : ((o : Int) == 6) = false := by rw [beq_eq_false_iff_ne]; omega
    have f7 : ((o : Int) == 7) = false := by rw [beq_eq_false_iff_ne]; omega
    have f8 : ((o : Int) == 8) = false := by rw [beq_eq_false_iff_ne]; omega
    have f9 : ((o : Int) == 9) = false := by rw [beq_eq_false_iff_ne]; omega
    have f10 : ((o : Int) == 10) = false := by rw [beq_eq_false_iff_ne]; omega
    have f11 : ((o : Int) == 11) = false := by rw [beq_eq_false_iff_ne]; omega
    have f12 : ((o : Int) == 12) = false := by rw [beq_eq_false_iff_ne]; omega
    have f13 : ((o : Int) == 13) = false := by rw [beq_eq_false_iff_ne]; omega
    have f14 : ((o : Int) == 14) = false := by rw [beq_eq_false_iff_ne]; omega
    have f15 : ((o : Int) == 15) = false := by rw [beq_eq_false_iff_ne]; omega
    have f16 : ((o : Int) == 16) = false := by rw [beq_eq_false_iff_ne]; omega
    clear h
    go_enter Tryd.func26, Tryd.ntmps26
    go_wp2
    go_ret
    exact ⟨rfl, rfl⟩
/-- the cells of the table of names -/
def nmC : Array Value := #[.string ⟨#[104, 97, 108, 116]⟩, .string ⟨#[112, 117, 115, 104]⟩, .string ⟨#[97, 100, 100]⟩, .string ⟨#[115, 117, 98]⟩, .string ⟨#[109, 117, 108]⟩, .string ⟨#[108, 111, 97, 100]⟩, .string ⟨#[115, 116, 111, 114, 101]⟩, .string ⟨#[106, 117, 109, 112]⟩, .string ⟨#[122, 101, 114, 111]⟩, .string ⟨#[102, 114, 101, 115, 104]⟩, .string ⟨#[115, 101, 110, 100]⟩, .string ⟨#[99, 111, 118, 101, 114]⟩, .string ⟨#[119, 97, 105, 116]⟩, .string ⟨#[97, 102, 116, 101, 114]⟩, .string ⟨#[104, 101, 97, 114, 100]⟩, .string ⟨#[98, 108, 111, 99, 107]⟩, .string ⟨#[114, 101, 116]⟩]
set_option maxRecDepth 100000 in
theorem Name_any (o : Nat) (w : World) : Calls Tryd.prog 29 #[.int .u8 (o : Int)] w (fun e w' => e = .returned (.string (nmV o)) ∧ Below w.heap.size w w') := by
  have hz : nmC = #[.string ⟨#[104, 97, 108, 116]⟩, .string ⟨#[112, 117, 115, 104]⟩, .string ⟨#[97, 100, 100]⟩, .string ⟨#[115, 117, 98]⟩, .string ⟨#[109, 117, 108]⟩, .string ⟨#[108, 111, 97, 100]⟩, .string ⟨#[115, 116, 111, 114, 101]⟩, .string ⟨#[106, 117, 109, 112]⟩, .string ⟨#[122, 101, 114, 111]⟩, .string ⟨#[102, 114, 101, 115, 104]⟩, .string ⟨#[115, 101, 110, 100]⟩, .string ⟨#[99, 111, 118, 101, 114]⟩, .string ⟨#[119, 97, 105, 116]⟩, .string ⟨#[97, 102, 116, 101, 114]⟩, .string ⟨#[104, 101, 97, 114, 100]⟩, .string ⟨#[98, 108, 111, 99, 107]⟩, .string ⟨#[114, 101, 116]⟩] := rfl
  have HB := Lib.hid ((Below.refl w.heap.size w).alloc (Nat.le_refl _) (.cells nmC 105))
  have hc := heap_alloc_new w (.cells nmC 105)
  by_cases h : o ≤ 16
  · have hc0 : (w.alloc (.cells nmC 105)).cell? ⟨w.heap.size, o, none⟩ = some (.string (nmV o)) := by
      rw [blk_cell hc]
      rcases u8_cases h with rfl | rfl | rfl | rfl | rfl | rfl | rfl | rfl | rfl | rfl | rfl | rfl | rfl | rfl | rfl | rfl | rfl <;> rfl
    have d1 : ((16 : Int) < (o : Int)) = False := eq_false (by omega)
    have d2 : (o : Int) < 17 := by omega
    clear hc
    rw [hz] at hc0 HB
    clear hz
    generalize nmV o = r at *
    go_enter Tryd.func29, Tryd.ntmps29
    go_wp2_with fail
    go_ret
    exact ⟨rfl, HB.out⟩
  · rw [nmV_big h]
    have d1 : (16 : Int) < (o : Int) := by omega
    clear hc
    rw [hz] at HB
    clear hz h
    go_enter Tryd.func29, Tryd.ntmps29
    go_wp2_with fail
    go_ret
    exact ⟨rfl, HB.out⟩
end Go.Proofs.YtkmcjjoicpgjfaaDoor
