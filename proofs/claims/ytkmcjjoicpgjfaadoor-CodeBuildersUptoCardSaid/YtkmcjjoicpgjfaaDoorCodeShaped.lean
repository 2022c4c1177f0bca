/-
  Contracts of code.shaped, sendable and bounded. Conditions: the numbers fit; the sizes that slices can have.
-/
import Derived.Test.YtkmcjjoicpgjfaaDoorCodeUses
namespace Go.Proofs.YtkmcjjoicpgjfaaDoor
open Go Go.RowKit Go.Sh

/-- are A and B of an instruction in form? -/
def shB (i : Ins) : Bool :=
  if usN i.op.toNat = 1 then wi i.a (-2147483648) 2147483647 && (i.b == 0)
  else if usN i.op.toNat = 2 then wi i.a 0 65535 && (i.b == 0)
  else if usN i.op.toNat = 3 then wi i.a 0 65535 && wi i.b 0 65535
  else (i.a == 0) && (i.b == 0)
theorem usN_cases (o : Nat) : usN o = 0 ∨ usN o = 1 ∨ usN o = 2 ∨ usN o = 3 := by
  unfold usN
  split
  · simp
  · split
    · simp
    · split <;> simp
set_option maxRecDepth 100000 in
set_option maxHeartbeats 1000000 in
theorem shaped_ins (i : Ins) (w : World) : Calls Tryd.prog 78 #[.agg i.cells.toArray] w (fun e w' => e = .returned (.bool (shB i)) ∧ Below w.heap.size w w') := by
  obtain ⟨op, a, b⟩ := i
  have HB := Lib.hid ((Below.refl w.heap.size w).alloc (Nat.le_refl _) (.cells #[.int .u8 (op.toNat : Int), .int .i64 a, .int .i64 b] 33))
  have HU := Lib.hid (fun W => uses_any op.toNat W)
  have HS := Lib.hid (show shB ⟨op, a, b⟩ = if usN op.toNat = 1 then wi a (-2147483648) 2147483647 && (b == 0) else if usN op.toNat = 2 then wi a 0 65535 && (b == 0) else if usN op.toNat = 3 then wi a 0 65535 && wi b 0 65535 else (a == 0) && (b == 0) from rfl)
  have HC := Lib.hid (usN_cases op.toNat)
  have e0 : (show Ins from ⟨op, a, b⟩).cells.toArray = #[.int .u8 (op.toNat : Int), .int .i64 a, .int .i64 b] := rfl
  rw [show (Ins.cells ⟨op, a, b⟩).toArray = #[.int .u8 (op.toNat : Int), .int .i64 a, .int .i64 b] from rfl]
  clear e0
  generalize shB ⟨op, a, b⟩ = r at *
  generalize usN op.toNat = u at *
  have hc1 : (w.alloc (.cells #[.int .u8 (op.toNat : Int), .int .i64 a, .int .i64 b] 33)).cell? ⟨w.heap.size, 1, none⟩ = some (.int .i64 a) := by rw [blk_cell (heap_alloc_new w _)]; rfl
  have hc2 : (w.alloc (.cells #[.int .u8 (op.toNat : Int), .int .i64 a, .int .i64 b] 33)).cell? ⟨w.heap.size, 2, none⟩ = some (.int .i64 b) := by rw [blk_cell (heap_alloc_new w _)]; rfl
  go_enter Tryd.func78, Tryd.ntmps78
  go_wp2_with fail
  generalize w.alloc (.cells #[.int .u8 (op.toNat : Int), .int .i64 a, .int .i64 b] 33) = w1 at *
  refine (HU.out w1).mono ?_
  rintro e w2 ⟨rfl, rfl⟩
  rcases HC.out with rfl | rfl | rfl | rfl
  · have hr : r = ((a == 0) && (b == 0)) := by rw [HS.out]; rfl
    clear HS HC HU
    by_cases ha : a = 0
    · subst ha
      go_wp2_with fail
      go_ret
      exact ⟨by rw [hr]; rfl, HB.out⟩
    · have f : (a == 0) = false := by rw [beq_eq_false_iff_ne]; exact ha
      rw [f, Bool.false_and] at hr
      go_wp2_with fail
      go_ret
      exact ⟨by rw [hr]; rfl, HB.out⟩
  · have hr : r = (wi a (-2147483648) 2147483647 && (b == 0)) := by rw [HS.out]; rfl
    clear HS HC HU
    go_wp2_with fail
    refine (within_any a (-2147483648) 2147483647 w1).mono ?_
    rintro e w2 ⟨rfl, rfl⟩
    rcases Bool.eq_false_or_eq_true (wi a (-2147483648) 2147483647) with h | h
    all_goals
      rw [h] at hr ⊢
      go_wp2_with fail
      go_ret
      exact ⟨by rw [hr]; rfl, HB.out⟩
  · have hr : r = (wi a 0 65535 && (b == 0)) := by rw [HS.out]; rfl
    clear HS HC HU
    go_wp2_with fail
    refine (within_any a 0 65535 w1).mono ?_
    rintro e w2 ⟨rfl, rfl⟩
    rcases Bool.eq_false_or_eq_true (wi a 0 65535) with h | h
    all_goals
      rw [h] at hr ⊢
      go_wp2_with fail
      go_ret
      exact ⟨by rw [hr]; rfl, HB.out⟩
  · have hr : r = (wi a 0 65535 && wi b 0 65535) := by rw [HS.out]; rfl
    clear HS HC HU
    go_wp2_with fail
    refine (within_any a 0 65535 w1).mono ?_
    rintro e w2 ⟨rfl, rfl⟩
    rcases Bool.eq_false_or_eq_true (wi a 0 65535) with h | h
    · rw [h] at hr ⊢
      go_wp2_with fail
      refine (within_any b 0 65535 w1).mono ?_
      rintro e w2 ⟨rfl, rfl⟩
      go_wp2_with fail
      go_ret
      exact ⟨by rw [hr]; rfl, HB.out⟩
    · rw [h] at hr ⊢
      go_wp2_with fail
      go_ret
      exact ⟨by rw [hr]; rfl, HB.out⟩
/-- are a program's amounts within the limits? -/
def bdB (p : Prg) : Bool :=
  decide (p.code.length ≤ 4000) && decide (p.msgs.length ≤ 64) && decide (p.rts.length ≤ 64) && decide (p.snds.length ≤ 64) && wi p.vars 0 64 && wi p.stack 0 64 && wi p.blocks 0 16 && wi p.fuel 0 1000000
/-- is a send in form? -/
def sdB (s : Snd) : Bool := decide (1 ≤ s.rts.length) && decide (s.rts.length ≤ 8) && s.rts.all (fun r => wi r 0 63) && wi s.msg 0 63 && wi s.blk (-1) 15
theorem all_at {α : Type} {f : α → Bool} {l : List α} (h : l.all f = true) {k : Nat} {x : α} (hk : l[k]? = some x) : f x = true := List.all_eq_true.1 h x (List.mem_of_getElem? hk)
theorem all_not {α : Type} {f : α → Bool} {l : List α} {k : Nat} {x : α} (hk : l[k]? = some x) (h : f x = false) : l.all f = false := by
  rw [Bool.eq_false_iff]
  intro e
  rw [all_at e hk] at h
  cases h
theorem all_upto {α : Type} {f : α → Bool} {l : List α} (h : ∀ k x, k < l.length → l[k]? = some x → f x = true) : l.all f = true := by
  rw [List.all_eq_true]
  intro x hx
  obtain ⟨k, hk, e⟩ := List.getElem_of_mem hx
  exact h k x hk (by rw [List.getElem?_eq_getElem hk, e])
end Go.Proofs.YtkmcjjoicpgjfaaDoor
