/-
  Contracts of codec.clone, codec.Cut and shallotref01.Cut: both cuts give the same pieces in new memory, or the same error's number.
-/
import Derived.Test.YtkmcjjoicpgjfaaDoorLists
namespace Go.Proofs.YtkmcjjoicpgjfaaDoor
open Go Go.RowKit Go.Sh

set_option maxRecDepth 100000 in
theorem clone_any (A : Option Addr) (n c : Nat) (l : List UInt8) (w : World) (B : Nat) (hr : RB w B A n l) (hB : B ≤ w.heap.size) (hn : n ≤ 140737488355328) :
    Calls Tryd.prog 65 #[.slice A n c] w (RetB w n l) := by
  have HL := Lib.hid hr.len
  have HR := Lib.hid hr
  clear hr
  go_enter Tryd.func65, Tryd.ntmps65
  go_wp2_with (at_make; refine wl_makeB TB rfl (.tmp 5) (.tmp 5) rfl .i64 .i64 _ _ rfl rfl n ?m1 ?m2 ?m3 w.heap.size (Nat.le_refl _) ?m5)
  case m1 => rfl
  case m2 => rfl
  case m3 => omega
  case m5 =>
    intro w1 hown hg _
    have HO := Lib.hid hown
    have HB := Lib.hid (show Below w.heap.size w w1 from (Below.refl _ _).grown hg (Nat.le_refl _) (by simp))
    clear hown hg
    go_wp2_with (with_reducible refine wl_copy TB rfl (.tmp 7) (.tmp 8) rfl _ n n rfl A n c rfl w.heap.size _ HO.out B (bv l) ?c1 (bv_one l) ?c2)
    case c1 => exact HR.out.below (HB.out.mono hB)
    case c2 =>
      intro w2 hown2 hg2
      rw [List.take_of_length_le (by rw [length_bv, HL.out]; exact Nat.le_refl _), List.drop_eq_nil_of_le (by rw [length_bv, length_zs]; exact Nat.le_refl _), List.append_nil] at hown2
      have HO2 := Lib.hid hown2
      have HB2 := Lib.hid (HB.out.grown hg2 HB.out.size (by simp [Value.ownBlock]))
      clear hown2 hg2
      go_wp2
      go_ret
      exact ⟨_, n, rfl, HO2.out, HB2.out⟩

/-- the first k sizes together -/
def pre (zs : List Int) (k : Nat) : Nat := ((zs.take k).map Int.toNat).sum
theorem pre_succ {zs : List Int} {k : Nat} (h : k < zs.length) : pre zs (k + 1) = pre zs k + (it zs k).toNat := by
  unfold pre
  rw [List.take_succ_eq_append_getElem h, List.map_append, List.sum_append]
  simp [it, h]
theorem pre_le {zs : List Int} {k j : Nat} (h : k ≤ j) : pre zs k ≤ pre zs j := by
  unfold pre
  have e : zs.take j = zs.take k ++ (zs.take j).drop k := by
    have := List.take_append_drop k (zs.take j)
    rw [List.take_take, Nat.min_eq_left h] at this
    exact this.symm
  rw [e, List.map_append, List.sum_append]
  omega
/-- piece k -/
def pce (l : List UInt8) (zs : List Int) (k : Nat) : List UInt8 := (l.drop (pre zs k)).take (it zs k).toNat
def cutP (l : List UInt8) (zs : List Int) (m : Nat) : List (List UInt8) := (List.range m).map (pce l zs)
theorem cutP_succ (l : List UInt8) (zs : List Int) (m : Nat) : cutP l zs (m + 1) = cutP l zs m ++ [pce l zs m] := by simp [cutP, List.range_succ]
def negB (zs : List Int) : Bool := zs.any fun z => decide (z < 0)
def cutE (n : Nat) (zs : List Int) : Int := if negB zs = true then 1 else if pre zs zs.length = n then 0 else 2
def cutL (l : List UInt8) (n : Nat) (zs : List Int) : List (List UInt8) := if cutE n zs = 0 then cutP l zs zs.length else []
set_option maxRecDepth 100000 in
theorem neg_of {zs : List Int} {k : Nat} (hk : k < zs.length) (h : it zs k < 0) : negB zs = true := by
  rw [negB, List.any_eq_true]
  exact ⟨_, it_mem hk, by simpa using h⟩
set_option maxRecDepth 100000 in
theorem neg_none {zs : List Int} (h : ∀ k, k < zs.length → 0 ≤ it zs k) : negB zs = false := by
  rw [negB, List.any_eq_false]
  intro z hz
  obtain ⟨i, hi, rfl⟩ := List.getElem_of_mem hz
  have := h i hi
  simp [it, hi] at this
  simpa using this

/-- lists of bytes in new memory and an error's number are handed back; nothing that was there has turned -/
def RetBBE (w : World) (ls : List (List UInt8)) (er : Int) (e : Ending) (w' : World) : Prop :=
  ∃ A m c, e = .returned (.tuple #[.slice A m c, .int .i64 er]) ∧ OBB w' w.heap.size 5 39 (.slice A m c) m ls ∧ Below w.heap.size w w'

end Go.Proofs.YtkmcjjoicpgjfaaDoor
