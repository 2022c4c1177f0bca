/-
  Contracts of shallotref01.Over: each byte is turned; the row may go on behind. Conditions: the sizes that slices can have.
-/
import Derived.Test.YtobmopjfbgkfbaaCopy
import Derived.Test.YtobmopjfbgkfbaaSpare
namespace Go.Proofs.Ytobmopjfbgkfbaa
open Go Go.RowKit Go.Sh

/-- every byte turned by 0x5A -/
def ovr (l : List UInt8) : List UInt8 := l.map fun x => x ^^^ 90
def ovrK (l : List UInt8) (k : Nat) : List UInt8 := (l.take k).map (fun x => x ^^^ 90) ++ l.drop k
theorem length_ovr (l : List UInt8) : (ovr l).length = l.length := by simp [ovr]
theorem length_ovrK (l : List UInt8) (k : Nat) : (ovrK l k).length = l.length := by simp [ovrK]; omega
theorem bt_ovrK {l r : List UInt8} {k : Nat} (h : k < l.length) : bt (ovrK l k ++ r) k = bt l k := by
  unfold bt ovrK
  simp only [List.getD_eq_getElem?_getD]
  rw [List.getElem?_append_left (by simp; omega), List.getElem?_append_right (by simp; omega)]
  simp
  rw [show k - min k l.length = 0 by omega]
  simp
theorem ovrK_succ {l r : List UInt8} {k : Nat} (h : k < l.length) : ovrK l (k + 1) ++ r = (ovrK l k ++ r).set k (l.getD k 0 ^^^ 90) := by
  rw [List.set_append_left _ _ (by rw [length_ovrK]; exact h)]
  congr 1
  unfold ovrK
  have hl : ((l.take k).map (fun x => x ^^^ 90)).length = k := by simp; omega
  rw [List.set_append_right _ _ (by omega), hl, Nat.sub_self, List.drop_eq_getElem_cons (show k < l.length from h), List.set_cons_zero, List.take_succ_eq_append_getElem h, List.map_append, List.append_assoc]
  simp [h]

set_option maxRecDepth 100000 in
theorem OverAt_any (g n m c c' base : Nat) (l r : List UInt8) (w : World) (h : w.ownsRow base 5 1 (.slice (some ⟨g, 0, none⟩) (n + m) c') (n + m) (bv (l ++ r))) (hl : l.length = n) (hn : n + m ≤ 140737488355328) :
    Calls Try.prog 43 #[.slice (some ⟨g, 0, none⟩) n c] w (fun e w' => e = .returned (.tuple #[]) ∧ w'.ownsRow base 5 1 (.slice (some ⟨g, 0, none⟩) (n + m) c') (n + m) (bv (ovr l ++ r)) ∧ w.grownBy w' (some g)) := by
  have HL := Lib.hid hl
  have H0 := Lib.hid h
  clear h hl
  go_enter Try.func43, Try.ntmps43
  go_wp2
  go_loopw [2] (fun i wr => ∃ k : Nat, k ≤ n ∧ i = .int .i64 k ∧ wr.ownsRow base 5 1 (.slice (some ⟨g, 0, none⟩) (n + m) c') (n + m) (bv (ovrK l k ++ r)) ∧ w.grownBy wr (some g)) (fun i _ => n - (intOf i).toNat)
  case atStart => exact ⟨0, by omega, rfl, by simpa [ovrK] using H0.out, World.grownBy.refl _ _⟩
  case round =>
    obtain ⟨k, hk, rfl, hown, hg⟩ := hrel
    have HO := Lib.hid hown
    have HG := Lib.hid hg
    clear hown hg
    by_cases hlt : k < n
    · have hc := HO.out.cellAt k (by omega)
      rw [bv_at _ _ (by rw [List.length_append, length_ovrK, HL.out]; omega), bt_ovrK (by rw [HL.out]; exact hlt)] at hc
      have hf := HO.out.frozenAt k
      go_wp2
      refine ⟨⟨k + 1, by omega, by go_num, ?_, HG.out.trans (HO.out.stored k _).2⟩, by simp [intOf]; omega⟩
      have h := (HO.out.stored k (.int .u8 ((l.getD k 0 ^^^ 90).toNat : Int))).1
      rw [bv_put', ← ovrK_succ (by rw [HL.out]; exact hlt)] at h
      unfold bt
      have e : bits BinOp.xor IntKind.u8 ((l.getD k 0).toNat : Int) 90 = ((l.getD k 0 ^^^ 90).toNat : Int) := bits_u8_xor (l.getD k 0) 90
      rw [e]
      exact h
    · obtain rfl : k = n := by omega
      have hfin := HO.out
      rw [show ovrK l k = ovr l by simp [ovrK, ovr, List.take_of_length_le (Nat.le_of_eq HL.out), List.drop_eq_nil_of_le (Nat.le_of_eq HL.out)]] at hfin
      have HF := Lib.hid hfin
      clear hfin
      go_wp2
      go_end0
      exact ⟨rfl, HF.out, HG.out⟩

set_option maxRecDepth 100000 in
/-- a row of the call's own, nil or not -/
theorem OverOwn_any (A : Option Addr) (n c base : Nat) (l : List UInt8) (w : World) (h : w.ownsRow base 5 1 (.slice A n c) n (bv l)) (hn : n ≤ 140737488355328) :
    Calls Try.prog 43 #[.slice A n c] w (fun e w' => e = .returned (.tuple #[]) ∧ w'.ownsRow base 5 1 (.slice A n c) n (bv (ovr l)) ∧ w.grownBy w' (Value.slice A n c).ownBlock) := by
  have hl : l.length = n := by have := h.1; rw [length_bv] at this; omega
  rcases h.2 with ⟨hv, h0⟩ | ⟨g, cap, cur, hv, _⟩
  · simp only [Value.slice.injEq] at hv
    obtain ⟨rfl, rfl, rfl⟩ := hv
    obtain rfl : l = [] := List.eq_nil_of_length_eq_zero (by omega)
    have HO := Lib.hid h
    clear h h0 hl
    go_enter Try.func43, Try.ntmps43
    go_wp2
    go_loopw [2] (fun i wr => i = .int .i64 0 ∧ wr = w) (fun _ _ => 0)
    case atStart => exact ⟨rfl, rfl⟩
    case round =>
      obtain ⟨rfl, rfl⟩ := hrel
      go_wp2
      go_end0
      exact ⟨rfl, HO.out, World.grownBy.refl _ _⟩
  · injection hv with hA _ hc
    subst hA
    have h' := OverAt_any g n 0 c c base l [] w (by simpa using h) hl (by omega)
    simp only [List.append_nil, Nat.add_zero] at h'
    exact h'.mono fun e w' hh => hh
end Go.Proofs.Ytobmopjfbgkfbaa
