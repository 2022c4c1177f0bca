/-
  Contracts of codec.Looks, codec.Same and shallotref01.Looks: all tell whether two lists of bytes are equal; the first and the last tell besides at how many places was looked.
-/
import Derived.Test.YtkaakgabhhkggaaCopy
namespace Go.Proofs.Ytkaakgabhhkggaa
open Go Go.RowKit Go.Sh

def LookPost (w : World) (b : Bool) (n : Nat) (e : Ending) (w' : World) : Prop := e = .returned (.tuple #[.bool b, .int .i64 n]) ∧ ∃ k, w' = w.drewN k
theorem LookPost.below {w : World} {b : Bool} {n : Nat} {e : Ending} {w' : World} (h : LookPost w b n e w') : e = .returned (.tuple #[.bool b, .int .i64 n]) ∧ Below w.heap.size w w' := by
  obtain ⟨h1, k, rfl⟩ := h
  exact ⟨h1, below_drewN (Below.refl _ _) k⟩

set_option maxRecDepth 100000 in
theorem Looks_any (A A' : Option Addr) (n n' c c' : Nat) (l r : List UInt8) (w : World) (B B' : Nat) (hl : RB w B A n l) (hr : RB w B' A' n' r) (hn : n ≤ 140737488355328) :
    Calls Try.prog 41 #[.slice A n c, .slice A' n' c'] w (LookPost w (decide (l = r)) (if n = n' then n else 0)) := by
  have hll := hl.len
  have hrl := hr.len
  by_cases hnn : n = n'
  · subst hnn
    have HL := Lib.hid hll
    have HR := Lib.hid hrl
    have HRB := Lib.hid hl
    have HRB' := Lib.hid hr
    clear hll hrl hl hr
    rw [if_pos rfl]
    go_enter Try.func41, Try.ntmps41
    go_wp2
    go_loopw [6, 7, 8, 16] (fun d m i q wr => ∃ (k nd : Nat) (D : UInt8), k ≤ n ∧ d = .int .u8 (D.toNat : Int) ∧ m = .int .i64 k ∧ q = .int .i64 k ∧ wr = w.drewN nd ∧ (D = 0 ↔ l.take k = r.take k)) (fun _ _ _ q _ => n - (intOf q).toNat)
    case atStart => exact ⟨0, 0, 0, by omega, rfl, rfl, rfl, rfl, by simp⟩
    case round =>
      obtain ⟨k, nd, D, hk, rfl, rfl, rfl, rfl, HP⟩ := hrel
      have H := Lib.hid HP
      clear HP
      by_cases hlt : k < n
      · obtain ⟨ad, rfl, _, hc⟩ := HRB.out.at_ hlt
        obtain ⟨ad', rfl, _, hc'⟩ := HRB'.out.at_ hlt
        go_wp2
        go_quiet (fail)
        go_wp2
        refine ⟨⟨k + 1, nd + nq, D ||| (l.getD k 0 ^^^ r.getD k 0), by omega, ?_, by go_num, by go_num, rfl, ?_⟩, by simp [intOf]; omega⟩
        · unfold bt
          rw [bits_u8_xor, bits_u8_or]
        · rw [UInt8.or_eq_zero_iff, UInt8.xor_eq_zero_iff, H.out]
          constructor
          · rintro ⟨h1, h2⟩
            exact take_succ_eq HL.out HR.out hlt h1 (by unfold bt; rw [h2])
          · intro h
            have h1 : l.take k = r.take k := by
              have := congrArg (List.take k) h
              simpa [List.take_take, Nat.min_eq_left (Nat.le_succ k)] using this
            refine ⟨h1, ?_⟩
            have h2 := congrArg (fun x => List.getD x k 0) h
            simpa [List.getElem?_take] using h2
      · go_wp2
        go_ret2
        obtain rfl : k = n := by omega
        refine ⟨?_, nd, rfl⟩
        have h := H.out
        have h1 := HL.out
        have h2 := HR.out
        rw [List.take_of_length_le (by omega), List.take_of_length_le (by omega)] at h
        have e : ((D.toNat : Int) == 0) = decide (l = r) := by
          rw [Bool.eq_iff_iff]
          simp only [beq_iff_eq, decide_eq_true_eq, ← h]
          constructor
          · intro hd
            exact UInt8.toNat_inj.1 (by simpa using hd)
          · rintro rfl
            rfl
        simp [e]
  · have hne : ((n : Int) != (n' : Int)) = true := by rw [bne_iff_ne]; omega
    have hlr : ¬ l = r := fun e => hnn (by rw [← hll, ← hrl, e])
    have HH := Lib.hid hlr
    rw [if_neg hnn]
    clear hll hrl hl hr hnn hlr
    go_enter Try.func41, Try.ntmps41
    go_wp2
    go_ret2
    exact ⟨by simp [HH.out], 0, rfl⟩

set_option maxRecDepth 100000 in
theorem Same_any (A A' : Option Addr) (n n' c c' : Nat) (l r : List UInt8) (w : World) (B B' : Nat) (hl : RB w B A n l) (hr : RB w B' A' n' r) (hn : n ≤ 140737488355328) :
    Calls Try.prog 25 #[.slice A n c, .slice A' n' c'] w (EqPost w (decide (l = r))) := by
  go_enter Try.func25, Try.ntmps25
  go_wp2_with fail
  refine (Looks_any _ _ _ _ _ _ l r _ B B' hl hr hn).mono ?_
  rintro e w' ⟨rfl, nd, rfl⟩
  generalize (if n = n' then n else 0) = q
  go_wp2
  go_ret
  exact ⟨by simp, nd, rfl⟩

end Go.Proofs.Ytkaakgabhhkggaa
