/-
  Contract of shallotref01.Equals: whether two lists of lists of bytes are equal. (Cut out of the text on lists, for seats that have no joins.)
-/
import Derived.Test.YtcjpfjmmnnfieaaCopy
namespace Go.Proofs.Ytcjpfjmmnnfieaa
open Go Go.RowKit Go.Sh

theorem TBB : STy Try.prog 73 62 (.slice none 0 0) 1 24 := ⟨Try.underlying73, by kernel_rfl, rfl, by decide⟩

theorem take_snoc (ls : List (List UInt8)) (k : Nat) (hk : k < ls.length) : ls.take (k + 1) = ls.take k ++ [lat ls k] := by
  rw [List.take_succ_eq_append_getElem hk]
  simp [lat, hk]

theorem Equals_any (A A' : Option Addr) (m m' c c' : Nat) (ls rs : List (List UInt8)) (w : World) (B B' : Nat) (hl : RBB w B A m ls) (hr : RBB w B' A' m' rs) (hm : m ≤ 140737488355328) (hs : ∀ l ∈ ls, l.length ≤ 140737488355328) :
    Calls Try.prog 31 #[.slice A m c, .slice A' m' c'] w (EqPost w (decide (ls = rs))) := by
  have hll := hl.len
  have hrl := hr.len
  by_cases hnn : m = m'
  · subst hnn
    have HL := Lib.hid hll
    have HR := Lib.hid hrl
    have HRB := Lib.hid hl
    have HRB' := Lib.hid hr
    have HS := Lib.hid hs
    clear hll hrl hl hr hs
    go_enter Try.func31, Try.ntmps31
    go_wp2
    go_loopw [5] (fun i wr => ∃ k nd : Nat, k ≤ m ∧ i = .int .i64 k ∧ wr = w.drewN nd ∧ ls.take k = rs.take k) (fun i _ => m - (intOf i).toNat)
    case atStart => exact ⟨0, 0, by omega, rfl, rfl, by simp⟩
    case round =>
      obtain ⟨k, nd, hk, rfl, rfl, HP⟩ := hrel
      have H := Lib.hid HP
      clear HP
      by_cases hlt : k < m
      · obtain ⟨ad, Ai, ni, ci, rfl, _, hc, _, hrb⟩ := HRB.out.at_ hlt
        obtain ⟨ad', Aj, nj, cj, rfl, _, hc', _, hrb'⟩ := HRB'.out.at_ hlt
        have hni : ni ≤ 140737488355328 := by
          rw [← hrb.len]
          exact HS.out _ (lat_mem (by rw [HL.out]; exact hlt))
        have HA := Lib.hid hrb
        have HA' := Lib.hid hrb'
        clear hrb hrb'
        go_wp2
        go_quiet ((go_at_call 29; exact EqPost.quiet (Equal_any _ _ _ _ _ _ _ _ _ _ _ (HA.out.drewN _) (HA'.out.drewN _) hni)))
        generalize hd : decide (lat ls k = lat rs k) = b
        have HD := Lib.hid hd
        clear hd
        cases b
        · go_wp2
          go_ret
          refine ⟨?_, nd + nq, by simp⟩
          have : ¬ ls = rs := fun e => by have := HD.out; simp [e] at this
          simp [this]
        · go_wp2
          refine ⟨⟨k + 1, nd + nq, by omega, by go_num, rfl, ?_⟩, by simp [intOf]; omega⟩
          rw [take_snoc ls k (by rw [HL.out]; exact hlt), take_snoc rs k (by rw [HR.out]; exact hlt), H.out, of_decide_eq_true HD.out]
      · go_wp2
        go_ret
        refine ⟨?_, nd, rfl⟩
        have h := H.out
        have h1 := HL.out
        have h2 := HR.out
        rw [List.take_of_length_le (by omega), List.take_of_length_le (by omega)] at h
        simp [h]
  · have hne : ((m : Int) != (m' : Int)) = true := by rw [bne_iff_ne]; omega
    have hlr : ¬ ls = rs := fun e => hnn (by rw [← hll, ← hrl, e])
    have HH := Lib.hid hlr
    clear hll hrl hl hr hnn hlr
    go_enter Try.func31, Try.ntmps31
    go_wp2
    go_ret
    exact ⟨by simp [HH.out], 0, rfl⟩

end Go.Proofs.Ytcjpfjmmnnfieaa
