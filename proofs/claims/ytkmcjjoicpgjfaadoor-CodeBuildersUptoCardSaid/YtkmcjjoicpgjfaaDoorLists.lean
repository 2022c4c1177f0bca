/-
  Contracts of codec.Join, shallotref01.Join, shallotref01.Copies and shallotref01.Equals: both joins put the lists one behind the other in new memory; Copies copies them all; Equals tells whether two lists of lists are equal.
-/
import Derived.Test.YtkmcjjoicpgjfaaDoorCopy
namespace Go.Proofs.YtkmcjjoicpgjfaaDoor
open Go Go.RowKit Go.Sh

set_option maxRecDepth 100000 in
theorem TBB : STy Tryd.prog 26 39 (.slice none 0 0) 1 24 := ⟨Tryd.underlying26, by kernel_rfl, rfl, by decide⟩

theorem sum_take (ls : List (List UInt8)) (k : Nat) (hk : k < ls.length) : (ls.take (k + 1)).flatten = (ls.take k).flatten ++ lat ls k := by
  rw [List.take_succ_eq_append_getElem hk, List.flatten_append]
  simp [lat, hk]
theorem sum_le (ls : List (List UInt8)) (k : Nat) : ((ls.take k).flatten).length ≤ ls.flatten.length := by
  have h : ls.flatten = (ls.take k).flatten ++ (ls.drop k).flatten := by rw [← List.flatten_append, List.take_append_drop]
  rw [h, List.length_append]
  omega
theorem one_le_sum (ls : List (List UInt8)) (k : Nat) (hk : k < ls.length) : ((ls.take k).flatten).length + (lat ls k).length ≤ ls.flatten.length := by
  have h := sum_le ls (k + 1)
  rw [sum_take ls k hk, List.length_append] at h
  exact h

/-- lists of bytes in new memory are handed back; nothing that was there has turned -/
def RetBB (w : World) (m : Nat) (ls : List (List UInt8)) (e : Ending) (w' : World) : Prop :=
  ∃ g c, e = .returned (.slice (some ⟨g, 0, none⟩) m c) ∧ OBB w' w.heap.size 5 39 (.slice (some ⟨g, 0, none⟩) m c) m ls ∧ Below w.heap.size w w'

theorem take_snoc (ls : List (List UInt8)) (k : Nat) (hk : k < ls.length) : ls.take (k + 1) = ls.take k ++ [lat ls k] := by
  rw [List.take_succ_eq_append_getElem hk]
  simp [lat, hk]

set_option maxRecDepth 100000 in
theorem Copies_any (A : Option Addr) (m c : Nat) (ls : List (List UInt8)) (w : World) (B : Nat) (hr : RBB w B A m ls) (hB : B ≤ w.heap.size) (hm : m * 24 ≤ 140737488355328) (hs : ∀ l ∈ ls, l.length ≤ 140737488355328) :
    Calls Tryd.prog 23 #[.slice A m c] w (RetBB w m ls) := by
  have HL := Lib.hid hr.len
  have HR := Lib.hid hr
  have HS := Lib.hid hs
  clear hr hs
  go_enter Tryd.func23, Tryd.ntmps23
  go_wp2_with (at_make; refine wl_make0 TBB rfl (.const (.int .i64 0)) (.tmp 6) rfl .i64 .i64 _ rfl rfl m ?m1 ?m2 ?m3 w.heap.size (Nat.le_refl _) ?m4)
  case m1 => rfl
  case m2 => omega
  case m3 => omega
  case m4 =>
    intro w1 hown hg hlt
    have HO1 := Lib.hid (OBB.made (e := 5) hown)
    have HB1 := Lib.hid (show Below w.heap.size w w1 from (Below.refl _ _).grown hg (Nat.le_refl _) (by simp))
    clear hown hg hlt
    go_wp2
    go_loopw [3, 4] (fun v i wr => ∃ (k g c' : Nat), k ≤ m ∧ i = .int .i64 k ∧ v = .slice (some ⟨g, 0, none⟩) k c' ∧ OBB wr w.heap.size 5 39 (.slice (some ⟨g, 0, none⟩) k c') k (ls.take k) ∧ Below w.heap.size w wr) (fun _ i _ => m - (intOf i).toNat)
    case atStart => exact ⟨0, _, _, by omega, rfl, rfl, HO1.out, HB1.out⟩
    case round =>
      obtain ⟨k, g, c', hk, rfl, rfl, hown, hb⟩ := hrel
      have HO := Lib.hid hown
      have HB := Lib.hid hb
      clear hown hb
      by_cases hlt : k < m
      · obtain ⟨ad, Ai, ni, ci, rfl, hab, hc, _, hrb⟩ := HR.out.at_ hlt
        rw [← HB.out.cell (by rw [block_of_add]; omega)] at hc
        have hni : ni ≤ 140737488355328 := by
          rw [← hrb.len]
          exact HS.out _ (lat_mem (by rw [HL.out]; exact hlt))
        have HRB := Lib.hid (hrb.below (HB.out.mono hB))
        clear hrb
        go_wp2_with fail
        refine (Copy_any _ _ _ (lat ls k) _ B HRB.out (Nat.le_trans hB HB.out.size) hni).mono ?_
        rintro e w2 ⟨g2, c2, rfl, hown2, hb2⟩
        have hB2 : Below w.heap.size w w2 := below_up HB.out hb2 (Nat.le_refl _)
        have hB3 : Below w.heap.size w (w2.alloc (.cells #[.slice (some ⟨g2, 0, none⟩) ni c2] 39)) := hB2.alloc hB2.size _
        have HX := Lib.hid (((own_base hown2 HB.out.size).alloc (.cells #[.slice (some ⟨g2, 0, none⟩) ni c2] 39)))
        have HO2 := Lib.hid ((HO.out.later hb2).later (OBB_alloc_help (.cells #[.slice (some ⟨g2, 0, none⟩) ni c2] 39) (Nat.le_refl _)))
        have HB3 := Lib.hid hB3
        clear hown2 hb2 hc hB2 hB3
        obtain ⟨vs, hvs⟩ := HO2.out.outer
        have HV := Lib.hid hvs
        clear hvs
        go_wp2_with (at_builtin; refine wl_app TBB rfl (.tmp 14) (.tmp 20) rfl (.slice (some ⟨g, 0, none⟩) k c') rfl (some ⟨w2.heap.size, 0, none⟩) 1 1 rfl w.heap.size k vs HV.out (w2.heap.size + 1) [.slice (some ⟨g2, 0, none⟩) ni c2] ?c1 ?c2 ?c3 ?c4 HB3.out.size ?c5)
        case c1 => exact Reads.lit w2 _ [.slice (some ⟨g2, 0, none⟩) ni c2] 1 1 rfl _ rfl
        case c2 => simp [Value.oneCell']
        case c3 => omega
        case c4 => omega
        case c5 =>
          intro A3 c3 w3 hown3 hg3 hat
          have hA : ∃ g, A3 = some ⟨g, 0, none⟩ := by
            rcases hat with h | h <;> exact ⟨_, own_some hown3 (h.trans rfl)⟩
          obtain ⟨g3, rfl⟩ := hA
          have HO3 := Lib.hid (HO2.out.snoc HV.out HX.out (by decide) hg3 hown3)
          have HB4 := Lib.hid (HB3.out.grown hg3 HB3.out.size (own_drop HV.out))
          clear hown3 hg3 hat
          go_wp2
          refine ⟨⟨k + 1, g3, c3, by omega, by go_num, rfl, ?_, HB4.out⟩, by simp [intOf]; omega⟩
          rw [take_snoc ls k (by rw [HL.out]; exact hlt)]
          exact HO3.out
      · obtain rfl : k = m := by omega
        have e : ls.take k = ls := List.take_of_length_le (by rw [HL.out]; omega)
        have HO' := HO.out
        rw [e] at HO'
        have HO := Lib.hid HO'
        clear HO' e
        go_wp2
        go_ret
        exact ⟨g, c', rfl, HO.out, HB.out⟩

set_option maxRecDepth 100000 in
theorem Equals_any (A A' : Option Addr) (m m' c c' : Nat) (ls rs : List (List UInt8)) (w : World) (B B' : Nat) (hl : RBB w B A m ls) (hr : RBB w B' A' m' rs) (hm : m ≤ 140737488355328) (hs : ∀ l ∈ ls, l.length ≤ 140737488355328) :
    Calls Tryd.prog 24 #[.slice A m c, .slice A' m' c'] w (EqPost w (decide (ls = rs))) := by
  have hll := hl.len
  have hrl := hr.len
  by_cases hnn : m = m'
  · subst hnn
    have HL := Lib.hid hll
    have HR := Lib.hid hrl
    have HRB := Lib.hid hl
    have HRB' := Lib.hid hr
    have HS := Lib.hid hs
    clear hll hrl hl hr hs
    go_enter Tryd.func24, Tryd.ntmps24
    go_wp2
    go_loopw [5] (fun i wr => ∃ k nd : Nat, k ≤ m ∧ i = .int .i64 k ∧ wr = w.drewN nd ∧ ls.take k = rs.take k) (fun i _ => m - (intOf i).toNat)
    case atStart => exact ⟨0, 0, by omega, rfl, rfl, by simp⟩
    case round =>
      obtain ⟨k, nd, hk, rfl, rfl, HP⟩ := hrel
      have H := Lib.hid HP
      clear HP
      by_cases hlt : k < m
      · obtain ⟨ad, Ai, ni, ci, rfl, _, hc, _, hrb⟩ := HRB.out.at_ hlt
        obtain ⟨ad', Aj, nj, cj, rfl, _, hc', _, hrb'⟩ := HRB'.out.at_ hlt
        have hni : ni ≤ 140737488355328 := by
          rw [← hrb.len]
          exact HS.out _ (lat_mem (by rw [HL.out]; exact hlt))
        have HA := Lib.hid hrb
        have HA' := Lib.hid hrb'
        clear hrb hrb'
        go_wp2
        go_quiet ((go_at_call 18; exact EqPost.quiet (Equal_any _ _ _ _ _ _ _ _ _ _ _ (HA.out.drewN _) (HA'.out.drewN _) hni)))
        generalize hd : decide (lat ls k = lat rs k) = b
        have HD := Lib.hid hd
        clear hd
        cases b
        · go_wp2
          go_ret
          refine ⟨?_, nd + nq, by simp⟩
          have : ¬ ls = rs := fun e => by have := HD.out; simp [e] at this
          simp [this]
        · go_wp2
          refine ⟨⟨k + 1, nd + nq, by omega, by go_num, rfl, ?_⟩, by simp [intOf]; omega⟩
          rw [take_snoc ls k (by rw [HL.out]; exact hlt), take_snoc rs k (by rw [HR.out]; exact hlt), H.out, of_decide_eq_true HD.out]
      · go_wp2
        go_ret
        refine ⟨?_, nd, rfl⟩
        have h := H.out
        have h1 := HL.out
        have h2 := HR.out
        rw [List.take_of_length_le (by omega), List.take_of_length_le (by omega)] at h
        simp [h]
  · have hne : ((m : Int) != (m' : Int)) = true := by rw [bne_iff_ne]; omega
    have hlr : ¬ ls = rs := fun e => hnn (by rw [← hll, ← hrl, e])
    have HH := Lib.hid hlr
    clear hll hrl hl hr hnn hlr
    go_enter Tryd.func24, Tryd.ntmps24
    go_wp2
    go_ret
    exact ⟨by simp [HH.out], 0, rfl⟩
end Go.Proofs.YtkmcjjoicpgjfaaDoor
