/-
  Contracts of codec.Join, shallotref01.Join, shallotref01.Copies and shallotref01.Equals: both joins put the lists one behind the other in new memory; Copies copies them all; Equals tells whether two lists of lists are equal.
-/
import Derived.Test.YtkaakgabhhkggaaCopy
namespace Go.Proofs.Ytkaakgabhhkggaa
open Go Go.RowKit Go.Sh

set_option maxRecDepth 100000 in
theorem TBB : STy Try.prog 58 22 (.slice none 0 0) 1 24 := ⟨Try.underlying58, by kernel_rfl, rfl, by decide⟩

theorem sum_take (ls : List (List UInt8)) (k : Nat) (hk : k < ls.length) : (ls.take (k + 1)).flatten = (ls.take k).flatten ++ lat ls k := by
  rw [List.take_succ_eq_append_getElem hk, List.flatten_append]
  simp [lat, hk]
theorem sum_le (ls : List (List UInt8)) (k : Nat) : ((ls.take k).flatten).length ≤ ls.flatten.length := by
  have h : ls.flatten = (ls.take k).flatten ++ (ls.drop k).flatten := by rw [← List.flatten_append, List.take_append_drop]
  rw [h, List.length_append]
  omega
theorem one_le_sum (ls : List (List UInt8)) (k : Nat) (hk : k < ls.length) : ((ls.take k).flatten).length + (lat ls k).length ≤ ls.flatten.length := by
  have h := sum_le ls (k + 1)
  rw [sum_take ls k hk, List.length_append] at h
  exact h

set_option maxRecDepth 100000 in
theorem Join_any (A : Option Addr) (m c : Nat) (ls : List (List UInt8)) (w : World) (B : Nat) (hr : RBB w B A m ls) (hB : B ≤ w.heap.size) (hm : m ≤ 140737488355328) (hs : ls.flatten.length ≤ 140737488355328) :
    Calls Try.prog 34 #[.slice A m c] w (fun e w' => ∃ g n c', e = .returned (.slice (some ⟨g, 0, none⟩) n c') ∧ ls.flatten.length = n ∧ w'.ownsRow w.heap.size 5 1 (.slice (some ⟨g, 0, none⟩) n c') n (bv ls.flatten) ∧ Below w.heap.size w w') := by
  have HL := Lib.hid hr.len
  have HR := Lib.hid hr
  clear hr
  go_enter Try.func34, Try.ntmps34
  go_wp2
  go_loop [3, 5, 11] (fun t _ i => ∃ (k n : Nat), k ≤ m ∧ i = .int .i64 k ∧ t = .int .i64 n ∧ ((ls.take k).flatten).length = n) (fun _ _ i => m - (intOf i).toNat)
  case atStart => exact ⟨0, 0, by omega, rfl, rfl, rfl⟩
  case round =>
    obtain ⟨k, n, hk, rfl, rfl, hn⟩ := hrel
    have HN := Lib.hid hn
    clear hn
    by_cases hlt : k < m
    · obtain ⟨ad, Ai, ni, ci, rfl, hab, hc, _, hrb⟩ := HR.out.at_ hlt
      have hs2 := one_le_sum ls k (by rw [HL.out]; exact hlt)
      rw [HN.out, hrb.len] at hs2
      have HRB := Lib.hid hrb
      clear hrb
      go_wp2
      refine ⟨⟨k + 1, n + ni, by omega, by go_num, by go_num, ?_⟩, by simp [intOf]; omega⟩
      rw [sum_take ls k (by rw [HL.out]; exact hlt), List.length_append, HN.out, HRB.out.len]
    · obtain rfl : k = m := by omega
      have e : ls.take k = ls := List.take_of_length_le (by rw [HL.out]; omega)
      have HN' := Lib.hid (show ls.flatten.length = n by rw [← HN.out, e])
      have hnb : n ≤ 140737488355328 := by rw [← HN'.out]; exact hs
      clear HN e hlt
      go_wp2_with (at_make; refine wl_make0 TB rfl (.const (.int .i64 0)) (.tmp 20) rfl .i64 .i64 _ rfl rfl n ?m1 ?m2 ?m3 w.heap.size (Nat.le_refl _) ?m4)
      case m1 => rfl
      case m2 => omega
      case m3 => omega
      case m4 =>
        intro w1 hown hg hlt
        have HO1 := Lib.hid hown
        have HB1 := Lib.hid (show Below w.heap.size w w1 from (Below.refl _ _).grown hg (Nat.le_refl _) (by simp))
        clear hown hg hlt
        go_wp2
        go_loopw [6, 8, 24] (fun v _ i wr => ∃ (j q : Nat) (g : Nat) (c' : Nat), j ≤ k ∧ i = .int .i64 j ∧ v = .slice (some ⟨g, 0, none⟩) q c' ∧ ((ls.take j).flatten).length = q ∧ wr.ownsRow w.heap.size 5 1 (.slice (some ⟨g, 0, none⟩) q c') q (bv (ls.take j).flatten) ∧ Below w.heap.size w wr) (fun _ _ i _ => k - (intOf i).toNat)
        case atStart => exact ⟨0, 0, _, _, by omega, rfl, rfl, rfl, HO1.out, HB1.out⟩
        case round =>
          obtain ⟨j, q, g', c', hj, rfl, rfl, hq, hown, hb⟩ := hrel
          have HQ := Lib.hid hq
          have HO := Lib.hid hown
          have HB := Lib.hid hb
          clear hq hown hb
          by_cases hlt : j < k
          · obtain ⟨ad, Ai, ni, ci, rfl, hab, hc, _, hrb⟩ := HR.out.at_ hlt
            have hs2 := one_le_sum ls j (by rw [HL.out]; exact hlt)
            rw [HQ.out, hrb.len, HN'.out] at hs2
            rw [← HB.out.cell (by rw [block_of_add]; omega)] at hc
            have HRB := Lib.hid hrb
            clear hrb
            go_wp2_with (at_builtin; refine wl_app TB rfl (.tmp 28) (.tmp 29) rfl (.slice (some ⟨g', 0, none⟩) q c') rfl Ai ni ci rfl w.heap.size q _ HO.out B (bv (lat ls j)) ?d1 (bv_one _) ?d2 ?d3 HB.out.size ?d4)
            case d1 => exact HRB.out.below (HB.out.mono hB)
            case d2 => omega
            case d3 => omega
            case d4 =>
              intro A2 c2 w2 hown2 hg2 hat
              have hA : ∃ g, A2 = some ⟨g, 0, none⟩ := by
                rcases hat with h | h <;> exact ⟨_, own_some hown2 (h.trans rfl)⟩
              obtain ⟨g2, rfl⟩ := hA
              have HO2 := Lib.hid hown2
              have HB2 := Lib.hid (HB.out.grown hg2 HB.out.size (own_drop HO.out))
              clear hown2 hg2 hc hat
              go_wp2
              refine ⟨⟨j + 1, q + ni, g2, c2, by omega, by go_num, rfl, ?_, ?_, HB2.out⟩, by simp [intOf]; omega⟩
              · rw [sum_take ls j (by rw [HL.out]; exact hlt), List.length_append, HQ.out, HRB.out.len]
              · rw [sum_take ls j (by rw [HL.out]; exact hlt), bv_append]
                exact HO2.out
          · obtain rfl : j = k := by omega
            have e : ls.take j = ls := List.take_of_length_le (by rw [HL.out]; omega)
            have HQ' := Lib.hid (show ls.flatten.length = q by rw [← HQ.out, e])
            have HO' := HO.out
            rw [e] at HO'
            have HO := Lib.hid HO'
            clear HO' e
            go_wp2
            go_ret
            exact ⟨g', q, c', rfl, HQ'.out, HO.out, HB.out⟩

/-- lists of bytes in new memory are handed back; nothing that was there has turned -/
def RetBB (w : World) (m : Nat) (ls : List (List UInt8)) (e : Ending) (w' : World) : Prop :=
  ∃ g c, e = .returned (.slice (some ⟨g, 0, none⟩) m c) ∧ OBB w' w.heap.size 5 22 (.slice (some ⟨g, 0, none⟩) m c) m ls ∧ Below w.heap.size w w'

theorem take_snoc (ls : List (List UInt8)) (k : Nat) (hk : k < ls.length) : ls.take (k + 1) = ls.take k ++ [lat ls k] := by
  rw [List.take_succ_eq_append_getElem hk]
  simp [lat, hk]

end Go.Proofs.Ytkaakgabhhkggaa
