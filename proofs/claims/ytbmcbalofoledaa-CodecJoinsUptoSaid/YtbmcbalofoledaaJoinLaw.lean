/-
  The walk of shallotlaw01.CodecJoins: for every list of lists of bytes the law returns true and writes nothing that was there. Condition: lists and bytes together are at most 1048576.
-/
import Derived.Test.YtbmcbalofoledaaCut
import Derived.Test.YtbmcbalofoledaaPutLaw
namespace Go.Proofs.Ytbmcbalofoledaa
open Go Go.RowKit Go.Sh

theorem TI : STy Try.prog 70 3 (.int .i64 0) 1 8 := ⟨Try.underlying70, by kernel_rfl, rfl, by decide⟩

/-- the lists' lengths -/
def lens (ls : List (List UInt8)) : List Int := ls.map fun l => (l.length : Int)
theorem length_lens (ls : List (List UInt8)) : (lens ls).length = ls.length := by simp [lens]
theorem it_lens {ls : List (List UInt8)} {k : Nat} (h : k < ls.length) : it (lens ls) k = ((lat ls k).length : Int) := by simp [it, lens, lat, h]
theorem lens_snoc {ls : List (List UInt8)} {k : Nat} (h : k < ls.length) : lens (ls.take (k + 1)) = lens (ls.take k) ++ [((lat ls k).length : Int)] := by
  rw [take_snoc ls k h]
  simp [lens]
theorem pre_lens (ls : List (List UInt8)) : ∀ k, k ≤ ls.length → pre (lens ls) k = ((ls.take k).flatten).length
  | 0, _ => by simp [pre]
  | k + 1, h => by
    rw [pre_succ (by rw [length_lens]; omega), pre_lens ls k (by omega), it_lens (by omega), sum_take ls k (by omega), List.length_append]
    rfl
theorem pce_lens {ls : List (List UInt8)} {k : Nat} (h : k < ls.length) : pce ls.flatten (lens ls) k = lat ls k := by
  have e : ls.flatten = (ls.take k).flatten ++ (lat ls k ++ (ls.drop (k + 1)).flatten) := by
    have h1 : ls = ls.take (k + 1) ++ ls.drop (k + 1) := (List.take_append_drop _ _).symm
    have h2 := congrArg List.flatten h1
    rw [List.flatten_append, sum_take ls k h, List.append_assoc] at h2
    exact h2
  unfold pce
  rw [pre_lens ls k (by omega), it_lens h, Int.toNat_natCast, e]
  rw [List.drop_left, List.take_left]
theorem cut_join (ls : List (List UInt8)) : cutE ls.flatten.length (lens ls) = 0 ∧ cutL ls.flatten ls.flatten.length (lens ls) = ls := by
  have h1 : negB (lens ls) = false := neg_none fun k hk => by
    rw [length_lens] at hk
    rw [it_lens hk]
    omega
  have h2 : pre (lens ls) (lens ls).length = ls.flatten.length := by
    rw [length_lens, pre_lens ls _ (Nat.le_refl _), List.take_of_length_le (Nat.le_refl _)]
  have e : cutE ls.flatten.length (lens ls) = 0 := by simp [cutE, h1, h2]
  refine ⟨e, ?_⟩
  unfold cutL
  rw [if_pos e, length_lens, cutP]
  apply List.ext_getElem
  · simp
  · intro i h3 h4
    simp only [List.getElem_map, List.getElem_range]
    rw [pce_lens (by simpa using h3)]
    simp [lat, h4]

theorem CodecJoins_walk (A : Option Addr) (m c : Nat) (ls : List (List UInt8)) (w : World) (hr : RBB w w.heap.size A m ls) (hs : ls.flatten.length + m ≤ 1048576) :
    Calls Try.prog 10 #[.slice A m c] w (LawPost w) := by
  have HR := Lib.hid hr
  have HL := Lib.hid hr.len
  have hm : m ≤ 1048576 := by omega
  have HF := Lib.hid (show ls.flatten.length ≤ 1048576 by omega)
  have HS := Lib.hid (show ∀ l ∈ ls, l.length ≤ 1048576 from fun l hl => by
    obtain ⟨i, hi, rfl⟩ := List.getElem_of_mem hl
    have h1 := one_le_sum ls i hi
    have h2 : (lat ls i).length = ls[i].length := by simp [lat, hi]
    omega)
  have HS' := Lib.hid (show ∀ l ∈ ls, l.length ≤ 140737488355328 from fun l hl => Nat.le_trans (HS.out l hl) (by decide))
  clear hr hs
  go_enter Try.func10, Try.ntmps10
  go_wp2_with fail
  refine (awake_any _).mono ?_
  rintro e w1 ⟨rfl, hb1⟩
  have HB1 := Lib.hid hb1
  clear hb1
  go_wp2_with fail
  refine (Copies_any _ _ _ ls _ w.heap.size (HR.out.below HB1.out) HB1.out.size (by omega) HS'.out).mono ?_
  rintro e w2 ⟨g2, c2, rfl, ho2, hb2⟩
  have HO2 := Lib.hid ho2
  have HB2 := Lib.hid (below_up HB1.out hb2 (Nat.le_refl _))
  clear ho2 hb2 HB1
  go_wp2_with fail
  refine (Join_any _ _ _ ls _ w2.heap.size (RBB.of_own HO2.out) (Nat.le_refl _) (by omega) (Nat.le_trans HF.out (by decide))).mono ?_
  rintro e w3 ⟨g3, n3, c3, rfl, hl3, hown3, hb3⟩
  have HO3 := Lib.hid hown3
  have HL3 := Lib.hid hl3
  have HB3 := Lib.hid (below_up HB2.out hb3 (Nat.le_refl _))
  have hn3 : n3 ≤ 1048576 := by rw [← HL3.out]; exact HF.out
  clear hown3 hl3 hb3 HB2 HO2
  go_wp2_with fail
  refine (RefJoin_any _ _ _ ls _ w.heap.size (HR.out.below HB3.out) HB3.out.size (by omega) (Nat.le_trans HF.out (by decide))).mono ?_
  rintro e w4 ⟨A4, n4, c4, rfl, hl4, hown4, hb4⟩
  have HO4 := Lib.hid hown4
  have HO3' := Lib.hid (own_later HO3.out hb4)
  have HB4 := Lib.hid (below_up HB3.out hb4 (Nat.le_refl _))
  clear hown4 hl4 hb4 HB3 HO3
  go_wp2_with fail
  refine (Equal_any _ _ _ _ _ _ ls.flatten ls.flatten _ _ _ (RB.of_own HO3'.out) (RB.of_own HO4.out) (by omega)).mono fun e w5 h => ?_
  obtain ⟨rfl, hb5⟩ := h.below
  rw [show decide (ls.flatten = ls.flatten) = true by simp]
  have HO5 := Lib.hid (own_later HO3'.out hb5)
  have HB5 := Lib.hid (below_up HB4.out hb5 (Nat.le_refl _))
  have hz2 : w.heap.size ≤ w5.heap.size := HB5.out.size
  clear h hb5 HB4 HO4 HO3'
  go_wp2
  go_loopw [4, 6, 21] (fun v _ i wr => ∃ (k : Nat) (Ai : Option Addr) (ci : Nat), k ≤ m ∧ i = .int .i64 k ∧ v = .slice Ai k ci ∧ wr.ownsRow w5.heap.size 3 1 (.slice Ai k ci) k (iv (lens (ls.take k))) ∧ Below w5.heap.size w5 wr) (fun _ _ i _ => m - (intOf i).toNat)
  case atStart => exact ⟨0, none, 0, by omega, rfl, rfl, World.ownsRow_nil _ _ _ _, Below.refl _ _⟩
  case round =>
    obtain ⟨k, Ai, ci, hk, rfl, rfl, hown, hb⟩ := hrel
    have HO := Lib.hid hown
    have HB := Lib.hid hb
    clear hown hb
    by_cases hlt : k < m
    · obtain ⟨ad, Al, nl, cl, rfl, hab, hc, _, hrb⟩ := HR.out.at_ hlt
      have hcw := ((below_up HB5.out HB.out (Nat.le_refl _)).cell (p := ad.add k) (by rw [block_of_add]; exact hab)).trans hc
      have HNL := Lib.hid hrb.len
      have hz3 := HB.out.size
      clear hrb hc
      go_wp2_with (at_builtin; refine wl_app TI rfl (.tmp 25) (.tmp 28) rfl (.slice Ai k ci) rfl _ 1 1 rfl w5.heap.size k _ (HO.out.alloc _) (_ + 1) [.int .i64 nl] (Reads.lit _ _ [.int .i64 nl] 1 1 rfl _ rfl) ?c2 ?c3 ?c4 ?c5 ?c6)
      case c2 => simp [Value.oneCell']
      case c3 => omega
      case c4 => omega
      case c5 => simp; omega
      case c6 =>
        intro A4 c4 w6 hown6 hg6 _
        have HO6 := Lib.hid hown6
        have HB6 := Lib.hid ((HB.out.alloc HB.out.size _).grown hg6 (by simp; omega) (own_drop HO.out))
        clear hown6 hg6
        go_wp2
        refine ⟨⟨k + 1, A4, c4, by omega, by go_num, rfl, ?_, HB6.out⟩, by simp [intOf]; omega⟩
        rw [lens_snoc (by rw [HL.out]; exact hlt), iv_append, HNL.out]
        exact HO6.out
    · obtain rfl : k = m := by omega
      have hall := HO.out
      rw [List.take_of_length_le (by rw [HL.out]; exact Nat.le_refl _)] at hall
      have HOI := Lib.hid hall
      have HO7 := Lib.hid (own_later HO5.out HB.out)
      have HB7 := Lib.hid (below_up HB5.out HB.out (Nat.le_refl _))
      have HCJ := Lib.hid (cut_join ls)
      have HLB := Lib.hid (show ∀ z ∈ lens ls, -9223372036854775808 ≤ z ∧ z ≤ 9223372036854775807 from fun z hz => by
        obtain ⟨l, hl, rfl⟩ := List.mem_map.1 hz
        have := HS.out l hl
        omega)
      clear hall HO HB hlt
      go_wp2_with fail
      refine (Cut_any _ _ _ _ _ _ ls.flatten (lens ls) _ _ _ (RB.of_own HO7.out) (RI.of_own HOI.out HLB.out) (Nat.le_refl _) (Nat.le_refl _) (own_cap HO7.out) (by omega) (by omega)).mono ?_
      rintro e w8 ⟨A8, m8, c8, rfl, ho8, hb8⟩
      rw [← HL3.out, HCJ.out.1]
      rw [← HL3.out, HCJ.out.2] at ho8
      obtain rfl : k = m8 := by rw [← ho8.1]; exact HL.out.symm
      have HO8 := Lib.hid ho8
      have HB8 := Lib.hid (below_up HB7.out hb8 (Nat.le_refl _))
      clear ho8 hb8 HB7 HO7 HOI
      go_wp2_with fail
      refine (Equals_any _ _ _ _ _ _ ls ls _ _ _ (RBB.of_own HO8.out) (HR.out.below HB8.out) (by omega) HS'.out).mono fun e w9 h => ?_
      obtain ⟨rfl, hb9⟩ := h.below
      rw [show decide (ls = ls) = true by simp]
      have HB9 := Lib.hid (below_up HB8.out hb9 (Nat.le_refl _))
      clear h hb9 HB8
      go_wp2
      go_ret
      exact ⟨rfl, HB9.out⟩
end Go.Proofs.Ytbmcbalofoledaa
