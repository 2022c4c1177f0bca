/-
  Contracts of wide.Seal, Open, all (with Seal), SealAll.
-/
import Derived.Test.YtkaakgabhhkggaaWideRounds
namespace Go.Proofs.Ytkaakgabhhkggaa
open Go Go.RowKit Go.Sh

def sealF (key l : List UInt8) : List UInt8 := roundsF key [1, 2, 3, 4] l
def openF (key l : List UInt8) : List UInt8 := roundsF key [4, 3, 2, 1] l
theorem length_sealF (key l : List UInt8) : (sealF key l).length = l.length := length_roundsF _ _ _
theorem length_openF (key l : List UInt8) : (openF key l).length = l.length := length_roundsF _ _ _
theorem openF_sealF (key l : List UInt8) (h : 32 ≤ l.length) : openF key (sealF key l) = l := seal_open key l h
theorem RetBE.base {w w1 w' : World} {l : List UInt8} {er : Int} {e : Ending} (h : RetBE w1 l er e w') (hb : Below w.heap.size w w1) : RetBE w l er e w' := by
  obtain ⟨A, n, c, he, hn, ho, hb2⟩ := h
  exact ⟨A, n, c, he, hn, own_base ho hb.size, hb.trans (hb2.mono hb.size)⟩

set_option maxRecDepth 100000 in
set_option maxHeartbeats 1000000 in
theorem Seal_any (A : Option Addr) (c : Nat) (key : List UInt8) (A' : Option Addr) (m c' : Nat) (l : List UInt8) (w : World) (B B' : Nat)
    (hk : RB w B A 32 key) (hB : B ≤ w.heap.size) (hc : 32 ≤ c) (hr : RB w B' A' m l) (hB' : B' ≤ w.heap.size) (hc' : m ≤ c') (h32 : 32 ≤ m) (h4 : m ≤ 4096) :
    Calls Try.prog 20 #[.slice A 32 c, .slice A' m c'] w (RetBE w (sealF key l) 0) := by
  have hb := (Below.refl w.heap.size w).alloc (Nat.le_refl _) (.cells #[.int .i64 1, .int .i64 2, .int .i64 3, .int .i64 4] 3)
  have hz : (w.alloc (.cells #[.int .i64 1, .int .i64 2, .int .i64 3, .int .i64 4] 3)).heap.size = w.heap.size + 1 := by simp
  have hl := Reads.lit w 3 (iv [1, 2, 3, 4]) 4 1 rfl w.heap.size rfl
  have HL := Lib.hid (show RI (w.alloc (.cells #[.int .i64 1, .int .i64 2, .int .i64 3, .int .i64 4] 3)) (w.heap.size + 1) (some ⟨w.heap.size, 0, none⟩) 4 [1, 2, 3, 4] from ⟨hl, by decide⟩)
  have HB := Lib.hid hb
  have HK := Lib.hid (hk.below (hb.mono hB))
  have HR := Lib.hid (hr.below (hb.mono hB'))
  clear hb hl hk hr
  go_enter Try.func20, Try.ntmps20
  go_wp2_with fail
  generalize w.alloc (.cells #[.int .i64 1, .int .i64 2, .int .i64 3, .int .i64 4] 3) = w1 at *
  refine (Rounds_any A c key A' m c' l _ 4 4 [1, 2, 3, 4] w1 B B' _ HK.out (by omega) hc HR.out (by omega) hc' h32 h4 HL.out (by omega) (by decide) (by decide)).mono ?_
  rintro e w2 h
  have h2 := h.base HB.out
  obtain ⟨A3, n3, c3, rfl, hn, ho, hb⟩ := h2
  have HN := Lib.hid hn
  have HO := Lib.hid ho
  have HB2 := Lib.hid hb
  clear h hn ho hb HB HK HR HL
  go_wp2_with fail
  go_ret2
  exact ⟨_, _, _, rfl, HN.out, HO.out, HB2.out⟩
set_option maxRecDepth 100000 in
set_option maxHeartbeats 1000000 in
theorem Open_any (A : Option Addr) (c : Nat) (key : List UInt8) (A' : Option Addr) (m c' : Nat) (l : List UInt8) (w : World) (B B' : Nat)
    (hk : RB w B A 32 key) (hB : B ≤ w.heap.size) (hc : 32 ≤ c) (hr : RB w B' A' m l) (hB' : B' ≤ w.heap.size) (hc' : m ≤ c') (h32 : 32 ≤ m) (h4 : m ≤ 4096) :
    Calls Try.prog 22 #[.slice A 32 c, .slice A' m c'] w (RetBE w (openF key l) 0) := by
  have hb := (Below.refl w.heap.size w).alloc (Nat.le_refl _) (.cells #[.int .i64 4, .int .i64 3, .int .i64 2, .int .i64 1] 3)
  have hz : (w.alloc (.cells #[.int .i64 4, .int .i64 3, .int .i64 2, .int .i64 1] 3)).heap.size = w.heap.size + 1 := by simp
  have hl := Reads.lit w 3 (iv [4, 3, 2, 1]) 4 1 rfl w.heap.size rfl
  have HL := Lib.hid (show RI (w.alloc (.cells #[.int .i64 4, .int .i64 3, .int .i64 2, .int .i64 1] 3)) (w.heap.size + 1) (some ⟨w.heap.size, 0, none⟩) 4 [4, 3, 2, 1] from ⟨hl, by decide⟩)
  have HB := Lib.hid hb
  have HK := Lib.hid (hk.below (hb.mono hB))
  have HR := Lib.hid (hr.below (hb.mono hB'))
  clear hb hl hk hr
  go_enter Try.func22, Try.ntmps22
  go_wp2_with fail
  generalize w.alloc (.cells #[.int .i64 4, .int .i64 3, .int .i64 2, .int .i64 1] 3) = w1 at *
  refine (Rounds_any A c key A' m c' l _ 4 4 [4, 3, 2, 1] w1 B B' _ HK.out (by omega) hc HR.out (by omega) hc' h32 h4 HL.out (by omega) (by decide) (by decide)).mono ?_
  rintro e w2 h
  have h2 := h.base HB.out
  obtain ⟨A3, n3, c3, rfl, hn, ho, hb⟩ := h2
  have HN := Lib.hid hn
  have HO := Lib.hid ho
  have HB2 := Lib.hid hb
  clear h hn ho hb HB HK HR HL
  go_wp2_with fail
  go_ret2
  exact ⟨_, _, _, rfl, HN.out, HO.out, HB2.out⟩
/-- block sealed by each key -/
def sealsF (keys : List (List UInt8)) (l : List UInt8) : List UInt8 := keys.foldl (fun l k => sealF k l) l
theorem length_sealsF (keys : List (List UInt8)) (l : List UInt8) : (sealsF keys l).length = l.length := by
  unfold sealsF
  induction keys generalizing l with
  | nil => rfl
  | cons z zs ih => rw [List.foldl_cons, ih, length_sealF]
theorem sealsF_succ (keys : List (List UInt8)) (l : List UInt8) (k : Nat) (hk : k < keys.length) : sealsF (keys.take (k + 1)) l = sealF (lat keys k) (sealsF (keys.take k) l) := by
  unfold sealsF lat
  rw [List.take_add_one, List.getElem?_eq_getElem hk, List.foldl_append, List.getD_eq_getElem?_getD, List.getElem?_eq_getElem hk]
  simp only [Option.toList_some, List.foldl_cons, List.foldl_nil, Option.getD_some]

set_option maxRecDepth 100000 in
set_option maxHeartbeats 2000000 in
theorem all_any (A : Option Addr) (n c : Nat) (l : List UInt8) (A' : Option Addr) (m c' : Nat) (keys : List (List UInt8)) (w : World) (B B' : Nat)
    (hr : RB w B A n l) (hB : B ≤ w.heap.size) (hc : n ≤ c) (h32 : 32 ≤ n) (h4 : n ≤ 4096) (hk : RBB w B' A' m keys) (hB' : B' ≤ w.heap.size) (hkl : ∀ k ∈ keys, k.length = 32) (hm : m ≤ 1000) :
    Calls Try.prog 40 #[.func (.func 20) #[] #[], .slice A n c, .slice A' m c'] w (RetBE w (sealsF keys l) 0) := by
  have HR := Lib.hid hr
  have HRL := Lib.hid hr.len
  have HK := Lib.hid hk
  have HKN := Lib.hid hk.len
  have HKL := Lib.hid hkl
  clear hr hk hkl
  go_enter Try.func40, Try.ntmps40
  go_wp2_with fail
  refine (fitsBlock_any _ _ _ _ h32 h4).mono ?_
  rintro e w1 ⟨rfl, rfl⟩
  go_wp2_with fail
  go_loopw [9, 20] (fun _ i wr => ∃ k : Nat, k ≤ m ∧ i = .int .i64 k ∧ wr = w1) (fun _ i _ => m - (intOf i).toNat)
  case atStart => exact ⟨0, Nat.zero_le _, rfl, rfl⟩
  case round =>
    obtain ⟨k, hk, rfl, rfl⟩ := hrel
    by_cases hlt : k < m
    · have hd : decide ((k : Int) < (m : Int)) = true := by rw [decide_eq_true_eq]; omega
      obtain ⟨ad, Ai, ni, ci, hA, hadB, hcell, hni, hrb⟩ := HK.out.at_ hlt
      subst hA
      have h32' := HKL.out _ (lat_mem (ls := keys) (k := k) (by rw [HKN.out]; exact hlt))
      obtain rfl : ni = 32 := by rw [← hrb.len, h32']
      go_wp2_with fail
      exact ⟨⟨k + 1, by omega, rfl, trivial⟩, by simp only [intOf]; omega⟩
    · obtain rfl : k = m := by omega
      have hd : decide ((k : Int) < (k : Int)) = false := by rw [decide_eq_false_iff_not]; omega
      have hr4 := rbb_one HR.out hc hB 22
      have hb4 := (Below.refl wr.heap.size wr).alloc (Nat.le_refl _) (.cells #[.slice A n c] 22)
      have hz4 : (wr.alloc (.cells #[.slice A n c] 22)).heap.size = wr.heap.size + 1 := by simp
      have HR4 := Lib.hid hr4
      have HB4 := Lib.hid hb4
      clear hr4 hb4
      go_wp2_with fail
      generalize wr.alloc (.cells #[.slice A n c] 22) = w4 at *
      refine (Join_any _ 1 1 [l] w4 _ HR4.out (by omega) (by decide) (by simp only [List.flatten_cons, List.flatten_nil, List.append_nil]; rw [HRL.out]; omega)).mono ?_
      rw [show ([l] : List (List UInt8)).flatten = l by simp]
      rintro e w5 ⟨g, n5, c5, rfl, hn5, hown, hb⟩
      obtain rfl : n = n5 := by rw [← hn5]; exact HRL.out.symm
      have hc5 := own_cap hown
      have HB5 := Lib.hid (HB4.out.trans (hb.mono (by omega)))
      have HO5 := Lib.hid (own_base hown (show wr.heap.size ≤ w4.heap.size by omega))
      clear hn5 hown hb HB4 HR4
      go_wp2_with fail
      go_loopw [10, 12, 13, 14, 33] (fun v _ _ _ i wq => ∃ (j : Nat) (A1 : Option Addr) (c1 : Nat), j ≤ k ∧ i = .int .i64 j ∧ v = .slice A1 n c1 ∧ wq.ownsRow wr.heap.size 5 1 (.slice A1 n c1) n (bv (sealsF (keys.take j) l)) ∧ Below wr.heap.size wr wq) (fun _ _ _ _ i _ => k - (intOf i).toNat)
      case atStart => exact ⟨0, _, _, Nat.zero_le _, rfl, rfl, HO5.out, HB5.out⟩
      case round =>
        obtain ⟨j, A1, c1, hj, rfl, rfl, hown, hb⟩ := hrel
        have HO := Lib.hid hown
        have HB := Lib.hid hb
        have hc1 := own_cap hown
        have hsz := hb.size
        clear hown hb HO5 HB5
        by_cases hlt2 : j < k
        · have hd2 : decide ((j : Int) < (k : Int)) = true := by rw [decide_eq_true_eq]; omega
          obtain ⟨ad, Ai, ni, ci, hA, hadB, hcell, hni, hrb⟩ := (HK.out.below (HB.out.mono hB')).at_ hlt2
          subst hA
          have h32' := HKL.out _ (lat_mem (ls := keys) (k := j) (by rw [HKN.out]; exact hlt2))
          obtain rfl : ni = 32 := by rw [← hrb.len, h32']
          have HSU := Lib.hid (sealsF_succ keys l j (by rw [HKN.out]; exact hlt2))
          have HRB := Lib.hid hrb
          clear hrb
          go_wp2_with fail
          refine (Seal_any Ai ci (lat keys j) A1 n c1 (sealsF (keys.take j) l) _ B' _ HRB.out (by omega) hni (RB.of_own HO.out) (Nat.le_refl _) hc1 h32 h4).mono ?_
          rintro e w6 ⟨A6, n6, c6, rfl, hn6, ho6, hb6⟩
          obtain rfl : n = n6 := by rw [← hn6, length_sealF, length_sealsF]; exact HRL.out.symm
          rw [← HSU.out] at ho6
          have HO6 := Lib.hid (own_base ho6 hsz)
          have HB6 := Lib.hid (HB.out.trans (hb6.mono hsz))
          clear hn6 ho6 hb6 HO HB
          go_wp2_with fail
          exact ⟨⟨j + 1, A6, c6, by omega, rfl, rfl, HO6.out, HB6.out⟩, by simp only [intOf]; omega⟩
        · obtain rfl : j = k := by omega
          have hd2 : decide ((j : Int) < (j : Int)) = false := by rw [decide_eq_false_iff_not]; omega
          have HTK := Lib.hid (show keys.take j = keys from List.take_of_length_le (by rw [HKN.out]; exact Nat.le_refl _))
          go_wp2_with fail
          go_ret2
          exact ⟨A1, n, c1, rfl, by rw [length_sealsF]; exact HRL.out, by rw [← HTK.out]; exact HO.out, HB.out⟩
set_option maxRecDepth 100000 in
set_option maxHeartbeats 1000000 in
theorem SealAll_any (A : Option Addr) (n c : Nat) (l : List UInt8) (A' : Option Addr) (m c' : Nat) (keys : List (List UInt8)) (w : World) (B B' : Nat)
    (hr : RB w B A n l) (hB : B ≤ w.heap.size) (hc : n ≤ c) (h32 : 32 ≤ n) (h4 : n ≤ 4096) (hk : RBB w B' A' m keys) (hB' : B' ≤ w.heap.size) (hkl : ∀ k ∈ keys, k.length = 32) (hm : m ≤ 1000) :
    Calls Try.prog 21 #[.slice A n c, .slice A' m c'] w (RetBE w (sealsF keys l) 0) := by
  go_enter Try.func21, Try.ntmps21
  go_wp2_with fail
  refine (all_any A n c l A' m c' keys w B B' hr hB hc h32 h4 hk hB' hkl hm).mono ?_
  rintro e w2 ⟨A3, n3, c3, rfl, hn, ho, hb⟩
  have HN := Lib.hid hn
  have HO := Lib.hid ho
  have HB2 := Lib.hid hb
  clear hn ho hb
  go_wp2_with fail
  go_ret2
  exact ⟨_, _, _, rfl, HN.out, HO.out, HB2.out⟩
end Go.Proofs.Ytkaakgabhhkggaa
