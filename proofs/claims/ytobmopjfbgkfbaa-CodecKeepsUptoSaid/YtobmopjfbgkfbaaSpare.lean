/-
  Contracts of shallotref01.mark, shallotref01.Spare and shallotref01.Kept: marked bytes; a copy with marked spare room behind it; whether it is as it was. Conditions: the sizes that slices can have.
-/
import Derived.Test.YtobmopjfbgkfbaaCopy
namespace Go.Proofs.Ytobmopjfbgkfbaa
open Go Go.RowKit Go.Sh

/-- what list i holds at place j -/
def mk (i j : Nat) : UInt8 := UInt8.ofNat (17 * i + 3 * j + 1)
theorem mk_nat (i j : Nat) : ((mk i j).toNat : Int) = (17 * (i : Int) + 3 * (j : Int) + 1) % 256 := by
  simp [mk]
set_option maxRecDepth 100000 in
theorem mark_any (i j : Nat) (w : World) (hi : i ≤ 1125899906842624) (hj : j ≤ 1125899906842624) :
    Calls Try.prog 73 #[.int .i64 (i : Int), .int .i64 (j : Int)] w (fun e w' => e = .returned (.int .u8 ((mk i j).toNat : Int)) ∧ w = w') := by
  have HE := Lib.hid (mk_nat i j)
  go_enter Try.func73, Try.ntmps73
  go_wp2
  go_ret
  refine ⟨?_, rfl⟩
  rw [HE.out]
  rfl

/-- the marked spare room behind n bytes -/
def spv (n k : Nat) : UInt8 := UInt8.ofNat (160 + (n + k) % 31)
theorem spv_nat (n k : Nat) : ((spv n k).toNat : Int) = 160 + ((n : Int) + (k : Int)) % 31 := by
  have : (160 + (n + k) % 31) % 256 = 160 + (n + k) % 31 := by omega
  simp [spv]
  omega
def spareTo (n k : Nat) : List UInt8 := (List.range k).map (spv n)
theorem length_spareTo (n k : Nat) : (spareTo n k).length = k := by simp [spareTo]
theorem spareTo_succ (n k : Nat) : spareTo n (k + 1) = spareTo n k ++ [spv n k] := by simp [spareTo, List.range_succ]
/-- what Spare makes of l -/
def spared (l : List UInt8) : List UInt8 := l ++ spareTo l.length 40
theorem length_spared (l : List UInt8) : (spared l).length = l.length + 40 := by simp [spared, length_spareTo]
theorem fill_succ (l : List UInt8) (k : Nat) (hk : k < 40) : (l ++ (spareTo l.length k ++ zs (40 - k))).set (l.length + k) (spv l.length k) = l ++ (spareTo l.length (k + 1) ++ zs (40 - (k + 1))) := by
  have hz : zs (40 - k) = 0 :: zs (40 - (k + 1)) := by
    rw [show 40 - k = (40 - (k + 1)) + 1 by omega]
    rfl
  rw [List.set_append_right _ _ (by omega), Nat.add_sub_cancel_left, List.set_append_right _ _ (by rw [length_spareTo]; exact Nat.le_refl _), length_spareTo, Nat.sub_self, hz, List.set_cons_zero, spareTo_succ, List.append_assoc]
  rfl
theorem bv_put' (l : List UInt8) (i : Nat) (x : UInt8) : (bv l).set i (.int .u8 (x.toNat : Int)) = bv (l.set i x) := by simp [bv, List.map_set]

def SparePost (w : World) (n : Nat) (l : List UInt8) (e : Ending) (w' : World) : Prop :=
  ∃ g, e = .returned (.tuple #[.slice (some ⟨g, 0, none⟩) n (n + 40), .slice (some ⟨g, 0, none⟩) (n + 40) (n + 40)]) ∧ w'.ownsRow w.heap.size 5 1 (.slice (some ⟨g, 0, none⟩) (n + 40) (n + 40)) (n + 40) (bv (spared l)) ∧ Below w.heap.size w w'

set_option maxRecDepth 100000 in
theorem Spare_any (A : Option Addr) (n c : Nat) (l : List UInt8) (w : World) (B : Nat) (hr : RB w B A n l) (hB : B ≤ w.heap.size) (hn : n ≤ 140737488355328) :
    Calls Try.prog 38 #[.slice A n c] w (SparePost w n l) := by
  have HL := Lib.hid hr.len
  have HR := Lib.hid hr
  clear hr
  go_enter Try.func38, Try.ntmps38
  go_wp2_with (at_make; refine wl_makeB TB rfl (.tmp 8) (.tmp 8) rfl .i64 .i64 _ _ rfl rfl (n + 40) ?m1 ?m2 ?m3 w.heap.size (Nat.le_refl _) ?m5)
  case m1 => omega
  case m2 => omega
  case m3 => omega
  case m5 =>
    intro w1 hown hg hlt
    have HO := Lib.hid hown
    have HB := Lib.hid (show Below w.heap.size w w1 from (Below.refl _ _).grown hg (Nat.le_refl _) (by simp))
    clear hown hg
    go_wp2_with (with_reducible refine wl_copy TB rfl (.tmp 10) (.tmp 11) rfl _ (n + 40) (n + 40) rfl A n c rfl w.heap.size _ HO.out B (bv l) ?c1 (bv_one l) ?c2)
    case c1 => exact HR.out.below (HB.out.mono hB)
    case c2 =>
      intro w2 hown2 hg2
      have e3 : (bv l).take (n + 40) ++ (bv (zs (n + 40))).drop n = bv (l ++ (spareTo l.length 0 ++ zs (40 - 0))) := by
        rw [List.take_of_length_le (by rw [length_bv, HL.out]; omega), bv_append]
        simp [bv, zs, spareTo]
      rw [e3] at hown2
      have HO2 := Lib.hid hown2
      have HB2 := Lib.hid (HB.out.grown hg2 HB.out.size (by simp [Value.ownBlock]))
      clear hown2 hg2 HO HB e3
      go_wp2
      go_loopw [5] (fun i wr => ∃ k : Nat, k ≤ 40 ∧ i = .int .i64 ((n : Int) + (k : Int)) ∧ wr.ownsRow w.heap.size 5 1 (.slice (some ⟨w.heap.size, 0, none⟩) (n + 40) (n + 40)) (n + 40) (bv (l ++ (spareTo l.length k ++ zs (40 - k)))) ∧ Below w.heap.size w wr) (fun i _ => n + 40 - (intOf i).toNat)
      case atStart => exact ⟨0, by omega, by simp, HO2.out, HB2.out⟩
      case round =>
        obtain ⟨k, hk, rfl, hown, hb⟩ := hrel
        have HO := Lib.hid hown
        have HBr := Lib.hid hb
        clear hown hb HO2 HB2
        by_cases hlt : k < 40
        · have hcx := HO.out.cellAt (n + k) (by omega)
          have hcc : ∃ u, (bv (l ++ (spareTo l.length k ++ zs (40 - k))))[n + k]? = some u := ⟨_, List.getElem?_eq_getElem (by rw [length_bv]; simp [length_spareTo, length_zs, HL.out]; omega)⟩
          obtain ⟨u, hu⟩ := hcc
          rw [hu] at hcx
          have hf := HO.out.frozenAt (n + k)
          have HE := Lib.hid (spv_nat n k)
          have i0 : (0 : Int) ≤ (n : Int) + (k : Int) := by omega
          have i1 : (n : Int) + (k : Int) < (n : Int) + 40 := by omega
          have e2 : ((n : Int) + (k : Int)).toNat = n + k := by omega
          clear hu
          go_wp2
          refine ⟨⟨k + 1, by omega, ?_, ?_, HBr.out.setCell (Nat.le_refl _) _⟩, ?_⟩
          · congr 1
          · have h := (HO.out.stored (n + k) (.int .u8 ((spv n k).toNat : Int))).1
            have hfs := fill_succ l k hlt
            rw [HL.out] at hfs
            rw [bv_put', HL.out, hfs, HE.out] at h
            rw [HL.out]
            exact h
          · simp [intOf]
            omega
        · obtain rfl : k = 40 := by omega
          have hfin := HO.out
          rw [show l ++ (spareTo l.length 40 ++ zs (40 - 40)) = spared l by simp [spared, zs]] at hfin
          have HF := Lib.hid hfin
          clear hfin HO
          have hrun : ∀ W, (Instr.slice 26 (.slice (some ⟨w.heap.size, 0, none⟩) (n + 40) (n + 40)) none (some (.int .i64 (n : Int))) none).run Try.prog W = .ok (.slice (some ⟨w.heap.size, 0, none⟩) n (n + 40)) W := fun W => run_sl_hi TB W _ _ _ .i64 n (by omega)
          go_wp2
          go_ret2
          exact ⟨_, rfl, HF.out, HBr.out⟩

set_option maxRecDepth 100000 in
/-- bytes as Spare made them are told to be kept -/
theorem Kept_any (A A' : Option Addr) (n c c' : Nat) (l : List UInt8) (w : World) (B B' : Nat) (hf : RB w B A (n + 40) (spared l)) (hr : RB w B' A' n l) (hn : n ≤ 140737488355328) :
    Calls Try.prog 42 #[.slice A (n + 40) c, .slice A' n c'] w (EqPost w true) := by
  have HL := Lib.hid hr.len
  have HR := Lib.hid hr
  have HF := Lib.hid hf
  have hq : (((n : Int) + 40) != ((n : Int) + 40)) = false := by simp
  have hq' : (((n + 40 : Nat) : Int) != ((n : Int) + 40)) = false := by simp
  clear hr hf
  go_enter Try.func42, Try.ntmps42
  go_wp2
  go_loopw [5] (fun i wr => ∃ k nd : Nat, k ≤ n + 40 ∧ i = .int .i64 k ∧ wr = w.drewN nd) (fun i _ => n + 40 - (intOf i).toNat)
  case atStart => exact ⟨0, 0, by omega, rfl, rfl⟩
  case round =>
    obtain ⟨k, nd, hk, rfl, rfl⟩ := hrel
    by_cases hlt : k < n + 40
    · obtain ⟨ad, rfl, _, hcx⟩ := HF.out.at_ hlt
      by_cases hkn : k < n
      · obtain ⟨ad', rfl, _, hcy⟩ := HR.out.at_ hkn
        have hbe : bt (spared l) k = bt l k := by
          unfold bt spared
          simp [List.getElem?_append_left (show k < l.length by rw [HL.out]; exact hkn)]
        rw [hbe] at hcx
        have b1 := bt_lo l k
        have b2 := bt_hi l k
        have d1 : decide (k < n) = true := by simpa using hkn
        have d2 : (bt l k != bt l k) = false := by simp
        have d3 : decide (n ≤ k) = false := by simpa using hkn
        clear hbe
        generalize bt l k = x at *
        go_wp2
        go_quiet (fail)
        go_wp2
        exact ⟨⟨k + 1, nd + nq, by omega, by go_num, rfl⟩, by simp [intOf]; omega⟩
      · have hbe : bt (spared l) k = 160 + (k : Int) % 31 := by
          unfold bt spared
          have hk2 : k = l.length + (k - l.length) := by rw [HL.out]; omega
          have := spv_nat l.length (k - l.length)
          simp only [List.getD_eq_getElem?_getD]
          rw [List.getElem?_append_right (by rw [HL.out]; omega)]
          simp only [spareTo, List.getElem?_map]
          rw [List.getElem?_range (by rw [HL.out]; omega)]
          simp only [Option.map_some, Option.getD_some]
          rw [this]
          rw [HL.out]
          congr 2
          omega
        rw [hbe] at hcx
        have i0 : (0 : Int) ≤ (k : Int) := by omega
        have i1 : (k : Int) < ((n + 40 : Nat) : Int) := by omega
        have d1 : decide (k < n) = false := by simpa using hkn
        have d2 : ((160 + (k : Int) % 31) != (160 + (k : Int) % 31)) = false := by simp
        have d3 : decide (n ≤ k) = true := by simp; omega
        have w1 : IntKind.i64.wrap (160 + (k : Int) % 31) = 160 + (k : Int) % 31 := by rw [IntKind.wrap_i64]; omega
        have w2 : IntKind.u8.wrap (160 + (k : Int) % 31) = 160 + (k : Int) % 31 := by rw [IntKind.wrap_u8]; omega
        have w3 : (k : Int).tmod 31 = (k : Int) % 31 := Int.tmod_eq_emod_of_nonneg (by omega)
        clear hbe
        go_wp2
        go_quiet (fail)
        go_wp2
        exact ⟨⟨k + 1, nd + nq, by omega, by go_num, rfl⟩, by simp [intOf]; omega⟩
    · go_wp2
      go_ret
      exact ⟨rfl, nd, rfl⟩
end Go.Proofs.Ytobmopjfbgkfbaa
