/-
  Contract of shallotlaw19.awake: true.
-/
import Derived.Test.YtkmcjjoicpgjfaaVerSame2
namespace Go.Proofs.Ytkmcjjoicpgjfaa
open Go Go.RowKit Go.Sh

/-- the fixed program with a timer -/
def p0 : Prg := ⟨[⟨1, 0, 0⟩, ⟨13, 3, 0⟩, ⟨0, 0, 0⟩, ⟨16, 0, 0⟩], [], [], [], 0, 1, 0, 0⟩
theorem p0_ck : ckP p0 = 0 := by unfold ckP; decide
theorem p0_nodes : chkN [] = 0 := by
  unfold chkN
  rw [if_neg (by decide), if_neg (by rintro ⟨i, hi, _⟩; exact absurd hi (Nat.not_lt_zero _)), if_neg (by rintro ⟨i, j, _, hi, _⟩; exact absurd hi (Nat.not_lt_zero _))]
theorem p0_fit : fitP p0 [] = 0 := by unfold fitP; rw [p0_ck, p0_nodes]; rfl
theorem p0_rf : rfP p0 = 0 := by decide
theorem p0_ana : (anaS p0).1 = 0 ∧ (anaS p0).2.hs = [0, 1, 0, 0] ∧ (anaS p0).2.ts = [false, false, false, true] ∧ (anaS p0).2.pk = 1 := by decide
/-- a block of numbers is a row of them -/
theorem ri_of_blk {W : World} {g B n : Nat} {l : List Int} {ty : TypeId} {fr : Nat × Nat} (h : W.heap[g]? = some (.cells (iv l).toArray ty fr)) (hB : g < B) (hl : l.length = n) (hb : ∀ z ∈ l, -9223372036854775808 ≤ z ∧ z ≤ 9223372036854775807) : RI W B (some ⟨g, 0, none⟩) n l := by
  refine ⟨⟨by rw [length_iv]; omega, .inr ⟨_, rfl, hB, fun j hj => ?_⟩⟩, hb⟩
  rw [add_mk, blk_cell h, Nat.zero_add]
  simp
/-- where the fixed program lies -/
def d0 (g : Nat) : Pad := ⟨some ⟨g, 0, none⟩, 4, 4, none, 0, 0, none, 0, 0, none, 0, 0⟩
theorem p0_at {W : World} {g B : Nat} {ty : TypeId} {fr : Nat × Nat} (h : W.heap[g]? = some (.cells #[.int .u8 1, .int .i64 0, .int .i64 0, .int .u8 13, .int .i64 3, .int .i64 0, .int .u8 0, .int .i64 0, .int .i64 0, .int .u8 16, .int .i64 0, .int .i64 0] ty fr)) (hB : g < B) : PR W B (d0 g) p0 := by
  have hz : RR W B 3 none 0 ([] : List (List Value)) := ⟨rfl, (fun _ h => by cases h), .inl rfl⟩
  have hc : ∀ k v, (#[.int .u8 1, .int .i64 0, .int .i64 0, .int .u8 13, .int .i64 3, .int .i64 0, .int .u8 0, .int .i64 0, .int .i64 0, .int .u8 16, .int .i64 0, .int .i64 0] : Array Value)[k]? = some v → W.cell? ⟨g, k, none⟩ = some v := fun k v hv => by rw [blk_cell h]; exact hv
  refine ⟨⟨rfl, fun cs hcs => ?_, .inr ⟨g, 0, rfl, hB, fun i cs hi j v hv => ?_⟩⟩, ⟨rfl, [], ⟨rfl, .inl rfl⟩, fun i hi => absurd hi (Nat.not_lt_zero _)⟩, ⟨rfl, [], ⟨rfl, .inl rfl⟩, fun i hi => absurd hi (Nat.not_lt_zero _)⟩, ⟨rfl, [], hz, fun i hi => absurd hi (Nat.not_lt_zero _)⟩, Nat.le_refl _, Nat.le_refl _, Nat.le_refl _, Nat.le_refl _, show 4 ≤ 140737488355328 by decide, Nat.zero_le _, Nat.zero_le _, Nat.zero_le _⟩
  · obtain ⟨x, _, rfl⟩ := List.mem_map.1 hcs
    rfl
  · refine hc _ _ ?_
    match i, j with
    | 0, 0 | 0, 1 | 0, 2 | 1, 0 | 1, 1 | 1, 2 | 2, 0 | 2, 1 | 2, 2 | 3, 0 | 3, 1 | 3, 2 => obtain rfl := Option.some.inj hi; exact hv
    | 0, j + 3 | 1, j + 3 | 2, j + 3 | 3, j + 3 => obtain rfl := Option.some.inj hi; simp [Ins.cells] at hv
    | i + 4, _ => simp [p0] at hi
set_option maxHeartbeats 4000000 in
set_option maxRecDepth 100000 in
theorem awake19_any (w : World) : Calls Try.prog 5 #[] w (fun e w' => e = .returned (.bool true) ∧ Below w.heap.size w w') := by
  have HV := Lib.hid (fun W g (h : W.heap[g]? = some (.cells #[.int .u8 1, .int .i64 0, .int .i64 0, .int .u8 13, .int .i64 3, .int .i64 0, .int .u8 0, .int .i64 0, .int .i64 0, .int .u8 16, .int .i64 0, .int .i64 0] 39 (0, 0))) (hg : g < W.heap.size) => Verify_any (d0 g) p0 [] none 0 0 W W.heap.size (p0_at h hg) (Nat.le_refl _) ⟨rfl, (fun _ h => by cases h), .inl rfl⟩ (fun _ h => by cases h) (by decide))
  have HR := Lib.hid (show verP p0 [] = anaS p0 by unfold verP; rw [if_neg (by rw [p0_fit]; simp), if_neg (by rw [p0_rf]; simp)])
  have HA := Lib.hid p0_ana
  generalize verP p0 [] = R at *
  go_enter Try.func5, Try.ntmps5
  go_wp2_with fail
  obtain ⟨hz2, hc2, _, hb2⟩ := two_new w (.cells #[.int .u8 1, .int .i64 0, .int .i64 0, .int .u8 13, .int .i64 3, .int .i64 0, .int .u8 0, .int .i64 0, .int .i64 0, .int .u8 16, .int .i64 0, .int .i64 0] 39) (.cells #[.slice (some ⟨w.heap.size, 0, none⟩) 4 4, .slice none 0 0, .slice none 0 0, .slice none 0 0, .int .i64 0, .int .i64 1, .int .i64 0, .int .i64 0] 27)
  generalize (w.alloc (.cells #[.int .u8 1, .int .i64 0, .int .i64 0, .int .u8 13, .int .i64 3, .int .i64 0, .int .u8 0, .int .i64 0, .int .i64 0, .int .u8 16, .int .i64 0, .int .i64 0] 39)).alloc (.cells #[.slice (some ⟨w.heap.size, 0, none⟩) 4 4, .slice none 0 0, .slice none 0 0, .slice none 0 0, .int .i64 0, .int .i64 1, .int .i64 0, .int .i64 0] 27) = w2 at *
  have HB2 := Lib.hid hb2
  refine (HV.out w2 w.heap.size hc2 (by omega)).mono ?_
  rintro e w3 ⟨hb3, hpost⟩
  have HB3 := Lib.hid (HB2.out.trans (hb3.mono (by omega)))
  rcases hpost with ⟨hne, rfl⟩ | ⟨hz, gh, gt, k1, k2, k3, rfl, k4, k5, k6, k7⟩
  · rw [HR.out] at hne
    exact absurd HA.out.1 hne
  · rw [HR.out] at k4 k5 ⊢
    rw [HA.out.2.1] at k4
    rw [HA.out.2.2.1] at k5
    rw [HA.out.2.2.2]
    have K4 := Lib.hid k4
    have K5 := Lib.hid k5
    rw [show p0.code.length = 4 from rfl]
    clear k4 k5 k6 k7 hz hc2 hb2 hb3 HV HR
    simp only
    go_wp2_with fail
    obtain ⟨hz4, hc4, hd4, hb4⟩ := two_new w3 (.cells #[.slice (some ⟨gh, 0, none⟩) 4 4, .slice (some ⟨gt, 0, none⟩) 4 4, .int .i64 1] 33) (.cells #[.int .i64 0, .int .i64 1, .int .i64 0, .int .i64 0] 3)
    generalize (w3.alloc (.cells #[.slice (some ⟨gh, 0, none⟩) 4 4, .slice (some ⟨gt, 0, none⟩) 4 4, .int .i64 1] 33)).alloc (.cells #[.int .i64 0, .int .i64 1, .int .i64 0, .int .i64 0] 3) = w4 at *
    have hgh := (Array.getElem?_eq_some_iff.1 K4.out).1
    have hgt := (Array.getElem?_eq_some_iff.1 K5.out).1
    have c1 : w4.cell? ⟨w3.heap.size, 1, none⟩ = some (.slice (some ⟨gt, 0, none⟩) 4 4) := by rw [blk_cell hc4]; rfl
    have t3 : w4.cell? ⟨gt, 3, none⟩ = some (.bool true) := by rw [blk_cell ((hb4.block gt hgt).trans K5.out)]; rfl
    have t2 : w4.cell? ⟨gt, 2, none⟩ = some (.bool false) := by rw [blk_cell ((hb4.block gt hgt).trans K5.out)]; rfl
    have hbd : ∀ z ∈ [(0 : Int), 1, 0, 0], -9223372036854775808 ≤ z ∧ z ≤ 9223372036854775807 := by decide
    refine (SameInts_eq (some ⟨gh, 0, none⟩) (some ⟨w3.heap.size + 1, 0, none⟩) 4 4 4 [0, 1, 0, 0] w4 w4.heap.size w4.heap.size (ri_of_blk ((hb4.block gh hgh).trans K4.out) (by omega) rfl hbd) (ri_of_blk hd4 (by omega) rfl hbd) (by decide)).mono ?_
    rintro e w5 ⟨rfl, dd, rfl⟩
    have HB5 := Lib.hid (HB3.out.trans ((hb4.mono (by have := HB3.out.size; omega)).trans (below_drewN (Below.refl w.heap.size w4) dd)))
    clear hb4 hc4 hd4
    go_wp2_with fail
    go_ret
    exact ⟨rfl, HB5.out⟩
end Go.Proofs.Ytkmcjjoicpgjfaa
