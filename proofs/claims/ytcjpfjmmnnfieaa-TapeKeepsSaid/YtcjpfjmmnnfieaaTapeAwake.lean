/-
  Contract of shallotlaw08.awake: it returns true and writes nothing that was there. No conditions.
-/
import Derived.Test.YtcjpfjmmnnfieaaTape
import Derived.Test.YtcjpfjmmnnfieaaClock
namespace Go.Proofs.Ytcjpfjmmnnfieaa
open Go Go.RowKit Go.Sh

theorem zeroClock : ∀ w : World, (zeroValue 46).run Try.prog w = .ok (.agg (clk 0 []).toArray) w := fun _ => by kernel_rfl

set_option maxRecDepth 100000 in
set_option maxHeartbeats 1000000 in
theorem awake_any (w : World) : Calls Try.prog 14 #[] w (fun e w' => e = .returned (.bool true) ∧ Below w.heap.size w w') := by
  go_enter Try.func14, Try.ntmps14
  go_wp2_with fail
  refine (NewTape_any _ _ _ [1, 2, 3] _ (w.heap.size + 1) (RB.lit w _ [1, 2, 3] _ rfl _ rfl) (by simp) (by simp)).mono ?_
  rintro e w1 ⟨p, S, rfl, hc1, hb1⟩
  have HC1 := Lib.hid hc1
  have HB1 := Lib.hid (show Below w.heap.size w w1 from ((Below.refl _ _).alloc (Nat.le_refl _) _).trans (hb1.mono (by simp)))
  have hz1 := HB1.out.size
  clear hc1 hb1
  go_wp2_with fail
  refine (Draw_any _ _ _ (by decide) _ _ [1, 2, 3] 0 2 _ HC1.out (by simp)).mono ?_
  rintro e w2 ⟨A2, n2, c2, rfl, hn2, hown2, hg2, hc2, hgr2⟩
  rw [show takL [1, 2, 3] 0 2 = [1, 2] by decide] at hn2 hown2
  rw [show drwE ([1, 2, 3] : List UInt8).length 0 2 = 0 by decide]
  rw [show takN ([1, 2, 3] : List UInt8).length 0 2 = 2 by decide] at hc2
  subst hn2
  have HO2 := Lib.hid hown2
  have HC2 := Lib.hid (show CurGT 67 [] S w2 _ w1.heap.size p [1, 2, 3] 2 from ⟨hc2, HC1.out.top.2⟩)
  have HG2 := Lib.hid hgr2
  have hz2 : w1.heap.size ≤ w2.heap.size := hgr2.size
  have HB2 := Lib.hid (show Below w.heap.size w w2 from HB1.out.grown hgr2 hz1 (fun g hg => by
    injection hg with hg
    have := HC1.out.1
    simp at this
    omega))
  clear hown2 hc2 hgr2 hg2 HB1 HC1
  have hzero := zeroClock
  go_wp2_with fail
  have HK := Lib.hid (show ClkAt (w2.alloc (.cells (clk 0 []).toArray 46)) w2.heap.size 46 [] 0 [] [] from ⟨by rw [List.nil_append, List.append_nil]; exact heap_alloc_new _ _, by simp⟩)
  have HB3 := Lib.hid (HB2.out.alloc HB2.out.size (.cells (clk 0 []).toArray 46))
  have HO3 := Lib.hid (HO2.out.alloc (.cells (clk 0 []).toArray 46))
  have HC3 := Lib.hid (CurGT.later (t := 67) HC2.out ((Below.refl _ _).alloc (Nat.le_refl _) (.cells (clk 0 []).toArray 46)))
  obtain ⟨b, hb⟩ : ∃ b, w2.heap.size = b := ⟨_, rfl⟩
  have hb3 : w2.heap.size < (w2.alloc (.cells (clk 0 []).toArray 46)).heap.size := by simp
  have hpb : p < b := by rw [← hb]; exact HC2.out.1.lt
  rw [hb] at HK hb3 hz2 ⊢
  have HO2' := Lib.hid (show w2.ownsRow w1.heap.size 5 1 (.slice A2 [1, 2].length c2) [1, 2].length (bv [1, 2]) from HO2.out)
  have hsz2 : w2.heap.size = b := hb
  clear hb HB2 HO2 HC2 hzero
  generalize w2.alloc (.cells (clk 0 []).toArray 46) = w3 at *
  refine (Set_any b _ [] 0 [] [] 5 7 _ HK.out).mono ?_
  rintro e w4 ⟨rfl, hk4, hg4⟩
  rw [show setE [] 5 = 0 by decide]
  rw [show setT 0 [] 5 7 = [(5, 7)] by simp [setT, setE, wrap64]] at hk4
  have HK4 := Lib.hid hk4
  have HG4 := Lib.hid hg4
  clear hk4 hg4 HK
  go_wp2_with fail
  refine (Due_any b _ [] 0 [(5, 7)] [] 9 _ HK4.out).mono ?_
  rintro e w5 ⟨rfl, hk5, hg5⟩
  rw [show dueN 0 [(5, 7)] 9 = 5 by decide, show dueT [(5, 7)] 9 = [] by decide] at hk5
  rw [show dueW [(5, 7)] 9 = 7 by decide, show dueB [(5, 7)] 9 = true by decide]
  have hg := HG4.out.trans hg5
  have HK5 := Lib.hid hk5
  have HC5 := Lib.hid (HC3.out.over hg hz2)
  have HO5 := Lib.hid (HO3.out.kept hg (by
    cases hv : (Value.slice A2 [1, 2].length c2).ownBlock with
    | none => exact .inl rfl
    | some g =>
      right
      intro he
      injection he with he
      have := (HO2'.out.lt g hv).2
      omega))
  have HB5 := Lib.hid (HB3.out.grown hg HB3.out.size (fun g hg => by injection hg with hg; omega))
  clear hk5 hg5 hg HG4 HK4 HC3 HO3 HB3
  go_wp2_with fail
  refine (Equal_any _ _ _ _ _ _ [1, 2] [1, 2] _ w5.heap.size (w5.heap.size + 1) ((RB.of_own HO5.out).alloc (Nat.le_refl _) _) (RB.lit w5 _ [1, 2] _ rfl _ rfl) (by simp)).mono fun e w6 h => ?_
  obtain ⟨rfl, hb6⟩ := h.below
  rw [show decide (([1, 2] : List UInt8) = [1, 2]) = true by decide]
  have hb56 : Below w5.heap.size w5 w6 := ((Below.refl _ _).alloc (Nat.le_refl _) _).trans (hb6.mono (by simp))
  have HC6 := Lib.hid (HC5.out.later hb56)
  have HK6 := Lib.hid (HK5.out.block (hb56.block b HK5.out.lt))
  have HB6 := Lib.hid (below_up HB5.out hb56 (Nat.le_refl _))
  clear h hb6 hb56 HC5 HK5 HB5 HO5
  go_wp2_with fail
  refine (Left_any _ _ _ p _ [1, 2, 3] 2 _ HC6.out.1 (by simp)).mono ?_
  rintro e w7 ⟨rfl, nd, rfl⟩
  go_wp2_with fail
  refine (Now_any b _ [] 5 [] [] _ (show ClkAt (w6.drewN nd) b _ [] 5 [] [] from HK6.out)).mono ?_
  rintro e w8 ⟨rfl, rfl⟩
  go_wp2
  go_ret
  exact ⟨rfl, below_drewN HB6.out nd⟩
end Go.Proofs.Ytcjpfjmmnnfieaa
