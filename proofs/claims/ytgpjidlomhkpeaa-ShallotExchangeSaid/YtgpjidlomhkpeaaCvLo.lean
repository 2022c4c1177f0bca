/-
  Contract of curve.Low. Conditions: the slice reads as 32 bytes.
-/
import Derived.Test.YtgpjidlomhkpeaaCvCh
namespace Go.Proofs.Ytgpjidlomhkpeaa
open Go Go.RowKit Go.Sh

set_option maxHeartbeats 4000000 in
set_option maxRecDepth 100000 in
theorem Low_any (A : Option Addr) (c : Nat) (u : List UInt8) (w : World) (hu : RB w w.heap.size A 32 u) :
    Calls Try.prog 10 #[.slice A 32 c] w fun e w' => e = .returned (.tuple #[.bool (decide (sc z32 (uN u) = 0)), .int .i64 0]) ∧ Below w.heap.size w w' := by
  have HMU := Lib.hid (fun (B : Option Addr) (d : Nat) (W : World) (hk : RB W W.heap.size B 32 z32) (hu : RB W W.heap.size A 32 u) => Mult_any B A d c z32 u W hk hu)
  have HU := Lib.hid hu
  obtain ⟨y, hy⟩ : ∃ y, sc z32 (uN u) = y := ⟨_, rfl⟩
  have hyl : y < pF := by rw [← hy]; exact sc_lt _ _
  rw [show LN (le (clampB z32)) (le u % 57896044618658097711785492504343953926634992332820282019728792003956564819968 % pF) = sc z32 (uN u) from rfl, hy] at HMU
  rw [hy]
  have hZ := toLe_z32 hyl
  obtain ⟨V, er, hV, hVl, her⟩ : ∃ (V : List UInt8) (er : Int), multV (toLe 32 y) = .tuple #[arr V, .int .i64 er] ∧ V.length = 32 ∧ (er == 5) = decide (y = 0) := by
    by_cases h : y = 0
    · exact ⟨z32, 5, by rw [multV, if_pos (hZ.2 h)], rfl, by rw [decide_eq_true h]; rfl⟩
    · exact ⟨toLe 32 y, 0, by rw [multV, if_neg fun e => h (hZ.1 e)], toLe_len _ _, by rw [decide_eq_false h]; rfl⟩
  rw [hV] at HMU
  obtain ⟨R, hR⟩ : ∃ R, decide (y = 0) = R := ⟨_, rfl⟩
  rw [hR] at her ⊢
  clear hu hy hyl hZ hV hR
  go_enter Try.func10, Try.ntmps10
  go_wp2_with (at_make; refine wl_makeB TB rfl (.const (.int .i64 32)) (.const (.int .i64 32)) rfl .i64 .i64 _ _ rfl rfl 32 rfl rfl (by omega) w.heap.size (Nat.le_refl _) ?m5)
  case m5 =>
    intro w1 hown hg hlt
    have hb1 : Below w.heap.size w w1 := (Below.refl _ _).grown hg (Nat.le_refl _) (fun k hk => by cases hk)
    have HZ1 := Lib.hid (RB.of_own (l := z32) hown)
    have HU1 := Lib.hid ((HU.out.below hb1).more (show w.heap.size ≤ w1.heap.size by omega))
    have HB1 := Lib.hid hb1
    clear hown hg hb1 HU
    go_wp2_with fail
    refine (HMU.out _ _ w1 HZ1.out HU1.out).mono ?_
    rintro e w2 ⟨rfl, hb2⟩
    have HB2 := Lib.hid (HB1.out.trans (hb2.mono HB1.out.size))
    have hsz2 := HB2.out.size
    obtain ⟨q, hq⟩ : ∃ q, w2.heap.size = q := ⟨_, rfl⟩
    rw [hq] at hsz2
    have hal := (Below.refl q w2).alloc (by rw [hq]; exact Nat.le_refl _) (.cells (bv z32).toArray 25)
    have hy3 := Arr.new w2 (l := z32) rfl
    rw [hq] at hy3
    have HY3 := Lib.hid hy3
    have HB3 := Lib.hid (HB2.out.trans ((below_setRow hal (Nat.le_refl q) (bv V).toArray).mono hsz2))
    clear hal hy3 hb2 HB1 HZ1 HU1 HMU
    go_upto_region 4 with (first | (refine wl_allocA (by rfl) (by rfl) q hq ?_; go_simp) | (refine wl_storeA (.tmp 4) (.tmp 13) HY3.out (by rfl) (by rfl) (by rfl) (by rfl) hVl ?_; go_simp))
    generalize (w2.alloc (.cells (bv z32).toArray 25)).setRow q (bv V).toArray = w3 at *
    go_wp2_with fail
    go_ret2
    exact ⟨rfl, HB3.out⟩
end Go.Proofs.Ytgpjidlomhkpeaa
