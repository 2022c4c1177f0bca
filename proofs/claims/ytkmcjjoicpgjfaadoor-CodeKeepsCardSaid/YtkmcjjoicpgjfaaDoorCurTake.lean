/-
  Contract of Cursor.Take where the cursor lies below a given top. Conditions: a cursor lies at the address; the sizes that slices can have.
-/
import Derived.Test.YtkmcjjoicpgjfaaDoorCursor
namespace Go.Proofs.YtkmcjjoicpgjfaaDoor
open Go Go.RowKit Go.Sh

/-- what Take hands back; the cursor stays below top -/
def TakePostT (w : World) (base top p : Nat) (l : List UInt8) (a : Nat) (k : Int) (e : Ending) (w' : World) : Prop :=
  ∃ A n c, e = .returned (.tuple #[.slice A n c, .int .i64 (takE l.length a k)]) ∧ (takL l a k).length = n ∧ w'.ownsRow w.heap.size 5 1 (.slice A n c) n (bv (takL l a k)) ∧ (takE l.length a k = 0 → ∃ g, A = some ⟨g, 0, none⟩) ∧ CurTop w' base top p l (takN l.length a k) ∧ w.grownBy w' (some p)

set_option maxRecDepth 100000 in
theorem TakeT_any (p : Nat) (base top : Nat) (l : List UInt8) (a : Nat) (k : Int) (w : World) (h : CurTop w base top p l a) (hl : l.length ≤ 140737488355328) :
    Calls Tryd.prog 77 #[.pointer (some ⟨p, 0, none⟩), .int .i64 k] w (TakePostT w base top p l a k) := by
  have HC := Lib.hid h.1
  have HT := Lib.hid h
  have ha := h.1.len
  clear h
  by_cases hneg : k < 0
  · have E1 := Lib.hid (show takE l.length a k = 1 by simp [takE, hneg])
    have E2 := Lib.hid (show takL l a k = [] by simp [takL, E1.out])
    have E3 := Lib.hid (show takN l.length a k = a by simp [takN, E1.out])
    go_enter Tryd.func77, Tryd.ntmps77
    go_wp2
    go_ret2
    unfold TakePostT
    rw [E1.out, E2.out, E3.out]
    exact ⟨none, 0, 0, rfl, rfl, World.ownsRow_nil _ _ _ _, fun h => absurd h (by decide), HT.out, World.grownBy.refl _ _⟩
  · obtain ⟨kn, rfl⟩ := Int.eq_ofNat_of_zero_le (show 0 ≤ k by omega)
    by_cases hbig : l.length - a < kn
    · have E1 := Lib.hid (show takE l.length a (kn : Int) = 2 by simp only [takE]; rw [if_neg hneg, if_pos (by omega)])
      have E2 := Lib.hid (show takL l a (kn : Int) = [] by simp [takL, E1.out])
      have E3 := Lib.hid (show takN l.length a (kn : Int) = a by simp [takN, E1.out])
      go_enter Tryd.func77, Tryd.ntmps77
      go_wp2_with fail
      refine (Left_any p base l a _ HC.out hl).mono ?_
      rintro e w1 ⟨rfl, nd, rfl⟩
      go_wp2
      go_ret2
      unfold TakePostT
      rw [E1.out, E2.out, E3.out]
      exact ⟨none, 0, 0, rfl, rfl, World.ownsRow_nil _ _ _ _, fun h => absurd h (by decide), HT.out, grown_drewN _ _ _⟩
    · have E1 := Lib.hid (show takE l.length a (kn : Int) = 0 by simp only [takE]; rw [if_neg hneg, if_neg (by omega)])
      have E2 := Lib.hid (show takL l a (kn : Int) = (l.drop a).take kn by simp [takL, E1.out])
      have E3 := Lib.hid (show takN l.length a (kn : Int) = a + kn by simp [takN, E1.out])
      go_enter Tryd.func77, Tryd.ntmps77
      go_wp2_with fail
      refine (Left_any p base l a _ HC.out hl).mono ?_
      rintro e w1 ⟨rfl, nd, rfl⟩
      have HC1 := Lib.hid (HC.out.drewN nd)
      have HT1 := Lib.hid (show CurTop (w.drewN nd) base top p l a from HT.out)
      have HG1 := Lib.hid (grown_drewN w nd (some p))
      have hz1 : (w.drewN nd).heap.size = w.heap.size := rfl
      generalize w.drewN nd = w1 at *
      have HZ1 := Lib.hid hz1
      have hlt1 := HC1.out.lt
      obtain ⟨hbp, _, A, n, c, h3, h4⟩ := HC1.out
      obtain ⟨c0, c1, f0, f1⟩ := cur_cells h3
      have hlen : l.length = n := by have := h4.1; rw [length_bv] at this; omega
      have hcap := own_cap h4
      have hpn : a + kn ≤ n := by omega
      have hn : n ≤ 140737488355328 := by omega
      have HN := Lib.hid hlen
      have H3 := Lib.hid h3
      have H4 := Lib.hid h4
      have HRB := Lib.hid (((RB.of_own h4).cut (k := a) (cap := c) (by omega) hcap).take (k := kn) (by omega))
      have hsl := run_sl TB (P := Tryd.prog)
      obtain ⟨A3, hA3⟩ : ∃ A3, A3 = (if c = a then A else A.map (·.add a)) := ⟨_, rfl⟩
      have hrun : ∀ W, (Instr.slice 39 (.slice A n c) (some (.int .i64 (a : Int))) (some (.int .i64 ((a : Int) + (kn : Int)))) none).run Tryd.prog W = .ok (.slice A3 kn (c - a)) W := fun W => by
        have := run_sl TB W A n c .i64 .i64 a (a + kn) (by omega) (by omega)
        rw [Nat.mul_one, Nat.add_sub_cancel_left, ← hA3, show ((a + kn : Nat) : Int) = (a : Int) + (kn : Int) by omega] at this
        exact this
      rw [← hA3] at HRB
      have e1 : IntKind.i64.wrap ((a : Int) + (kn : Int)) = (a : Int) + (kn : Int) := by rw [IntKind.wrap_i64]; omega
      clear hsl hA3 h3 h4 hlen hz1
      go_wp2_with fail
      go_region_held3 (fun w' => w'.cell? ⟨p, 0, none⟩ = some (.slice A n c) ∧ w'.cell? ⟨p, 1, none⟩ = some (.int .i64 (a : Int))) (go_keep) (first | (go_at_call 65; refine (clone_any _ _ _ _ _ _ (by exact HRB.out) (by exact Nat.le_refl _) (by omega)).mono ?_; rintro e w2 ⟨g2, cc2, rfl, hown2, hb2⟩; have k0 := hb2.cell (p := ⟨p, 0, none⟩) hlt1; have k1 := hb2.cell (p := ⟨p, 1, none⟩) hlt1))
      have f1' : w2.frozen? ⟨p, 1, none⟩ = false := (hb2.frozen (p := ⟨p, 1, none⟩) hlt1).trans f1
      have HW := Lib.hid hown2
      have HB2 := Lib.hid hb2
      clear hown2 hb2 k0 k1 f0 f1 c0 c1 hrun e1
      go_wp2
      go_ret2
      unfold TakePostT
      rw [E1.out, E2.out, E3.out]
      have hC2 : CurTop w2 base top p l a := CurTop.later (w := w1.drew) HT1.out HB2.out
      have hw := HW.out
      rw [show w1.drew.heap.size = w.heap.size from HZ1.out] at hw
      have hp2 := hC2.1
      obtain ⟨_, _, A', n', c', h3', _⟩ := hp2
      refine ⟨_, _, _, rfl, ?_, hw.kept (grown_set _ p 1 _) (own_off hw h3' (by decide)), fun _ => ⟨_, rfl⟩, ?_, ?_⟩
      · rw [List.length_take, List.length_drop]; omega
      · have hst := hC2.step (a + kn) (by omega)
        rw [show ((a + kn : Nat) : Int) = (a : Int) + (kn : Int) by omega] at hst
        exact hst
      · have hg2 : w1.grownBy w2 (some p) := ⟨HB2.out.os, HB2.out.tape, HB2.out.output, HB2.out.size, fun k hk _ => HB2.out.block k hk⟩
        exact (HG1.out.trans hg2).trans (grown_set _ p 1 _)

/-- a write at or above the top leaves it, and below the top -/
theorem CurTop.above {w w' : World} {base top p z : Nat} {l : List UInt8} {a : Nat} (h : CurTop w base top p l a) (hg : w.grownBy w' (some z)) (hz : top ≤ z) : CurTop w' base top p l a := by
  refine ⟨h.over hg hz, h.2.1, fun A n c h3 => h.2.2 A n c ?_⟩
  rw [← h3]
  exact (hg.block p h.1.lt (fun e => by simp only [Option.some.injEq] at e; have := h.2.1; omega)).symm
end Go.Proofs.YtkmcjjoicpgjfaaDoor
