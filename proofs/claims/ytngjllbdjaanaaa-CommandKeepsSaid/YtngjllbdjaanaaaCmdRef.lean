/-
  Contracts of shallotref10.marked, Check and Encode: what the document's own code answers of a command. Conditions: the fields fit their types.
-/
import Derived.Test.YtngjllbdjaanaaaCmdEnc
import Derived.Test.YtngjllbdjaanaaaMid
namespace Go.Proofs.Ytngjllbdjaanaaa
open Go Go.RowKit Go.Sh

theorem mark_cell {w : World} {b : Nat} {c : Cmd} (hc : c.OK) (h : CmdAt w b c) {k : Nat} (hk : k < 16) : w.cell? ⟨b, 4 + k, none⟩ = some (.int .u8 (it c.m k)) := by
  have hk' : k < c.m.length := by rw [hc.l]; exact hk
  have := h.r (4 + k) (.int .u8 (it c.m k)) (by simp [Cmd.cells, Nat.add_comm 4 k, it, List.getElem?_eq_getElem hk'])
  rw [Nat.zero_add] at this
  exact this
theorem noMark_rep : noMark = List.replicate 16 0 := rfl
theorem noMark_of {c : Cmd} (hc : c.OK) (h : ∀ k, k < 16 → it c.m k = 0) : c.m = noMark := by
  rw [noMark_rep]
  refine List.eq_replicate_iff.2 ⟨hc.l, fun y hy => ?_⟩
  obtain ⟨i, hi, rfl⟩ := List.mem_iff_getElem.1 hy
  have := h i (by rw [hc.l] at hi; exact hi)
  rw [it, List.getD_eq_getElem?_getD, List.getElem?_eq_getElem hi] at this
  simpa using this
theorem it_noMark (k : Nat) : it noMark k = 0 := by
  rw [noMark_rep, it, List.getD_eq_getElem?_getD, List.getElem?_replicate]
  split <;> rfl

theorem marked_any (c : Cmd) (w : World) (hc : c.OK) : Calls Try.prog 28 #[c.v] w (fun e w' => e = .returned (.bool (!decide (c.m = noMark))) ∧ Below w.heap.size w w') := by
  have HN := Lib.hid (cmd_new w c 28)
  have HC := Lib.hid hc
  clear hc
  unfold Cmd.v
  generalize hcs : c.cells.toArray = cs at *
  have HCS := Lib.hid hcs
  clear hcs
  obtain ⟨r, hr⟩ : ∃ r, (!decide (c.m = noMark)) = r := ⟨_, rfl⟩
  rw [hr]
  have HR := Lib.hid hr
  clear hr
  go_enter Try.func28, Try.ntmps28
  go_wp2_with fail
  generalize hw1 : w.alloc (.cells cs 28) = w1 at *
  have HB := Lib.hid (show Below w.heap.size w w1 by rw [← hw1]; exact (Below.refl _ _).alloc (Nat.le_refl _) _)
  clear hw1
  generalize hb : w.heap.size = b at *
  have HH := Lib.hid hb
  clear hb
  go_loop [3] (fun i => ∃ k : Nat, k ≤ 16 ∧ i = .int .i64 k ∧ Hid (∀ j, j < k → it c.m j = 0)) (fun i => 16 - (intOf i).toNat)
  case atStart => exact ⟨0, by omega, rfl, Lib.hid fun j hj => absurd hj (by omega)⟩
  case round =>
    obtain ⟨k, hk, rfl, H0⟩ := hrel
    by_cases hlt : k < 16
    · have hcell := mark_cell HC.out HN.out hlt
      have hi : (0 : Int) ≤ (k : Int) := by omega
      have hi' : (k : Int) < 16 := by omega
      by_cases h0 : it c.m k = 0
      · rw [h0] at hcell
        have HK := Lib.hid (show ∀ j, j < k + 1 → it c.m j = 0 by
          intro j hj
          by_cases hjk : j = k
          · rw [hjk]; exact h0
          · exact H0.out j (by omega))
        clear h0 H0
        go_wp2
        go_round
        case rel => exact ⟨k + 1, by omega, by go_num, HK⟩
        case measure => simp [intOf]; omega
      · have hne : (it c.m k != 0) = true := by rw [bne_iff_ne]; exact h0
        have hr : r = true := by
          rw [← HR.out]
          simp
          intro h
          rw [h] at h0
          exact h0 (it_noMark k)
        have HRT := Lib.hid hr
        generalize it c.m k = y at *
        clear h0 hr H0
        go_wp2
        go_ret
        exact ⟨by rw [HRT.out]; rfl, by rw [HH.out]; exact HB.out⟩
    · obtain rfl : k = 16 := by omega
      have hr : r = false := by
        rw [← HR.out]
        simp
        exact noMark_of HC.out H0.out
      have HRT := Lib.hid hr
      clear hr H0
      go_wp2
      go_ret
      exact ⟨by rw [HRT.out]; rfl, by rw [HH.out]; exact HB.out⟩

set_option maxHeartbeats 1000000 in
theorem RefCheck_any (c : Cmd) (w : World) (hc : c.OK) : Calls Try.prog 20 #[c.v] w (fun e w' => e = .returned (.int .i64 (checkN c)) ∧ Below w.heap.size w w') := by
  have HS := Lib.hid (fun W => marked_any c W hc)
  have HN := Lib.hid (cmd_new w c 28)
  have HZ := Lib.hid hc.size
  have h0 := HN.out.k
  have h3 := HN.out.x
  have h2 := HN.out.d
  have hk := hc.k
  have hd := hc.d
  have hx := hc.x
  obtain ⟨n, hn⟩ : ∃ n, checkN c = n := ⟨_, rfl⟩
  rw [hn]
  unfold checkN shapedB at hn
  generalize decide (c.m = noMark) = g at HS hn
  unfold Cmd.v at HS ⊢
  generalize hcs : c.cells.toArray = cs at *
  generalize hck : c.k = k at *
  generalize hcd : c.d = d at *
  generalize hcx : c.x = x at *
  have HR := Lib.hid HN.out.r
  have hi : (Try.prog.info? 28).map (·.size) = some c.cells.length := by rw [HZ.out]; kernel_rfl
  have HI := Lib.hid hi
  have HCD := Lib.hid hcd
  have HB1 := Lib.hid ((Below.refl w.heap.size w).alloc (Nat.le_refl _) (.cells cs 28))
  clear hi hck hcd hcx
  by_cases h1 : k < 1 ∨ 4 < k
  · rw [if_pos h1] at hn
    subst hn
    by_cases h1 : k < 1
    · go_enter Try.func20, Try.ntmps20
      go_wp2_with fail
      go_ret
      exact ⟨rfl, HB1.out⟩
    · have h4 : 4 < k := by omega
      go_enter Try.func20, Try.ntmps20
      go_wp2_with fail
      go_ret
      exact ⟨rfl, HB1.out⟩
  rw [if_neg h1] at hn
  have ka : 1 ≤ k := by omega
  have kb : k ≤ 4 := by omega
  by_cases hs : (((k == 1) == (x != 0)) && (k == 4 || g)) = false
  · rw [if_pos hs] at hn
    subst hn
    by_cases e1 : k = 1
    · subst e1
      have x0 : x = 0 ∨ g = false := by
        by_cases h : x = 0
        · exact .inl h
        · right
          have hx' : (x != 0) = true := by rw [bne_iff_ne]; exact h
          simpa [hx'] using hs
      by_cases h : x = 0
      · subst h
        clear hs x0 h1
        go_enter Try.func20, Try.ntmps20
        go_wp2_with fail
        go_ret
        exact ⟨rfl, HB1.out⟩
      · obtain rfl : g = false := x0.resolve_left h
        have hb : (x == 0) = false := by rw [beq_eq_false_iff_ne]; exact h
        have hb' : (x != 0) = true := by rw [bne_iff_ne]; exact h
        clear hs x0 h h1
        go_enter Try.func20, Try.ntmps20
        go_wp2_with (refine wl_load_mid rfl 28 _ rfl w.heap.size 0 rfl c.cells _ HR.out Try.underlying28 rfl HI.out ?_; rw [hcs])
        refine (HS.out _).mono ?_
        rintro e w1 ⟨rfl, hb⟩
        have HB := Lib.hid (HB1.out.trans (hb.mono (by simp)))
        clear hb
        go_wp2_with fail
        go_ret
        exact ⟨rfl, HB.out⟩
    · have k1 : (k == 1) = false := by rw [beq_eq_false_iff_ne]; exact e1
      have k1' : (k != 1) = true := by rw [bne_iff_ne]; exact e1
      by_cases h : x = 0
      · subst h
        have hg : ¬ k = 4 ∧ g = false := by
          constructor
          · intro h
            rw [h] at hs
            simp at hs
          · cases g
            · rfl
            · simp [k1] at hs
        obtain ⟨e4, rfl⟩ := hg
        have k4 : (k != 4) = true := by rw [bne_iff_ne]; exact e4
        clear hs h1 e1
        go_enter Try.func20, Try.ntmps20
        go_wp2_with (refine wl_load_mid rfl 28 _ rfl w.heap.size 0 rfl c.cells _ HR.out Try.underlying28 rfl HI.out ?_; rw [hcs])
        refine (HS.out _).mono ?_
        rintro e w1 ⟨rfl, hb⟩
        have HB := Lib.hid (HB1.out.trans (hb.mono (by simp)))
        clear hb
        go_wp2_with fail
        go_ret
        exact ⟨rfl, HB.out⟩
      · have hb' : (x != 0) = true := by rw [bne_iff_ne]; exact h
        clear hs h1 e1
        go_enter Try.func20, Try.ntmps20
        go_wp2_with fail
        go_ret
        exact ⟨rfl, HB1.out⟩
  · rw [if_neg hs] at hn
    rw [Bool.not_eq_false, Bool.and_eq_true] at hs
    obtain ⟨s1, s2⟩ := hs
    have HN2 := Lib.hid hn
    clear hn
    by_cases e1 : k = 1
    · subst e1
      have hx1 : (x == 0) = false := by rw [beq_eq_false_iff_ne]; simpa using s1
      obtain rfl : g = true := by simpa using s2
      clear s1 s2 h1
      by_cases h11 : 1000000 < d
      · have hn := HN2.out
        rw [if_pos h11] at hn
        subst hn
        clear HN2
        go_enter Try.func20, Try.ntmps20
        go_wp2_with (refine wl_load_mid rfl 28 _ rfl w.heap.size 0 rfl c.cells _ HR.out Try.underlying28 rfl HI.out ?_; rw [hcs])
        refine (HS.out _).mono ?_
        rintro e w1 ⟨rfl, hb⟩
        have h2 := (HN.out.below hb (by simp)).d
        rw [HCD.out] at h2
        have HB := Lib.hid (HB1.out.trans (hb.mono (by simp)))
        clear hb h0 h3
        go_wp2_with fail
        go_ret
        exact ⟨rfl, HB.out⟩
      · have hn := HN2.out
        rw [if_neg h11] at hn
        subst hn
        clear HN2
        go_enter Try.func20, Try.ntmps20
        go_wp2_with (refine wl_load_mid rfl 28 _ rfl w.heap.size 0 rfl c.cells _ HR.out Try.underlying28 rfl HI.out ?_; rw [hcs])
        refine (HS.out _).mono ?_
        rintro e w1 ⟨rfl, hb⟩
        have h2 := (HN.out.below hb (by simp)).d
        rw [HCD.out] at h2
        have HB := Lib.hid (HB1.out.trans (hb.mono (by simp)))
        clear hb h0 h3
        go_wp2_with fail
        go_ret
        exact ⟨rfl, HB.out⟩
    · have k1 : (k == 1) = false := by rw [beq_eq_false_iff_ne]; exact e1
      have k1' : (k != 1) = true := by rw [bne_iff_ne]; exact e1
      obtain rfl : x = 0 := by simpa [k1] using s1
      clear s1 h1 e1
      by_cases e4 : k = 4
      · subst e4
        clear s2
        by_cases h11 : 1000000 < d
        · have hn := HN2.out
          rw [if_pos h11] at hn
          subst hn
          clear HN2
          go_enter Try.func20, Try.ntmps20
          go_wp2_with fail
          go_ret
          exact ⟨rfl, HB1.out⟩
        · have hn := HN2.out
          rw [if_neg h11] at hn
          subst hn
          clear HN2
          go_enter Try.func20, Try.ntmps20
          go_wp2_with fail
          go_ret
          exact ⟨rfl, HB1.out⟩
      · have k4 : (k != 4) = true := by rw [bne_iff_ne]; exact e4
        have k4' : (k == 4) = false := by rw [beq_eq_false_iff_ne]; exact e4
        obtain rfl : g = true := by simpa [k4'] using s2
        clear s2
        by_cases h11 : 1000000 < d
        · have hn := HN2.out
          rw [if_pos h11] at hn
          subst hn
          clear HN2
          go_enter Try.func20, Try.ntmps20
          go_wp2_with (refine wl_load_mid rfl 28 _ rfl w.heap.size 0 rfl c.cells _ HR.out Try.underlying28 rfl HI.out ?_; rw [hcs])
          refine (HS.out _).mono ?_
          rintro e w1 ⟨rfl, hb⟩
          have h2 := (HN.out.below hb (by simp)).d
          rw [HCD.out] at h2
          have HB := Lib.hid (HB1.out.trans (hb.mono (by simp)))
          clear hb h0 h3
          go_wp2_with fail
          go_ret
          exact ⟨rfl, HB.out⟩
        · have hn := HN2.out
          rw [if_neg h11] at hn
          subst hn
          clear HN2
          go_enter Try.func20, Try.ntmps20
          go_wp2_with (refine wl_load_mid rfl 28 _ rfl w.heap.size 0 rfl c.cells _ HR.out Try.underlying28 rfl HI.out ?_; rw [hcs])
          refine (HS.out _).mono ?_
          rintro e w1 ⟨rfl, hb⟩
          have h2 := (HN.out.below hb (by simp)).d
          rw [HCD.out] at h2
          have HB := Lib.hid (HB1.out.trans (hb.mono (by simp)))
          clear hb h0 h3
          go_wp2_with fail
          go_ret
          exact ⟨rfl, HB.out⟩
end Go.Proofs.Ytngjllbdjaanaaa
