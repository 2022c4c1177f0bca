/-
  Contract of shallotref18.Same at equal programs: true. Conditions: a program in memory twice.
-/
import Derived.Test.YtkmcjjoicpgjfaaDoorVerSame
namespace Go.Proofs.YtkmcjjoicpgjfaaDoor
open Go Go.RowKit Go.Sh

theorem EqPost.quiet0 {P : Program} {f : FuncId} {args : Array Value} {w : World} {n : Nat} {b : Bool} (h : Calls P f args (w.drewN n) (EqPost (w.drewN n) b)) :
    Calls P f args (w.drewN n) fun e w'' => e = .returned (.bool b) ∧ ∃ m, w'' = w.drewN m := by
  refine h.mono fun e w'' hh => ?_
  obtain ⟨h1, k, rfl⟩ := hh
  exact ⟨h1, n + k, by rw [World.drewN_drewN]⟩
set_option maxHeartbeats 8000000 in
set_option maxRecDepth 100000 in
theorem Same_eq (d d' : Pad) (p : Prg) (w : World) (B B' : Nat) (hp : PR w B d p) (hp' : PR w B' d' p) (hB : B ≤ w.heap.size) (hB' : B' ≤ w.heap.size) (hs : ∀ l ∈ p.msgs, l.length ≤ 140737488355328) (hr : ∀ r ∈ p.rts, r.length ≤ 140737488355328) (hq : ∀ s ∈ p.snds, s.rts.length ≤ 140737488355328) :
    Calls Tryd.prog 13 #[.agg (pcs d p), .agg (pcs d' p)] w (fun e w' => e = .returned (.bool true) ∧ Below w.heap.size w w') := by
  have hn1 : d'.n1 = d.n1 := by have a := hp.code.len; have b := hp'.code.len; rw [List.length_map] at a b; omega
  have hn2 : d'.n2 = d.n2 := by have a := hp.msgs.len; have b := hp'.msgs.len; omega
  have hn3 : d'.n3 = d.n3 := by have a := hp.rts.len; have b := hp'.rts.len; omega
  have hn4 : d'.n4 = d.n4 := by have a := hp.snds.len; have b := hp'.snds.len; omega
  obtain ⟨A1, n1, c1, A2, n2, c2, A3, n3, c3, A4, n4, c4⟩ := d
  obtain ⟨A1', n1', c1', A2', n2', c2', A3', n3', c3', A4', n4', c4'⟩ := d'
  simp only at hn1 hn2 hn3 hn4
  subst hn1 hn2 hn3 hn4
  have b1 := hp.b1
  have b2 := hp.b2
  have b3 := hp.b3
  have b4 := hp.b4
  simp only at b1 b2 b3 b4
  simp only [pcs]
  have HL3 := Lib.hid hp.rts.len
  have HL4 := Lib.hid hp.snds.len
  obtain ⟨hz2, hc2, hd2, hb2⟩ := two_new w (.cells #[.slice A1 n1' c1, .slice A2 n2' c2, .slice A3 n3' c3, .slice A4 n4' c4, .int .i64 p.vars, .int .i64 p.stack, .int .i64 p.blocks, .int .i64 p.fuel] 30) (.cells #[.slice A1' n1' c1', .slice A2' n2' c2', .slice A3' n3' c3', .slice A4' n4' c4', .int .i64 p.vars, .int .i64 p.stack, .int .i64 p.blocks, .int .i64 p.fuel] 30)
  have hz1 : (w.alloc (.cells #[.slice A1 n1' c1, .slice A2 n2' c2, .slice A3 n3' c3, .slice A4 n4' c4, .int .i64 p.vars, .int .i64 p.stack, .int .i64 p.blocks, .int .i64 p.fuel] 30)).heap.size = w.heap.size + 1 := by simp
  have HB := Lib.hid hb2
  have HC := Lib.hid hc2
  have HD := Lib.hid hd2
  have HP := Lib.hid (hp.below (hb2.mono hB))
  have HP' := Lib.hid (hp'.below (hb2.mono hB'))
  have HEQ := Lib.hid (fun W (h : RBB W B A2 n2' p.msgs) (h' : RBB W B' A2' n2' p.msgs) => Equals_any A2 A2' n2' n2' c2 c2' p.msgs p.msgs W B B' h h' b2 hs)
  have d1 : ((n1' : Int) != (n1' : Int)) = false := by simp
  have d3 : ((n3' : Int) != (n3' : Int)) = false := by simp
  have d4 : ((n4' : Int) != (n4' : Int)) = false := by simp
  have q4 : (p.vars == p.vars) = true := by simp
  have q5 : (p.stack == p.stack) = true := by simp
  have q6 : (p.blocks == p.blocks) = true := by simp
  have q7 : (p.fuel == p.fuel) = true := by simp
  clear hp hp' hb2 hc2 hd2
  go_enter Tryd.func13, Tryd.ntmps13
  go_wp2_with fail
  generalize (w.alloc (.cells #[.slice A1 n1' c1, .slice A2 n2' c2, .slice A3 n3' c3, .slice A4 n4' c4, .int .i64 p.vars, .int .i64 p.stack, .int .i64 p.blocks, .int .i64 p.fuel] 30)).alloc (.cells #[.slice A1' n1' c1', .slice A2' n2' c2', .slice A3' n3' c3', .slice A4' n4' c4', .int .i64 p.vars, .int .i64 p.stack, .int .i64 p.blocks, .int .i64 p.fuel] 30) = w2 at *
  refine (HEQ.out w2 HP.out.msgs HP'.out.msgs).mono ?_
  rintro e w3 ⟨rfl, q3, rfl⟩
  rw [show decide True = true from rfl]
  have HC1 := HC.out
  have HD1 := HD.out
  have HB3 := Lib.hid (below_drewN (Below.refl (w.heap.size + 2) w2) q3)
  go_wp2_with fail
  go_loopw [5] (fun i wr => ∃ k : Nat, k ≤ n1' ∧ i = .int .i64 (k : Int) ∧ Below (w.heap.size + 2) w2 wr) (fun i _ => n1' - (intOf i).toNat)
  case atStart => exact ⟨0, by omega, rfl, HB3.out⟩
  case round =>
    obtain ⟨k, hk, rfl, hb⟩ := hrel
    have HBr := Lib.hid hb
    have x0 : wr.cell? ⟨w.heap.size, 0, none⟩ = some (.slice A1 n1' c1) := by rw [hb.cell (p := ⟨w.heap.size, 0, none⟩) (by show w.heap.size < _; omega), blk_cell HC1]; rfl
    have y0 : wr.cell? ⟨w.heap.size + 1, 0, none⟩ = some (.slice A1' n1' c1') := by rw [hb.cell (p := ⟨w.heap.size + 1, 0, none⟩) (by show w.heap.size + 1 < _; omega), blk_cell HD1]; rfl
    by_cases hlt : k < n1'
    · obtain ⟨b, o, rfl, _, e0, e1, e2⟩ := ins_at (HP.out.code.below (hb.mono (by omega))) hlt
      obtain ⟨b', o', rfl, _, f0, f1, f2⟩ := ins_at (HP'.out.code.below (hb.mono (by omega))) hlt
      have hki : (k : Int) < (n1' : Int) := by omega
      generalize iat p.code k = st at *
      obtain ⟨op, a, bb⟩ := st
      simp only at e0 e1 e2 f0 f1 f2
      clear hb
      go_wp2_with fail
      go_quiet (fail)
      have HBq := Lib.hid (below_drewN HBr.out nq)
      go_wp2_with fail
      exact ⟨⟨k + 1, by omega, by go_num, HBq.out⟩, by simp [intOf]; omega⟩
    · obtain rfl : k = n1' := by omega
      have HBr := Lib.hid hb
      clear hb
      go_wp2_with fail
      go_loopw [6] (fun i wr => ∃ j : Nat, j ≤ n3' ∧ i = .int .i64 (j : Int) ∧ Below (w.heap.size + 2) w2 wr) (fun i _ => n3' - (intOf i).toNat)
      case atStart => exact ⟨0, by omega, rfl, HBr.out⟩
      case round =>
        obtain ⟨k, hk, rfl, hb⟩ := hrel
        have HBr := Lib.hid hb
        have x0 : wr.cell? ⟨w.heap.size, 2, none⟩ = some (.slice A3 n3' c3) := by rw [hb.cell (p := ⟨w.heap.size, 2, none⟩) (by show w.heap.size < _; omega), blk_cell HC1]; rfl
        have y0 : wr.cell? ⟨w.heap.size + 1, 2, none⟩ = some (.slice A3' n3' c3') := by rw [hb.cell (p := ⟨w.heap.size + 1, 2, none⟩) (by show w.heap.size + 1 < _; omega), blk_cell HD1]; rfl
        by_cases hlt : k < n3'
        · obtain ⟨ad, Ai, ni, ci, rfl, _, e0, _, hrr⟩ := (HP.out.rts.below (hb.mono (by omega))).at_ hlt
          obtain ⟨ad', Aj, nj, cj, rfl, _, f0, _, hrr'⟩ := (HP'.out.rts.below (hb.mono (by omega))).at_ hlt
          have hki : (k : Int) < (n3' : Int) := by omega
          have hni : ni ≤ 140737488355328 := by
            have := hrr.len
            rw [List.length_map] at this
            rw [← this]
            exact hr _ (rat_mem (by rw [HL3.out]; exact hlt))
          obtain rfl : nj = ni := by have a := hrr.len; have b := hrr'.len; omega
          have HRR := Lib.hid hrr
          have HRR' := Lib.hid hrr'
          clear hb hrr hrr'
          generalize rat p.rts k = ss at *
          go_wp2_with fail
          go_quiet ((go_at_call 36; exact EqPost.quiet0 (SameStops_eq Ai Aj nj ci cj ss _ B B' (HRR.out.below (below_drewN (Below.refl B wr) _)) (HRR'.out.below (below_drewN (Below.refl B' wr) _)) hni)))
          have HBq := Lib.hid (below_drewN HBr.out nq)
          go_wp2_with fail
          exact ⟨⟨k + 1, by omega, by go_num, HBq.out⟩, by simp [intOf]; omega⟩
        · obtain rfl : k = n3' := by omega
          clear hb
          go_wp2_with fail
          go_loopw [7] (fun i wr => ∃ j : Nat, j ≤ n4' ∧ i = .int .i64 (j : Int) ∧ Below (w.heap.size + 2) w2 wr) (fun i _ => n4' - (intOf i).toNat)
          case atStart => exact ⟨0, by omega, rfl, HBr.out⟩
          case round =>
            obtain ⟨k, hk, rfl, hb⟩ := hrel
            have HBr := Lib.hid hb
            have hsz := hb.size
            have x0 : wr.cell? ⟨w.heap.size, 3, none⟩ = some (.slice A4 n4' c4) := by rw [hb.cell (p := ⟨w.heap.size, 3, none⟩) (by show w.heap.size < _; omega), blk_cell HC1]; rfl
            have y0 : wr.cell? ⟨w.heap.size + 1, 3, none⟩ = some (.slice A4' n4' c4') := by rw [hb.cell (p := ⟨w.heap.size + 1, 3, none⟩) (by show w.heap.size + 1 < _; omega), blk_cell HD1]; rfl
            by_cases hlt : k < n4'
            · obtain ⟨b, o, Ai, ni, ci, rfl, hbb, e0, e1, e2, _, hrr⟩ := (HP.out.snds.below (hb.mono (by omega))).at_ hlt
              obtain ⟨b', o', Aj, nj, cj, rfl, hbb', f0, f1, f2, _, hrr'⟩ := (HP'.out.snds.below (hb.mono (by omega))).at_ hlt
              have hki : (k : Int) < (n4' : Int) := by omega
              obtain rfl : nj = ni := by have a := hrr.len; have b := hrr'.len; omega
              have hni : nj ≤ 140737488355328 := by
                have := hrr.len
                rw [← this]
                exact hq _ (dat_mem (by rw [HL4.out]; exact hlt))
              generalize dat p.snds k = sd at *
              obtain ⟨m, rts, bb⟩ := sd
              simp only at e0 e1 e2 f0 f1 f2 hrr hrr'
              have HSP := Lib.hid (SameSpec_eq m bb Ai Aj nj ci cj rts wr.drew B B' (hrr.below (below_drewN (Below.refl B wr) 1)) (hrr'.below (below_drewN (Below.refl B' wr) 1)) (by show B ≤ wr.heap.size; omega) (by show B' ≤ wr.heap.size; omega) hni)
              have HK := Lib.hid (show ∀ W' : World, Below wr.heap.size wr.drew W' → W'.cell? ⟨w.heap.size, 3, none⟩ = some (.slice (some ⟨b, o, none⟩) n4' c4) ∧ W'.cell? ⟨w.heap.size + 1, 3, none⟩ = some (.slice (some ⟨b', o', none⟩) n4' c4') ∧ W'.cell? ⟨b, o + k * 3, none⟩ = some (.int .i64 m) ∧ W'.cell? ⟨b, o + k * 3 + 1, none⟩ = some (.slice Ai nj ci) ∧ W'.cell? ⟨b, o + k * 3 + 2, none⟩ = some (.int .i64 bb) ∧ W'.cell? ⟨b', o' + k * 3, none⟩ = some (.int .i64 m) ∧ W'.cell? ⟨b', o' + k * 3 + 1, none⟩ = some (.slice Aj nj cj) ∧ W'.cell? ⟨b', o' + k * 3 + 2, none⟩ = some (.int .i64 bb) from fun W' h => ⟨(h.cell (p := ⟨w.heap.size, 3, none⟩) (by show w.heap.size < _; omega)).trans x0, (h.cell (p := ⟨w.heap.size + 1, 3, none⟩) (by show w.heap.size + 1 < _; omega)).trans y0, (h.cell (p := ⟨b, o + k * 3, none⟩) (by show b < _; omega)).trans e0, (h.cell (p := ⟨b, o + k * 3 + 1, none⟩) (by show b < _; omega)).trans e1, (h.cell (p := ⟨b, o + k * 3 + 2, none⟩) (by show b < _; omega)).trans e2, (h.cell (p := ⟨b', o' + k * 3, none⟩) (by show b' < _; omega)).trans f0, (h.cell (p := ⟨b', o' + k * 3 + 1, none⟩) (by show b' < _; omega)).trans f1, (h.cell (p := ⟨b', o' + k * 3 + 2, none⟩) (by show b' < _; omega)).trans f2⟩)
              clear hb hrr hrr'
              go_wp2_with fail
              go_region_held3 (fun W' => W'.cell? ⟨w.heap.size, 3, none⟩ = some (.slice (some ⟨b, o, none⟩) n4' c4) ∧ W'.cell? ⟨w.heap.size + 1, 3, none⟩ = some (.slice (some ⟨b', o', none⟩) n4' c4') ∧ W'.cell? ⟨b, o + k * 3, none⟩ = some (.int .i64 m) ∧ W'.cell? ⟨b, o + k * 3 + 1, none⟩ = some (.slice Ai nj ci) ∧ W'.cell? ⟨b, o + k * 3 + 2, none⟩ = some (.int .i64 bb) ∧ W'.cell? ⟨b', o' + k * 3, none⟩ = some (.int .i64 m) ∧ W'.cell? ⟨b', o' + k * 3 + 1, none⟩ = some (.slice Aj nj cj) ∧ W'.cell? ⟨b', o' + k * 3 + 2, none⟩ = some (.int .i64 bb)) (go_keep) ((go_at_call 38; refine HSP.out.mono ?_; rintro e w5 ⟨rfl, hb5⟩; obtain ⟨t0, t1, t2, t3, t4, t5, t6, t7⟩ := HK.out w5 hb5))
              have HB6 := Lib.hid (HBr.out.trans ((below_drewN (Below.refl (w.heap.size + 2) wr) 1).trans (Below.mono hb5 (show w.heap.size + 2 ≤ wr.heap.size by omega))))
              clear t0 t1 t2 t3 t4 t5 t6 t7 hb5
              go_wp2_with fail
              exact ⟨⟨k + 1, by omega, by go_num, HB6.out⟩, by simp [intOf]; omega⟩
            · obtain rfl : k = n4' := by omega
              have x4 : wr.cell? ⟨w.heap.size, 4, none⟩ = some (.int .i64 p.vars) := by rw [hb.cell (p := ⟨w.heap.size, 4, none⟩) (by show w.heap.size < _; omega), blk_cell HC1]; rfl
              have x5 : wr.cell? ⟨w.heap.size, 5, none⟩ = some (.int .i64 p.stack) := by rw [hb.cell (p := ⟨w.heap.size, 5, none⟩) (by show w.heap.size < _; omega), blk_cell HC1]; rfl
              have x6 : wr.cell? ⟨w.heap.size, 6, none⟩ = some (.int .i64 p.blocks) := by rw [hb.cell (p := ⟨w.heap.size, 6, none⟩) (by show w.heap.size < _; omega), blk_cell HC1]; rfl
              have x7 : wr.cell? ⟨w.heap.size, 7, none⟩ = some (.int .i64 p.fuel) := by rw [hb.cell (p := ⟨w.heap.size, 7, none⟩) (by show w.heap.size < _; omega), blk_cell HC1]; rfl
              have y4 : wr.cell? ⟨w.heap.size + 1, 4, none⟩ = some (.int .i64 p.vars) := by rw [hb.cell (p := ⟨w.heap.size + 1, 4, none⟩) (by show w.heap.size + 1 < _; omega), blk_cell HD1]; rfl
              have y5 : wr.cell? ⟨w.heap.size + 1, 5, none⟩ = some (.int .i64 p.stack) := by rw [hb.cell (p := ⟨w.heap.size + 1, 5, none⟩) (by show w.heap.size + 1 < _; omega), blk_cell HD1]; rfl
              have y6 : wr.cell? ⟨w.heap.size + 1, 6, none⟩ = some (.int .i64 p.blocks) := by rw [hb.cell (p := ⟨w.heap.size + 1, 6, none⟩) (by show w.heap.size + 1 < _; omega), blk_cell HD1]; rfl
              have y7 : wr.cell? ⟨w.heap.size + 1, 7, none⟩ = some (.int .i64 p.fuel) := by rw [hb.cell (p := ⟨w.heap.size + 1, 7, none⟩) (by show w.heap.size + 1 < _; omega), blk_cell HD1]; rfl
              clear hb
              go_wp2_with fail
              go_ret
              exact ⟨rfl, HB.out.trans (HBr.out.mono (by omega))⟩
end Go.Proofs.YtkmcjjoicpgjfaaDoor
