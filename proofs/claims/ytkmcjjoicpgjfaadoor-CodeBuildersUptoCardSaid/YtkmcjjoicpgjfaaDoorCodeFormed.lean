/-
  Contract of code.formed. Conditions: the numbers fit; the sizes that slices can have.
-/
import Derived.Test.YtkmcjjoicpgjfaaDoorCodeRouted
namespace Go.Proofs.YtkmcjjoicpgjfaaDoor
open Go Go.RowKit Go.Sh

/-- are all parts of a program in form, apart from amounts? -/
noncomputable def fmB (p : Prg) : Bool := p.code.all shB && p.msgs.all (fun m => decide (m.length ≤ 7200)) && p.rts.all rtB && p.snds.all sdB
theorem shaped_raw (op : UInt8) (a b : Int) (w : World) : Calls Tryd.prog 78 #[.agg #[.int .u8 (op.toNat : Int), .int .i64 a, .int .i64 b]] w (fun e w' => e = .returned (.bool (shB ⟨op, a, b⟩)) ∧ Below w.heap.size w w') := shaped_ins ⟨op, a, b⟩ w
theorem sendable_raw (m b : Int) (rts : List Int) (A : Option Addr) (n c : Nat) (w : World) (B : Nat) (hr : RI w B A n rts) (hB : B ≤ w.heap.size) :
    Calls Tryd.prog 80 #[.agg #[.int .i64 m, .slice A n c, .int .i64 b]] w (fun e w' => e = .returned (.bool (sdB ⟨m, rts, b⟩)) ∧ Below w.heap.size w w') := sendable_any ⟨m, rts, b⟩ A n c w B hr hB
theorem lat_eq {l : List (List UInt8)} {k : Nat} (h : k < l.length) : l[k]? = some (lat l k) := by
  unfold lat
  rw [List.getD_eq_getElem?_getD, List.getElem?_eq_getElem h, Option.getD_some]
/-- a loop over a list that asks f of each: behind one more element -/
theorem asked {α : Type} {f : α → Bool} {l : List α} {at_ : List α → Nat → α} (hat : ∀ {k : Nat}, k < l.length → l[k]? = some (at_ l k)) {k : Nat} (hk : k < l.length) (hall : ∀ j, j < k → f (at_ l j) = true) :
    (f (at_ l k) = true → ∀ j, j < k + 1 → f (at_ l j) = true) ∧ (f (at_ l k) = false → l.all f = false) := by
  refine ⟨fun e j hj => ?_, fun e => all_not (hat hk) e⟩
  by_cases hjk : j = k
  · subst hjk; exact e
  · exact hall j (by omega)
theorem asked_all {α : Type} {f : α → Bool} {l : List α} {at_ : List α → Nat → α} (hat : ∀ {k : Nat}, k < l.length → l[k]? = some (at_ l k)) (hall : ∀ j, j < l.length → f (at_ l j) = true) : l.all f = true :=
  all_upto fun j x hj hx => by
    rw [hat hj] at hx
    rw [← Option.some.inj hx]
    exact hall j hj

set_option maxRecDepth 100000 in
set_option maxHeartbeats 8000000 in
theorem formed_any (d : Pad) (p : Prg) (w : World) (B : Nat) (hp : PR w B d p) (hB : B ≤ w.heap.size) :
    Calls Tryd.prog 68 #[.agg (pcs d p)] w (fun e w' => e = .returned (.bool (fmB p)) ∧ Below w.heap.size w w') := by
  have HS := Lib.hid (show fmB p = (p.code.all shB && p.msgs.all (fun m => decide (m.length ≤ 7200)) && p.rts.all rtB && p.snds.all sdB) from rfl)
  have hb1 := (Below.refl w.heap.size w).alloc (Nat.le_refl _) (.cells (pcs d p) 30)
  have HB := Lib.hid hb1
  have HPR := Lib.hid (hp.below (hb1.mono hB))
  have HC := Lib.hid (show ∀ (k : Nat) v, (pcs d p)[k]? = some v → (w.alloc (.cells (pcs d p) 30)).cell? ⟨w.heap.size, k, none⟩ = some v from fun k v hv => by rw [blk_cell (heap_alloc_new w _)]; exact hv)
  have hc0 := HC.out 0 (.slice d.A1 d.n1 d.c1) rfl
  have HC1 := Lib.hid (HC.out 1 (.slice d.A2 d.n2 d.c2) rfl)
  have HC2 := Lib.hid (HC.out 2 (.slice d.A3 d.n3 d.c3) rfl)
  have HC3 := Lib.hid (HC.out 3 (.slice d.A4 d.n4 d.c4) rfl)
  have hps : (pcs d p).size = 8 := rfl
  have hz1 : (w.alloc (.cells (pcs d p) 30)).heap.size = w.heap.size + 1 := by simp
  generalize fmB p = r at *
  clear hp HC hb1
  obtain ⟨A1, n1, k1, A2, n2, k2, A3, n3, k3, A4, n4, k4⟩ := d
  obtain ⟨code, msgs, rts, snds, v, s, b, f⟩ := p
  generalize hX : pcs _ _ = X at *
  have hxe : ¬ X = #[] := by intro h; rw [h] at hps; cases hps
  clear hX
  simp only at hc0 HC1 HC2 HC3 HS
  have HL1 := Lib.hid (show code.length = n1 by have := HPR.out.code.len; rw [List.length_map] at this; exact this)
  have HL2 := Lib.hid (show msgs.length = n2 from HPR.out.msgs.len)
  have HL3 := Lib.hid (show rts.length = n3 from HPR.out.rts.len)
  have HL4 := Lib.hid (show snds.length = n4 from HPR.out.snds.len)
  have hn1 : n1 ≤ 140737488355328 := HPR.out.b1
  have hn2 : n2 ≤ 140737488355328 := HPR.out.b2
  have hn3 : n3 ≤ 140737488355328 := HPR.out.b3
  have hn4 : n4 ≤ 140737488355328 := HPR.out.b4
  have HR1 := Lib.hid (show RR _ B 3 A1 n1 (code.map Ins.cells) from HPR.out.code)
  have HR2 := Lib.hid (show RBB _ B A2 n2 msgs from HPR.out.msgs)
  have HR3 := Lib.hid (show RRt _ B A3 n3 rts from HPR.out.rts)
  have HR4 := Lib.hid (show RSn _ B A4 n4 snds from HPR.out.snds)
  clear HPR
  go_enter Tryd.func68, Tryd.ntmps68
  go_wp2_with fail
  clear hc0
  generalize w.alloc (.cells X 30) = w1 at *
  generalize hg : w.heap.size = g at *
  have HG := Lib.hid hg
  clear hg
  go_loopw [4, 14] (fun _ i wr => ∃ k : Nat, k ≤ n1 ∧ i = .int .i64 (k : Int) ∧ Below (g + 1) w1 wr ∧ ∀ j, j < k → shB (iat code j) = true) (fun _ i _ => n1 - (intOf i).toNat)
  case atStart => exact ⟨0, by omega, rfl, Below.refl _ _, fun j hj => absurd hj (by omega)⟩
  case round =>
    obtain ⟨k, hk, rfl, hb, hall⟩ := hrel
    have HA := Lib.hid hall
    have HBr := Lib.hid hb
    have hz := hb.size
    clear hall hb
    by_cases hlt : k < n1
    · have dk : (k : Int) < (n1 : Int) := by omega
      obtain ⟨b, off, rfl, _, c0, c1, c2⟩ := ins_at (HR1.out.below (HBr.out.mono (by omega))) hlt
      have HSY := Lib.hid (asked (f := shB) (at_ := iat) (fun {k} h => iat_eq h) (by rw [HL1.out]; exact hlt) HA.out)
      generalize iat code k = st at *
      obtain ⟨op, a, bb⟩ := st
      simp only at c0 c1 c2
      go_wp2_with fail
      have hb1 := (Below.refl wr.heap.size wr).alloc (Nat.le_refl _) (.cells #[.int .u8 (op.toNat : Int), .int .i64 a, .int .i64 bb] 33)
      have HB1 := Lib.hid (HBr.out.trans (hb1.mono (by omega)))
      have hzz : (wr.alloc (.cells #[.int .u8 (op.toNat : Int), .int .i64 a, .int .i64 bb] 33)).heap.size = wr.heap.size + 1 := by simp
      clear hb1 c0 c1 c2
      generalize wr.alloc (.cells #[.int .u8 (op.toNat : Int), .int .i64 a, .int .i64 bb] 33) = wa at *
      refine (shaped_raw op a bb wa).mono ?_
      rintro e wb ⟨rfl, hbb⟩
      have HBB := Lib.hid (HB1.out.trans (hbb.mono (by omega)))
      clear hbb HB1
      rcases Bool.eq_false_or_eq_true (shB ⟨op, a, bb⟩) with h | h
      · have HGG := Lib.hid (HSY.out.1 h)
        rw [h]
        clear h HSY
        go_wp2_with fail
        refine ⟨⟨k + 1, by omega, by go_num, HBB.out, HGG.out⟩, by simp [intOf]; omega⟩
      · have hr := HS.out
        rw [HSY.out.2 h] at hr
        rw [h]
        clear h HSY
        go_wp2_with fail
        go_ret
        exact ⟨by first | rfl | (rw [hr]; rfl), by rw [HG.out]; exact HB.out.trans (HBB.out.mono (by omega))⟩
    · obtain rfl : k = n1 := by omega
      have hr := HS.out
      rw [asked_all (f := shB) (at_ := iat) (fun {k} h => iat_eq h) (by rw [HL1.out]; exact HA.out), Bool.true_and] at hr
      have HRR := Lib.hid hr
      have hc1 := (HBr.out.cell (p := ⟨g, 1, none⟩) (Nat.lt_succ_self _)).trans HC1.out
      clear hr HS HA
      go_wp2_with fail
      go_loopw [6, 25] (fun _ i wx => ∃ q : Nat, q ≤ n2 ∧ i = .int .i64 (q : Int) ∧ Below (g + 1) w1 wx ∧ ∀ j, j < q → (fun m => decide (List.length m ≤ 7200)) (lat msgs j) = true) (fun _ i _ => n2 - (intOf i).toNat)
      case atStart => exact ⟨0, by omega, rfl, HBr.out, fun j hj => absurd hj (by omega)⟩
      case round =>
        obtain ⟨q, hkq, rfl, hb, hall⟩ := hrel
        have HAq := Lib.hid hall
        have HBq := Lib.hid hb
        have hzq := hb.size
        clear hall hb
        by_cases hltq : q < n2
        · have dkq : (q : Int) < (n2 : Int) := by omega
          have HSY := Lib.hid (asked (f := (fun m => decide (List.length m ≤ 7200))) (at_ := lat) (fun {_} h => lat_eq h) (by rw [HL2.out]; exact hltq) HAq.out)
          obtain ⟨ad, Ai, ni, ci, rfl, _, c0, _, hrb⟩ := (HR2.out.below (HBq.out.mono (by omega))).at_ hltq
          have hln := hrb.len
          rw [hln] at HSY
          clear hrb hln
          by_cases h72 : ni ≤ 7200
          · have HGG := Lib.hid (HSY.out.1 (decide_eq_true h72))
            have d72 : ¬ (7200 : Int) < (ni : Int) := by omega
            clear HSY
            go_wp2_with fail
            refine ⟨⟨q + 1, by omega, by go_num, HBq.out, HGG.out⟩, by simp [intOf]; omega⟩
          · have hr := HRR.out
            rw [HSY.out.2 (decide_eq_false h72)] at hr
            have d72 : (7200 : Int) < (ni : Int) := by omega
            clear HSY
            go_wp2_with fail
            go_ret
            exact ⟨by first | rfl | (rw [hr]; rfl), by rw [HG.out]; exact HB.out.trans (HBq.out.mono (by omega))⟩
        · obtain rfl : q = n2 := by omega
          have hr := HRR.out
          rw [asked_all (f := (fun m => decide (List.length m ≤ 7200))) (at_ := lat) (fun {_} h => lat_eq h) (by rw [HL2.out]; exact HAq.out)] at hr
          rw [Bool.true_and] at hr
          have HRR := Lib.hid hr
          have hc2 := (HBq.out.cell (p := ⟨g, 2, none⟩) (Nat.lt_succ_self _)).trans HC2.out
          clear hr HAq hc1
          go_wp2_with fail
          go_loopw [8, 36] (fun _ i wx => ∃ u : Nat, u ≤ n3 ∧ i = .int .i64 (u : Int) ∧ Below (g + 1) w1 wx ∧ ∀ j, j < u → rtB (rat rts j) = true) (fun _ i _ => n3 - (intOf i).toNat)
          case atStart => exact ⟨0, by omega, rfl, HBq.out, fun j hj => absurd hj (by omega)⟩
          case round =>
            obtain ⟨u, hku, rfl, hb, hall⟩ := hrel
            have HAu := Lib.hid hall
            have HBu := Lib.hid hb
            have hzu := hb.size
            clear hall hb
            by_cases hltu : u < n3
            · have dku : (u : Int) < (n3 : Int) := by omega
              have HSY := Lib.hid (asked (f := rtB) (at_ := rat) (fun {_} h => rat_eq h) (by rw [HL3.out]; exact hltu) HAu.out)
              obtain ⟨ad, Ai, ni, ci, rfl, _, c0, _, hrr⟩ := (HR3.out.below (HBu.out.mono (by omega))).at_ hltu
              have HRR3 := Lib.hid hrr
              clear hrr
              go_wp2_with fail
              refine (routed_any (rat rts u) Ai ni ci _ B HRR3.out (by omega)).mono ?_
              rintro e wb ⟨rfl, hbb⟩
              have HBB := Lib.hid (HBu.out.trans (hbb.mono (by omega)))
              clear hbb
              rcases Bool.eq_false_or_eq_true (rtB (rat rts u)) with h | h
              · have HGG := Lib.hid (HSY.out.1 h)
                rw [h]
                clear h HSY
                go_wp2_with fail
                refine ⟨⟨u + 1, by omega, by go_num, HBB.out, HGG.out⟩, by simp [intOf]; omega⟩
              · have hr := HRR.out
                rw [HSY.out.2 h] at hr
                rw [h]
                clear h HSY
                go_wp2_with fail
                go_ret
                exact ⟨by first | rfl | (rw [hr]; rfl) | (rw [hr]; simp), by rw [HG.out]; exact HB.out.trans (HBB.out.mono (by omega))⟩
            · obtain rfl : u = n3 := by omega
              have hr := HRR.out
              rw [asked_all (f := rtB) (at_ := rat) (fun {_} h => rat_eq h) (by rw [HL3.out]; exact HAu.out)] at hr
              rw [Bool.true_and] at hr
              have HRR := Lib.hid hr
              have hc3 := (HBu.out.cell (p := ⟨g, 3, none⟩) (Nat.lt_succ_self _)).trans HC3.out
              clear hr HAu hc2
              go_wp2_with fail
              go_loopw [10, 47] (fun _ i wx => ∃ ee : Nat, ee ≤ n4 ∧ i = .int .i64 (ee : Int) ∧ Below (g + 1) w1 wx ∧ ∀ j, j < ee → sdB (dat snds j) = true) (fun _ i _ => n4 - (intOf i).toNat)
              case atStart => exact ⟨0, by omega, rfl, HBu.out, fun j hj => absurd hj (by omega)⟩
              case round =>
                obtain ⟨ee, hke, rfl, hb, hall⟩ := hrel
                have HAe := Lib.hid hall
                have HBe := Lib.hid hb
                have hze := hb.size
                clear hall hb
                by_cases hlte : ee < n4
                · have dke : (ee : Int) < (n4 : Int) := by omega
                  have HSY := Lib.hid (asked (f := sdB) (at_ := dat) (fun {_} h => dat_eq h) (by rw [HL4.out]; exact hlte) HAe.out)
                  obtain ⟨b, off, Ai, ni, ci, rfl, _, c0, c1, c2, _, hri⟩ := (HR4.out.below (HBe.out.mono (by omega))).at_ hlte
                  have HRI := Lib.hid hri
                  clear hri
                  generalize dat snds ee = st at *
                  obtain ⟨mm, rr, bb⟩ := st
                  simp only at c0 c1 c2 HRI
                  go_wp2_with fail
                  have hb1 := (Below.refl wr.heap.size wr).alloc (Nat.le_refl _) (.cells #[.int .i64 mm, .slice Ai ni ci, .int .i64 bb] 43)
                  have HB1 := Lib.hid (HBe.out.trans (hb1.mono (by omega)))
                  have HRI1 := Lib.hid (HRI.out.alloc (by omega) (.cells #[.int .i64 mm, .slice Ai ni ci, .int .i64 bb] 43))
                  have hzz : (wr.alloc (.cells #[.int .i64 mm, .slice Ai ni ci, .int .i64 bb] 43)).heap.size = wr.heap.size + 1 := by simp
                  clear hb1 c0 c1 c2 HRI
                  generalize wr.alloc (.cells #[.int .i64 mm, .slice Ai ni ci, .int .i64 bb] 43) = wa at *
                  refine (sendable_raw mm bb rr Ai ni ci wa B HRI1.out (by omega)).mono ?_
                  rintro e wb ⟨rfl, hbb⟩
                  have HBB := Lib.hid (HB1.out.trans (hbb.mono (by omega)))
                  clear hbb HB1
                  rcases Bool.eq_false_or_eq_true (sdB ⟨mm, rr, bb⟩) with h | h
                  · have HGG := Lib.hid (HSY.out.1 h)
                    rw [h]
                    clear h HSY
                    go_wp2_with fail
                    refine ⟨⟨ee + 1, by omega, by go_num, HBB.out, HGG.out⟩, by simp [intOf]; omega⟩
                  · have hr := HRR.out
                    rw [HSY.out.2 h] at hr
                    rw [h]
                    clear h HSY
                    go_wp2_with fail
                    go_ret
                    exact ⟨by first | rfl | (rw [hr]; rfl) | (rw [hr]; simp), by rw [HG.out]; exact HB.out.trans (HBB.out.mono (by omega))⟩
                · obtain rfl : ee = n4 := by omega
                  have hr := HRR.out
                  rw [asked_all (f := sdB) (at_ := dat) (fun {_} h => dat_eq h) (by rw [HL4.out]; exact HAe.out)] at hr
                  go_wp2_with fail
                  go_ret
                  exact ⟨by first | rfl | (rw [hr]; rfl), by rw [HG.out]; exact HB.out.trans (HBe.out.mono (by omega))⟩
end Go.Proofs.YtkmcjjoicpgjfaaDoor
