/-
  Contract of shallotref18.Check: a program's form, the same as code.Check tells. Conditions: the sizes that slices can have.
-/
import Derived.Test.YtkmcjjoicpgjfaaDoorDirName
import Derived.Test.YtkmcjjoicpgjfaaDoorCodeCheck
import Derived.Test.YtkmcjjoicpgjfaaDoorCodeLine
/-
  Contract of shallotref09.Named: a name in form, in plain words. No conditions but the size of the string.
-/
namespace Go.Proofs.YtkmcjjoicpgjfaaDoor
open Go Go.RowKit Go.Sh
open Classical

set_option maxRecDepth 100000 in
set_option maxHeartbeats 2000000 in
theorem RefNamed_any (s : ByteArray) (w : World) :
    Calls Tryd.prog 74 #[.string s] w (fun e w' => e = .returned (.bool (decide (wfN s))) ∧ w = w') := by
  by_cases h1 : s.size < 1
  · have HI := Lib.hid (show decide (wfN s) = false by rw [decide_eq_false_iff_not]; rintro ⟨h, _⟩; omega)
    rw [HI.out]
    have i1 : (s.size : Int) < 1 := by omega
    go_enter Tryd.func74, Tryd.ntmps74
    go_wp2_with fail
    go_ret
    exact ⟨rfl, rfl⟩
  by_cases h2 : 16 < s.size
  · have HI := Lib.hid (show decide (wfN s) = false by rw [decide_eq_false_iff_not]; rintro ⟨_, h, _⟩; omega)
    rw [HI.out]
    have i1 : ¬ (s.size : Int) < 1 := by omega
    have i2 : (16 : Int) < (s.size : Int) := by omega
    go_enter Tryd.func74, Tryd.ntmps74
    go_wp2_with fail
    go_ret
    exact ⟨rfl, rfl⟩
  have HI := Lib.hid (show decide (wfN s) = decide (∀ k, k < s.size → nokAt s k) by simp only [wfN, show 1 ≤ s.size by omega, show s.size ≤ 16 by omega, true_and])
  have HIX := Lib.hid (index_name s)
  generalize decide (wfN s) = b at *
  have i1 : ¬ (s.size : Int) < 1 := by omega
  have i2 : ¬ (16 : Int) < (s.size : Int) := by omega
  go_enter Tryd.func74, Tryd.ntmps74
  go_wp2_with fail
  go_loopw [3, 4, 5] (fun i _ _ wr => ∃ k : Nat, k ≤ s.size ∧ i = .int .i64 (k : Int) ∧ wr = w ∧ ∀ j, j < k → nokAt s j) (fun i _ _ _ => s.size - (intOf i).toNat)
  case atStart => exact ⟨0, by omega, rfl, rfl, fun j hj => absurd hj (by omega)⟩
  case round =>
    obtain ⟨k, hk, rfl, rfl, hall⟩ := hrel
    have HA := Lib.hid hall
    clear hall
    by_cases hlt : k < s.size
    · have hix := HIX.out k hlt
      obtain ⟨x, hx⟩ : ∃ x, (nby s k).toNat = x := ⟨_, rfl⟩
      have HOK := Lib.hid (show nokAt s k ↔ ((97 ≤ x ∧ x ≤ 122) ∨ ((48 ≤ x ∧ x ≤ 57) ∧ 0 < k)) by rw [← hx]; exact Iff.rfl)
      rw [hx] at hix
      clear hx
      by_cases hok : nokAt s k
      · have HKK := Lib.hid hok
        have hok' := HOK.out.1 hok
        have HALL := Lib.hid (show ∀ j, j < k + 1 → nokAt s j from fun j hj => by
          by_cases hjk : j < k
          · exact HA.out j hjk
          · obtain rfl : j = k := by omega
            exact HKK.out)
        clear hok
        by_cases a1 : 97 ≤ x
        · by_cases a2 : x ≤ 122
          · clear hok'
            have b1 : (97 : Int) ≤ (x : Int) := by omega
            have b2 : (x : Int) ≤ 122 := by omega
            have b3 : (48 : Int) ≤ (x : Int) := by omega
            have b4 : ¬ (x : Int) ≤ 57 := by omega
            go_wp2_with fail
            exact ⟨⟨k + 1, by omega, by go_num, by first | rfl | trivial, HALL.out⟩, by simp [intOf]; omega⟩
          · exact absurd hok' (by omega)
        · have c1 : 48 ≤ x := by omega
          have c2 : x ≤ 57 := by omega
          have c3 : ((k : Int) == 0) = false := by rw [beq_eq_false_iff_ne]; omega
          clear hok'
          have b1 : ¬ (97 : Int) ≤ (x : Int) := by omega
          have b3 : (48 : Int) ≤ (x : Int) := by omega
          have b4 : (x : Int) ≤ 57 := by omega
          go_wp2_with fail
          exact ⟨⟨k + 1, by omega, by go_num, by first | rfl | trivial, HALL.out⟩, by simp [intOf]; omega⟩
      · have HBF := Lib.hid (show b = false by rw [HI.out, decide_eq_false_iff_not]; intro h; exact hok (h k hlt))
        have hok' : ¬ ((97 ≤ x ∧ x ≤ 122) ∨ ((48 ≤ x ∧ x ≤ 57) ∧ 0 < k)) := fun h => hok (HOK.out.2 h)
        clear hok
        by_cases a1 : 97 ≤ x
        · have b1 : (97 : Int) ≤ (x : Int) := by omega
          have b2 : ¬ (x : Int) ≤ 122 := by omega
          have b3 : (48 : Int) ≤ (x : Int) := by omega
          have b4 : ¬ (x : Int) ≤ 57 := by omega
          clear hok'
          go_wp2_with fail
          all_goals
            go_ret
            exact ⟨by rw [HBF.out]; first | done | rfl, rfl⟩
        · have b1 : ¬ (97 : Int) ≤ (x : Int) := by omega
          by_cases a3 : 48 ≤ x
          · have b3 : (48 : Int) ≤ (x : Int) := by omega
            by_cases a4 : x ≤ 57
            · have b4 : (x : Int) ≤ 57 := by omega
              have b5 : ((k : Int) == 0) = true := by rw [beq_iff_eq]; omega
              clear hok'
              go_wp2_with fail
              all_goals
                go_ret
                exact ⟨by rw [HBF.out]; first | done | rfl, rfl⟩
            · have b4 : ¬ (x : Int) ≤ 57 := by omega
              clear hok'
              go_wp2_with fail
              all_goals
                go_ret
                exact ⟨by rw [HBF.out]; first | done | rfl, rfl⟩
          · have b3 : ¬ (48 : Int) ≤ (x : Int) := by omega
            clear hok'
            go_wp2_with fail
            all_goals
              go_ret
              exact ⟨by rw [HBF.out]; first | done | rfl, rfl⟩
    · obtain rfl : k = s.size := by omega
      have HBT := Lib.hid (show b = true by rw [HI.out, decide_eq_true_iff]; exact HA.out)
      go_wp2_with fail
      go_ret
      exact ⟨by rw [HBT.out]; first | done | rfl, rfl⟩
end Go.Proofs.YtkmcjjoicpgjfaaDoor
namespace Go.Proofs.YtkmcjjoicpgjfaaDoor
open Go Go.RowKit Go.Sh

theorem it_eq {l : List Int} {k : Nat} (h : k < l.length) : l[k]? = some (it l k) := by
  unfold it
  rw [List.getD_eq_getElem?_getD, List.getElem?_eq_getElem h, Option.getD_some]
theorem sh_n0 {o : UInt8} {a b : Int} (ho : o.toNat ≤ 16) (h : rusN o.toNat = 0) : shB ⟨o, a, b⟩ = true ↔ a = 0 ∧ b = 0 := by
  have hu := (rus_us ho).1.1 h
  unfold shB
  simp [hu]
theorem sh_n2 {o : UInt8} {a b : Int} (ho : o.toNat ≤ 16) (h : rusN o.toNat = 2) : shB ⟨o, a, b⟩ = true ↔ (0 ≤ a ∧ a ≤ 65535) ∧ 0 ≤ b ∧ b ≤ 65535 := by
  have hu := (rus_us ho).2.1.1 h
  unfold shB wi
  simp [hu]
theorem us_one {o : Nat} (ho : o ≤ 16) (h : rusN o = 1) : if o = 1 then usN o = 1 else usN o = 2 := by
  rcases u8_cases ho with rfl | rfl | rfl | rfl | rfl | rfl | rfl | rfl | rfl | rfl | rfl | rfl | rfl | rfl | rfl | rfl | rfl <;> first | (exfalso; revert h; decide) | decide
theorem sh_n1 {o : UInt8} {a b : Int} (ho : o.toNat ≤ 16) (h : rusN o.toNat = 1) (h1 : o.toNat ≠ 1) : shB ⟨o, a, b⟩ = true ↔ (0 ≤ a ∧ a ≤ 65535) ∧ b = 0 := by
  have hu := us_one ho h
  rw [if_neg h1] at hu
  unfold shB wi
  simp [hu]
theorem sh_p {o : UInt8} {a b : Int} (h1 : o.toNat = 1) : shB ⟨o, a, b⟩ = true ↔ (-2147483648 ≤ a ∧ a ≤ 2147483647) ∧ b = 0 := by
  have hu : usN o.toNat = 1 := by rw [h1]; rfl
  unfold shB wi
  simp [hu]
theorem rus_le {o : Nat} (ho : o ≤ 16) : rusN o = 0 ∨ rusN o = 1 ∨ rusN o = 2 := by have := (rus_us ho).2.2.1; omega
set_option maxRecDepth 100000 in
set_option maxHeartbeats 16000000 in
theorem RefCheck_any (d : Pad) (p : Prg) (w : World) (B : Nat) (hp : PR w B d p) (hB : B ≤ w.heap.size) :
    Calls Tryd.prog 50 #[.agg (pcs d p)] w (fun e w' => e = .returned (.int .i64 (ckP p)) ∧ Below w.heap.size w w') := by
  have HS := Lib.hid (show ckP p = if p.code.all (fun i => usB i.op.toNat) = false then 1 else if fmB p = false then 3 else if bdB p = false then 11 else 0 from rfl)
  have HFM := Lib.hid (show fmB p = (p.code.all shB && p.msgs.all (fun m => decide (m.length ≤ 7200)) && p.rts.all rtB && p.snds.all sdB) from rfl)
  have HBD := Lib.hid (show bdB p = (decide (p.code.length ≤ 4000) && decide (p.msgs.length ≤ 64) && decide (p.rts.length ≤ 64) && decide (p.snds.length ≤ 64) && wi p.vars 0 64 && wi p.stack 0 64 && wi p.blocks 0 16 && wi p.fuel 0 1000000) from rfl)
  have hb1 := (Below.refl w.heap.size w).alloc (Nat.le_refl _) (.cells (pcs d p) 30)
  have HB := Lib.hid hb1
  have HPR := Lib.hid (hp.below (hb1.mono hB))
  have HBX := Lib.hid (show (w.alloc (.cells (pcs d p) 30)).heap[w.heap.size]? = some (.cells #[.slice d.A1 d.n1 d.c1, .slice d.A2 d.n2 d.c2, .slice d.A3 d.n3 d.c3, .slice d.A4 d.n4 d.c4, .int .i64 p.vars, .int .i64 p.stack, .int .i64 p.blocks, .int .i64 p.fuel] 30 (0, 0)) from heap_alloc_new w _)
  have hps : (pcs d p).size = 8 := rfl
  have hz1 : (w.alloc (.cells (pcs d p) 30)).heap.size = w.heap.size + 1 := by simp
  have HL1 := Lib.hid (show p.code.length = d.n1 by have := hp.code.len; rw [List.length_map] at this; exact this)
  have HL2 := Lib.hid (show p.msgs.length = d.n2 from hp.msgs.len)
  have HL3 := Lib.hid (show p.rts.length = d.n3 from hp.rts.len)
  have HL4 := Lib.hid (show p.snds.length = d.n4 from hp.snds.len)
  have hn1 : d.n1 ≤ 140737488355328 := hp.b1
  have hn2 : d.n2 ≤ 140737488355328 := hp.b2
  have hn3 : d.n3 ≤ 140737488355328 := hp.b3
  have hn4 : d.n4 ≤ 140737488355328 := hp.b4
  generalize ckP p = r at *
  clear hp hb1
  obtain ⟨X, hX⟩ : ∃ X, pcs d p = X := ⟨_, rfl⟩
  rw [hX] at HB HPR HBX hps hz1 ⊢
  have hxe : ¬ X = #[] := by intro h; rw [h] at hps; cases hps
  clear hX
  go_enter Tryd.func50, Tryd.ntmps50
  go_wp2_with fail
  generalize w.alloc (.cells X 30) = w1 at *
  generalize hg : w.heap.size = g at *
  have HG := Lib.hid hg
  have HFR := Lib.hid (fun (W : World) (h : Below (g + 1) w1 W) (i : Nat) (v : Value) (hv : (#[.slice d.A1 d.n1 d.c1, .slice d.A2 d.n2 d.c2, .slice d.A3 d.n3 d.c3, .slice d.A4 d.n4 d.c4, .int .i64 p.vars, .int .i64 p.stack, .int .i64 p.blocks, .int .i64 p.fuel] : Array Value)[i]? = some v) => show W.cell? ⟨g, i, none⟩ = some v by rw [blk_cell ((h.block g (Nat.lt_succ_self _)).trans HBX.out)]; exact hv)
  have HRT := Lib.hid (fun (W : World) (h : Below (g + 1) w1 W) => (by rw [HG.out]; exact HB.out.trans (h.mono (Nat.le_succ _)) : Below w.heap.size w W))
  clear hg HB HBX
  go_loopw [3] (fun i wr => ∃ k : Nat, k ≤ d.n1 ∧ i = .int .i64 (k : Int) ∧ Below (g + 1) w1 wr ∧ ∀ j, j < k → (fun i : Ins => usB i.op.toNat) (iat p.code j) = true) (fun i _ => d.n1 - (intOf i).toNat)
  case atStart => exact ⟨0, by omega, rfl, Below.refl _ _, fun j hj => absurd hj (by omega)⟩
  case round =>
    obtain ⟨k, hk, rfl, hb, hall⟩ := hrel
    have HA := Lib.hid hall
    have HW := Lib.hid hb
    have hz := hb.size
    have p0 := HFR.out wr hb 0 _ rfl
    clear hall hb
    by_cases hlt : k < d.n1
    · have dk : (k : Int) < (d.n1 : Int) := by omega
      obtain ⟨b, off, hA1, _, c0, c1, c2⟩ := ins_at (HPR.out.code.below (HW.out.mono (by omega))) hlt
      have HSY := Lib.hid (asked (f := fun i : Ins => usB i.op.toNat) (at_ := iat) (fun {_} h => iat_eq h) (by rw [HL1.out]; exact hlt) HA.out)
      generalize iat p.code k = st at *
      obtain ⟨op, a, bb⟩ := st
      simp only at c0 c1 c2
      rw [hA1] at p0
      clear hA1
      by_cases ho : op.toNat ≤ 16
      · have HGG := Lib.hid (HSY.out.1 (decide_eq_true ho))
        have do_ : ¬ (16 : Int) < (op.toNat : Int) := by omega
        generalize op.toNat = o at *
        clear HSY c1 c2
        go_wp2_with fail
        exact ⟨⟨k + 1, by omega, by go_num, HW.out, HGG.out⟩, by simp [intOf]; omega⟩
      · have hr := HS.out
        rw [if_pos (HSY.out.2 (decide_eq_false ho))] at hr
        have do_ : (16 : Int) < (op.toNat : Int) := by omega
        have HR := Lib.hid hr
        generalize op.toNat = o at *
        clear HSY hr c1 c2
        go_wp2_with fail
        go_ret
        have hr := HR.out
        exact ⟨by first | rfl | (rw [hr]; rfl) | (rw [hr]), HRT.out _ HW.out⟩
    · obtain rfl : k = d.n1 := by omega
      have HUS := Lib.hid (asked_all (f := fun i : Ins => usB i.op.toNat) (at_ := iat) (fun {_} h => iat_eq h) (by rw [HL1.out]; exact HA.out))
      have hr := HS.out
      rw [if_neg (by rw [HUS.out]; decide)] at hr
      have HS1 := Lib.hid hr
      clear hr HS HA
      go_wp2_with fail
      clear p0
      go_loopw [4, 5, 6, 7, 8] (fun i _ _ _ _ wr => ∃ k : Nat, k ≤ d.n1 ∧ i = .int .i64 (k : Int) ∧ Below (g + 1) w1 wr ∧ ∀ j, j < k → shB (iat p.code j) = true) (fun i _ _ _ _ _ => d.n1 - (intOf i).toNat)
      case atStart => exact ⟨0, by omega, rfl, HW.out, fun j hj => absurd hj (by omega)⟩
      case round =>
        clear HW
        obtain ⟨k, hk, rfl, hb, hall⟩ := hrel
        have HA := Lib.hid hall
        have HW := Lib.hid hb
        have hz := hb.size
        have p0 := HFR.out wr hb 0 _ rfl
        clear hall hb
        by_cases hlt : k < d.n1
        · have dk : (k : Int) < (d.n1 : Int) := by omega
          as_aux_lemma =>
            obtain ⟨b, off, hA1, _, c0, c1, c2⟩ := ins_at (HPR.out.code.below (HW.out.mono (by omega))) hlt
            have HSY := Lib.hid (asked (f := shB) (at_ := iat) (fun {_} h => iat_eq h) (by rw [HL1.out]; exact hlt) HA.out)
            have HOP := Lib.hid (show (iat p.code k).op.toNat ≤ 16 by have := all_at HUS.out (iat_eq (l := p.code) (k := k) (by rw [HL1.out]; exact hlt)); unfold usB at this; rw [decide_eq_true_eq] at this; exact this)
            generalize iat p.code k = st at *
            obtain ⟨op, a, bb⟩ := st
            simp only at c0 c1 c2 HOP
            rw [hA1] at p0
            clear hA1
            have hba := (Below.refl wr.heap.size wr).alloc (Nat.le_refl _) (.cells #[.int .u8 (op.toNat : Int), .int .i64 a, .int .i64 bb] 33)
            have HWa := Lib.hid (HW.out.trans (hba.mono (by omega)))
            have hq := heap_alloc_new wr (.cells #[.int .u8 (op.toNat : Int), .int .i64 a, .int .i64 bb] 33)
            have q0 : (wr.alloc (.cells #[.int .u8 (op.toNat : Int), .int .i64 a, .int .i64 bb] 33)).cell? ⟨wr.heap.size, 0, none⟩ = some (.int .u8 (op.toNat : Int)) := by rw [blk_cell hq]; rfl
            have q1 : (wr.alloc (.cells #[.int .u8 (op.toNat : Int), .int .i64 a, .int .i64 bb] 33)).cell? ⟨wr.heap.size, 1, none⟩ = some (.int .i64 a) := by rw [blk_cell hq]; rfl
            have q2 : (wr.alloc (.cells #[.int .u8 (op.toNat : Int), .int .i64 a, .int .i64 bb] 33)).cell? ⟨wr.heap.size, 2, none⟩ = some (.int .i64 bb) := by rw [blk_cell hq]; rfl
            have HUC := Lib.hid (refuses_any op.toNat HOP.out (wr.alloc (.cells #[.int .u8 (op.toNat : Int), .int .i64 a, .int .i64 bb] 33)))
            have hcond : (op.toNat = 1 ∧ rusN op.toNat = 1) ∨ (op.toNat ≠ 1 ∧ (rusN op.toNat = 0 ∨ rusN op.toNat = 1 ∨ rusN op.toNat = 2)) := by
              by_cases h : op.toNat = 1
              · exact .inl ⟨h, by rw [h]; rfl⟩
              · exact .inr ⟨h, rus_le HOP.out⟩
            clear hba hq
            rcases hcond with ⟨ho1, hn⟩ | ⟨ho1, hn | hn | hn⟩
            · have d1 : ((op.toNat : Int) == 1) = true := by rw [beq_iff_eq]; omega
              obtain ⟨lo, hlo⟩ : ∃ lo : Int, lo = -2147483648 := ⟨_, rfl⟩
              obtain ⟨hi, hhi⟩ : ∃ hi : Int, hi = 2147483647 := ⟨_, rfl⟩
              have HLO := Lib.hid hlo
              have HHI := Lib.hid hhi
              have HEQ := Lib.hid (sh_p (a := a) (b := bb) ho1)
              by_cases hsh : shB ⟨op, a, bb⟩ = true
              · have HGG := Lib.hid (HSY.out.1 hsh)
                have hg2 := HEQ.out.1 hsh
                have e1 : (bb != 0) = false := by rw [bne_eq_false_iff_eq]; omega
                have e2 : decide ((a : Int) < lo) = false := decide_eq_false (by omega)
                have e3 : decide ((hi : Int) < a) = false := decide_eq_false (by omega)
                have e4 : decide ((bb : Int) < 0) = false := decide_eq_false (by omega)
                have e5 : decide ((65535 : Int) < bb) = false := decide_eq_false (by omega)
                rw [hn] at HUC
                clear HSY hsh hg2 HEQ HOP
                generalize op.toNat = o at *
                clear hlo hhi ho1
                go_wp2_with fail
                generalize wr.alloc (.cells #[.int .u8 (o : Int), .int .i64 a, .int .i64 bb] 33) = wa at *
                rw [← HLO.out, ← HHI.out]
                refine HUC.out.mono ?_
                rintro e wb ⟨rfl, rfl⟩
                go_wp2_with fail
                exact ⟨⟨k + 1, by omega, by go_num, HWa.out, HGG.out⟩, by simp [intOf]; omega⟩
              · have HFF := Lib.hid (HSY.out.2 (Bool.eq_false_iff.2 hsh))
                have hb2 := mt HEQ.out.2 hsh
                have hr := HS1.out
                rw [if_pos (show fmB p = false by rw [HFM.out, HFF.out]; rfl)] at hr
                have HR := Lib.hid hr
                have HW' := Lib.hid HWa.out
                rw [hn] at HUC
                clear HSY hsh HEQ HOP hr HW
                have HW := Lib.hid HW'.out
                have hcs : (bb ≠ 0) ∨ (bb = 0 ∧ a < -2147483648) ∨ (bb = 0 ∧ -2147483648 ≤ a ∧ 2147483647 < a) := by omega
                clear hb2
                rcases hcs with hc0 | ⟨hc0, hc1⟩ | ⟨hc0, hc1, hc2⟩
                · have e1 : (bb != 0) = true := by rw [bne_iff_ne]; omega
                  clear hc0
                  generalize op.toNat = o at *
                  clear hlo hhi ho1
                  go_wp2_with fail
                  generalize wr.alloc (.cells #[.int .u8 (o : Int), .int .i64 a, .int .i64 bb] 33) = wa at *
                  rw [← HLO.out, ← HHI.out]
                  refine HUC.out.mono ?_
                  rintro e wb ⟨rfl, rfl⟩
                  go_wp2_with fail
                  all_goals
                    go_ret
                    have hr := HR.out
                    exact ⟨by first | rfl | (rw [hr]; rfl) | (rw [hr]), HRT.out _ HW.out⟩
                · have e1 : (bb != 0) = false := by rw [bne_eq_false_iff_eq]; omega
                  have e2 : decide ((a : Int) < lo) = true := decide_eq_true (by omega)
                  clear hc0 hc1
                  generalize op.toNat = o at *
                  clear hlo hhi ho1
                  go_wp2_with fail
                  generalize wr.alloc (.cells #[.int .u8 (o : Int), .int .i64 a, .int .i64 bb] 33) = wa at *
                  rw [← HLO.out, ← HHI.out]
                  refine HUC.out.mono ?_
                  rintro e wb ⟨rfl, rfl⟩
                  go_wp2_with fail
                  all_goals
                    go_ret
                    have hr := HR.out
                    exact ⟨by first | rfl | (rw [hr]; rfl) | (rw [hr]), HRT.out _ HW.out⟩
                · have e1 : (bb != 0) = false := by rw [bne_eq_false_iff_eq]; omega
                  have e2 : decide ((a : Int) < lo) = false := decide_eq_false (by omega)
                  have e3 : decide ((hi : Int) < a) = true := decide_eq_true (by omega)
                  clear hc0 hc1 hc2
                  generalize op.toNat = o at *
                  clear hlo hhi ho1
                  go_wp2_with fail
                  generalize wr.alloc (.cells #[.int .u8 (o : Int), .int .i64 a, .int .i64 bb] 33) = wa at *
                  rw [← HLO.out, ← HHI.out]
                  refine HUC.out.mono ?_
                  rintro e wb ⟨rfl, rfl⟩
                  go_wp2_with fail
                  all_goals
                    go_ret
                    have hr := HR.out
                    exact ⟨by first | rfl | (rw [hr]; rfl) | (rw [hr]), HRT.out _ HW.out⟩
            · have d1 : ((op.toNat : Int) == 1) = false := by rw [beq_eq_false_iff_ne]; omega
              have HEQ := Lib.hid (sh_n0 (a := a) (b := bb) HOP.out hn)
              by_cases hsh : shB ⟨op, a, bb⟩ = true
              · have HGG := Lib.hid (HSY.out.1 hsh)
                have hg2 := HEQ.out.1 hsh
                have e0 : (a != 0) = false := by rw [bne_eq_false_iff_eq]; omega
                have e1 : (bb != 0) = false := by rw [bne_eq_false_iff_eq]; omega
                have e2 : decide ((a : Int) < 0) = false := decide_eq_false (by omega)
                have e3 : decide ((65535 : Int) < a) = false := decide_eq_false (by omega)
                have e4 : decide ((bb : Int) < 0) = false := decide_eq_false (by omega)
                have e5 : decide ((65535 : Int) < bb) = false := decide_eq_false (by omega)
                rw [hn] at HUC
                clear HSY hsh hg2 HEQ HOP
                generalize op.toNat = o at *
                go_wp2_with fail
                generalize wr.alloc (.cells #[.int .u8 (o : Int), .int .i64 a, .int .i64 bb] 33) = wa at *
                refine HUC.out.mono ?_
                rintro e wb ⟨rfl, rfl⟩
                go_wp2_with fail
                exact ⟨⟨k + 1, by omega, by go_num, HWa.out, HGG.out⟩, by simp [intOf]; omega⟩
              · have HFF := Lib.hid (HSY.out.2 (Bool.eq_false_iff.2 hsh))
                have hb2 := mt HEQ.out.2 hsh
                have hr := HS1.out
                rw [if_pos (show fmB p = false by rw [HFM.out, HFF.out]; rfl)] at hr
                have HR := Lib.hid hr
                have HW' := Lib.hid HWa.out
                rw [hn] at HUC
                clear HSY hsh HEQ HOP hr HW
                have HW := Lib.hid HW'.out
                have hcs : (a ≠ 0) ∨ (a = 0 ∧ bb ≠ 0) := by omega
                clear hb2
                rcases hcs with hc0 | ⟨hc0, hc1⟩
                · have e0 : (a != 0) = true := by rw [bne_iff_ne]; omega
                  clear hc0
                  generalize op.toNat = o at *
                  go_wp2_with fail
                  generalize wr.alloc (.cells #[.int .u8 (o : Int), .int .i64 a, .int .i64 bb] 33) = wa at *
                  refine HUC.out.mono ?_
                  rintro e wb ⟨rfl, rfl⟩
                  go_wp2_with fail
                  all_goals
                    go_ret
                    have hr := HR.out
                    exact ⟨by first | rfl | (rw [hr]; rfl) | (rw [hr]), HRT.out _ HW.out⟩
                · have e0 : (a != 0) = false := by rw [bne_eq_false_iff_eq]; omega
                  have e1 : (bb != 0) = true := by rw [bne_iff_ne]; omega
                  clear hc0 hc1
                  generalize op.toNat = o at *
                  go_wp2_with fail
                  generalize wr.alloc (.cells #[.int .u8 (o : Int), .int .i64 a, .int .i64 bb] 33) = wa at *
                  refine HUC.out.mono ?_
                  rintro e wb ⟨rfl, rfl⟩
                  go_wp2_with fail
                  all_goals
                    go_ret
                    have hr := HR.out
                    exact ⟨by first | rfl | (rw [hr]; rfl) | (rw [hr]), HRT.out _ HW.out⟩
            · have d1 : ((op.toNat : Int) == 1) = false := by rw [beq_eq_false_iff_ne]; omega
              have HEQ := Lib.hid (sh_n1 (a := a) (b := bb) HOP.out hn ho1)
              by_cases hsh : shB ⟨op, a, bb⟩ = true
              · have HGG := Lib.hid (HSY.out.1 hsh)
                have hg2 := HEQ.out.1 hsh
                have e1 : (bb != 0) = false := by rw [bne_eq_false_iff_eq]; omega
                have e2 : decide ((a : Int) < 0) = false := decide_eq_false (by omega)
                have e3 : decide ((65535 : Int) < a) = false := decide_eq_false (by omega)
                have e4 : decide ((bb : Int) < 0) = false := decide_eq_false (by omega)
                have e5 : decide ((65535 : Int) < bb) = false := decide_eq_false (by omega)
                rw [hn] at HUC
                clear HSY hsh hg2 HEQ HOP
                generalize op.toNat = o at *
                go_wp2_with fail
                generalize wr.alloc (.cells #[.int .u8 (o : Int), .int .i64 a, .int .i64 bb] 33) = wa at *
                refine HUC.out.mono ?_
                rintro e wb ⟨rfl, rfl⟩
                go_wp2_with fail
                exact ⟨⟨k + 1, by omega, by go_num, HWa.out, HGG.out⟩, by simp [intOf]; omega⟩
              · have HFF := Lib.hid (HSY.out.2 (Bool.eq_false_iff.2 hsh))
                have hb2 := mt HEQ.out.2 hsh
                have hr := HS1.out
                rw [if_pos (show fmB p = false by rw [HFM.out, HFF.out]; rfl)] at hr
                have HR := Lib.hid hr
                have HW' := Lib.hid HWa.out
                rw [hn] at HUC
                clear HSY hsh HEQ HOP hr HW
                have HW := Lib.hid HW'.out
                have hcs : (bb ≠ 0) ∨ (bb = 0 ∧ a < 0) ∨ (bb = 0 ∧ 0 ≤ a ∧ 65535 < a) := by omega
                clear hb2
                rcases hcs with hc0 | ⟨hc0, hc1⟩ | ⟨hc0, hc1, hc2⟩
                · have e1 : (bb != 0) = true := by rw [bne_iff_ne]; omega
                  clear hc0
                  generalize op.toNat = o at *
                  go_wp2_with fail
                  generalize wr.alloc (.cells #[.int .u8 (o : Int), .int .i64 a, .int .i64 bb] 33) = wa at *
                  refine HUC.out.mono ?_
                  rintro e wb ⟨rfl, rfl⟩
                  go_wp2_with fail
                  all_goals
                    go_ret
                    have hr := HR.out
                    exact ⟨by first | rfl | (rw [hr]; rfl) | (rw [hr]), HRT.out _ HW.out⟩
                · have e1 : (bb != 0) = false := by rw [bne_eq_false_iff_eq]; omega
                  have e2 : decide ((a : Int) < 0) = true := decide_eq_true (by omega)
                  clear hc0 hc1
                  generalize op.toNat = o at *
                  go_wp2_with fail
                  generalize wr.alloc (.cells #[.int .u8 (o : Int), .int .i64 a, .int .i64 bb] 33) = wa at *
                  refine HUC.out.mono ?_
                  rintro e wb ⟨rfl, rfl⟩
                  go_wp2_with fail
                  all_goals
                    go_ret
                    have hr := HR.out
                    exact ⟨by first | rfl | (rw [hr]; rfl) | (rw [hr]), HRT.out _ HW.out⟩
                · have e1 : (bb != 0) = false := by rw [bne_eq_false_iff_eq]; omega
                  have e2 : decide ((a : Int) < 0) = false := decide_eq_false (by omega)
                  have e3 : decide ((65535 : Int) < a) = true := decide_eq_true (by omega)
                  clear hc0 hc1 hc2
                  generalize op.toNat = o at *
                  go_wp2_with fail
                  generalize wr.alloc (.cells #[.int .u8 (o : Int), .int .i64 a, .int .i64 bb] 33) = wa at *
                  refine HUC.out.mono ?_
                  rintro e wb ⟨rfl, rfl⟩
                  go_wp2_with fail
                  all_goals
                    go_ret
                    have hr := HR.out
                    exact ⟨by first | rfl | (rw [hr]; rfl) | (rw [hr]), HRT.out _ HW.out⟩
            · have d1 : ((op.toNat : Int) == 1) = false := by rw [beq_eq_false_iff_ne]; omega
              have HEQ := Lib.hid (sh_n2 (a := a) (b := bb) HOP.out hn)
              by_cases hsh : shB ⟨op, a, bb⟩ = true
              · have HGG := Lib.hid (HSY.out.1 hsh)
                have hg2 := HEQ.out.1 hsh
                have e2 : decide ((a : Int) < 0) = false := decide_eq_false (by omega)
                have e3 : decide ((65535 : Int) < a) = false := decide_eq_false (by omega)
                have e4 : decide ((bb : Int) < 0) = false := decide_eq_false (by omega)
                have e5 : decide ((65535 : Int) < bb) = false := decide_eq_false (by omega)
                rw [hn] at HUC
                clear HSY hsh hg2 HEQ HOP
                generalize op.toNat = o at *
                go_wp2_with fail
                generalize wr.alloc (.cells #[.int .u8 (o : Int), .int .i64 a, .int .i64 bb] 33) = wa at *
                refine HUC.out.mono ?_
                rintro e wb ⟨rfl, rfl⟩
                go_wp2_with fail
                exact ⟨⟨k + 1, by omega, by go_num, HWa.out, HGG.out⟩, by simp [intOf]; omega⟩
              · have HFF := Lib.hid (HSY.out.2 (Bool.eq_false_iff.2 hsh))
                have hb2 := mt HEQ.out.2 hsh
                have hr := HS1.out
                rw [if_pos (show fmB p = false by rw [HFM.out, HFF.out]; rfl)] at hr
                have HR := Lib.hid hr
                have HW' := Lib.hid HWa.out
                rw [hn] at HUC
                clear HSY hsh HEQ HOP hr HW
                have HW := Lib.hid HW'.out
                have hcs : (a < 0) ∨ (0 ≤ a ∧ 65535 < a) ∨ (0 ≤ a ∧ a ≤ 65535 ∧ bb < 0) ∨ (0 ≤ a ∧ a ≤ 65535 ∧ 0 ≤ bb ∧ 65535 < bb) := by omega
                clear hb2
                rcases hcs with hc0 | ⟨hc0, hc1⟩ | ⟨hc0, hc1, hc2⟩ | ⟨hc0, hc1, hc2, hc3⟩
                · have e2 : decide ((a : Int) < 0) = true := decide_eq_true (by omega)
                  clear hc0
                  generalize op.toNat = o at *
                  go_wp2_with fail
                  generalize wr.alloc (.cells #[.int .u8 (o : Int), .int .i64 a, .int .i64 bb] 33) = wa at *
                  refine HUC.out.mono ?_
                  rintro e wb ⟨rfl, rfl⟩
                  go_wp2_with fail
                  all_goals
                    go_ret
                    have hr := HR.out
                    exact ⟨by first | rfl | (rw [hr]; rfl) | (rw [hr]), HRT.out _ HW.out⟩
                · have e2 : decide ((a : Int) < 0) = false := decide_eq_false (by omega)
                  have e3 : decide ((65535 : Int) < a) = true := decide_eq_true (by omega)
                  clear hc0 hc1
                  generalize op.toNat = o at *
                  go_wp2_with fail
                  generalize wr.alloc (.cells #[.int .u8 (o : Int), .int .i64 a, .int .i64 bb] 33) = wa at *
                  refine HUC.out.mono ?_
                  rintro e wb ⟨rfl, rfl⟩
                  go_wp2_with fail
                  all_goals
                    go_ret
                    have hr := HR.out
                    exact ⟨by first | rfl | (rw [hr]; rfl) | (rw [hr]), HRT.out _ HW.out⟩
                · have e2 : decide ((a : Int) < 0) = false := decide_eq_false (by omega)
                  have e3 : decide ((65535 : Int) < a) = false := decide_eq_false (by omega)
                  have e4 : decide ((bb : Int) < 0) = true := decide_eq_true (by omega)
                  clear hc0 hc1 hc2
                  generalize op.toNat = o at *
                  go_wp2_with fail
                  generalize wr.alloc (.cells #[.int .u8 (o : Int), .int .i64 a, .int .i64 bb] 33) = wa at *
                  refine HUC.out.mono ?_
                  rintro e wb ⟨rfl, rfl⟩
                  go_wp2_with fail
                  all_goals
                    go_ret
                    have hr := HR.out
                    exact ⟨by first | rfl | (rw [hr]; rfl) | (rw [hr]), HRT.out _ HW.out⟩
                · have e2 : decide ((a : Int) < 0) = false := decide_eq_false (by omega)
                  have e3 : decide ((65535 : Int) < a) = false := decide_eq_false (by omega)
                  have e4 : decide ((bb : Int) < 0) = false := decide_eq_false (by omega)
                  have e5 : decide ((65535 : Int) < bb) = true := decide_eq_true (by omega)
                  clear hc0 hc1 hc2 hc3
                  generalize op.toNat = o at *
                  go_wp2_with fail
                  generalize wr.alloc (.cells #[.int .u8 (o : Int), .int .i64 a, .int .i64 bb] 33) = wa at *
                  refine HUC.out.mono ?_
                  rintro e wb ⟨rfl, rfl⟩
                  go_wp2_with fail
                  all_goals
                    go_ret
                    have hr := HR.out
                    exact ⟨by first | rfl | (rw [hr]; rfl) | (rw [hr]), HRT.out _ HW.out⟩
        · obtain rfl : k = d.n1 := by omega
          have HSH := Lib.hid (asked_all (f := shB) (at_ := iat) (fun {_} h => iat_eq h) (by rw [HL1.out]; exact HA.out))
          clear HA
          go_wp2_with fail
          clear p0
          go_loopw [9] (fun i wr => ∃ k : Nat, k ≤ d.n2 ∧ i = .int .i64 (k : Int) ∧ Below (g + 1) w1 wr ∧ ∀ j, j < k → (fun m => decide (List.length m ≤ 7200)) (lat p.msgs j) = true) (fun i _ => d.n2 - (intOf i).toNat)
          case atStart => exact ⟨0, by omega, rfl, HW.out, fun j hj => absurd hj (by omega)⟩
          case round =>
            clear HW
            obtain ⟨k, hk, rfl, hb, hall⟩ := hrel
            have HA := Lib.hid hall
            have HW := Lib.hid hb
            have hz := hb.size
            have p1 := HFR.out wr hb 1 _ rfl
            clear hall hb
            by_cases hlt : k < d.n2
            · have dk : (k : Int) < (d.n2 : Int) := by omega
              obtain ⟨ad, Ai, ni, ci, hA2, _, c0, _, hrb⟩ := (HPR.out.msgs.below (HW.out.mono (by omega))).at_ hlt
              have hml := hrb.len
              have HSY := Lib.hid (asked (f := (fun m => decide (List.length m ≤ 7200))) (at_ := lat) (fun {_} h => lat_eq h) (by rw [HL2.out]; exact hlt) HA.out)
              generalize lat p.msgs k = m at *
              rw [hA2] at p1
              clear hrb hA2
              by_cases hm : m.length ≤ 7200
              · have HGG := Lib.hid (HSY.out.1 (decide_eq_true hm))
                have dm : ¬ (7200 : Int) < (ni : Int) := by omega
                clear HSY hm hml
                go_wp2_with fail
                exact ⟨⟨k + 1, by omega, by go_num, HW.out, HGG.out⟩, by simp [intOf]; omega⟩
              · have HFF := Lib.hid (HSY.out.2 (decide_eq_false hm))
                have dm : (7200 : Int) < (ni : Int) := by omega
                have hr := HS1.out
                rw [if_pos (show fmB p = false by rw [HFM.out, HFF.out]; simp)] at hr
                have HR := Lib.hid hr
                clear HSY hm hml hr
                go_wp2_with fail
                go_ret
                have hr := HR.out
                exact ⟨by first | rfl | (rw [hr]; rfl) | (rw [hr]), HRT.out _ HW.out⟩
            · obtain rfl : k = d.n2 := by omega
              have HMS := Lib.hid (asked_all (f := (fun m => decide (List.length m ≤ 7200))) (at_ := lat) (fun {_} h => lat_eq h) (by rw [HL2.out]; exact HA.out))
              clear HA
              go_wp2_with fail
              clear p1
              go_loopw [10, 11, 12] (fun i _ _ wr => ∃ k : Nat, k ≤ d.n3 ∧ i = .int .i64 (k : Int) ∧ Below (g + 1) w1 wr ∧ ∀ j, j < k → rtB (rat p.rts j) = true) (fun i _ _ _ => d.n3 - (intOf i).toNat)
              case atStart => exact ⟨0, by omega, rfl, HW.out, fun j hj => absurd hj (by omega)⟩
              case round =>
                clear HW
                obtain ⟨k, hk, rfl, hb, hall⟩ := hrel
                have HA := Lib.hid hall
                have HW := Lib.hid hb
                have hz := hb.size
                have p2 := HFR.out wr hb 2 _ rfl
                clear hall hb
                by_cases hlt : k < d.n3
                · have dk : (k : Int) < (d.n3 : Int) := by omega
                  as_aux_lemma =>
                    obtain ⟨ad, Ai, ni, ci, hA3, hb3, c0w, hnc, hrr0⟩ := HPR.out.rts.at_ hlt
                    have had : (ad.add k).block < g + 1 := by rw [block_of_add]; omega
                    have c0 := (HW.out.cell had).trans c0w
                    have HCW := Lib.hid c0w
                    clear c0w
                    have HRL := Lib.hid (show (rat p.rts k).length = ni by have := hrr0.len; rw [List.length_map] at this; exact this)
                    have HSY := Lib.hid (asked (f := rtB) (at_ := rat) (fun {_} h => rat_eq h) (by rw [HL3.out]; exact hlt) HA.out)
                    have hrr := Lib.hid hrr0
                    generalize rat p.rts k = rt at *
                    rw [hA3] at p2
                    have HA3 := Lib.hid hA3
                    clear hrr0 hA3
                    by_cases hlo : ni < 1
                    · have d1 : (ni : Int) < 1 := by omega
                      have HFF := Lib.hid (HSY.out.2 (by unfold rtB; rw [HRL.out]; simp; omega))
                      have hr := HS1.out
                      rw [if_pos (show fmB p = false by rw [HFM.out, HFF.out]; simp)] at hr
                      have HR := Lib.hid hr
                      clear HSY hr hlo
                      go_wp2_with fail
                      go_ret
                      have hr := HR.out
                      exact ⟨by first | rfl | (rw [hr]; rfl) | (rw [hr]), HRT.out _ HW.out⟩
                    have d1 : ¬ (ni : Int) < 1 := by omega
                    by_cases hhi : 5 < ni
                    · have d2 : (5 : Int) < (ni : Int) := by omega
                      have HFF := Lib.hid (HSY.out.2 (by unfold rtB; rw [HRL.out]; simp; omega))
                      have hr := HS1.out
                      rw [if_pos (show fmB p = false by rw [HFM.out, HFF.out]; simp)] at hr
                      have HR := Lib.hid hr
                      clear HSY hr hlo hhi
                      go_wp2_with fail
                      go_ret
                      have hr := HR.out
                      exact ⟨by first | rfl | (rw [hr]; rfl) | (rw [hr]), HRT.out _ HW.out⟩
                    have d2 : ¬ (5 : Int) < (ni : Int) := by omega
                    go_wp2_with fail
                    go_loopw [11, 12] (fun i _ wi => ∃ j : Nat, j ≤ ni ∧ i = .int .i64 (j : Int) ∧ Below (g + 1) w1 wi ∧ ∀ m, m < j → stB (sat rt m) = true) (fun i _ _ => ni - (intOf i).toNat)
                    case atStart => exact ⟨0, by omega, rfl, HW.out, fun j hj => absurd hj (by omega)⟩
                    case round =>
                      obtain ⟨j, hj, rfl, hb5, hall5⟩ := hrel
                      have HA5 := Lib.hid hall5
                      have HWi := Lib.hid hb5
                      have hz5 := hb5.size
                      have r2 := HFR.out wr hb5 2 _ rfl
                      have rc := (hb5.cell had).trans HCW.out
                      rw [HA3.out] at r2
                      clear hall5 hb5
                      by_cases hlt5 : j < ni
                      · have dj : (j : Int) < (ni : Int) := by omega
                        as_aux_lemma =>
                          obtain ⟨b5, o5, hA5, hb5, s0, s1, s2⟩ := stop_at (hrr.out.below (HWi.out.mono (by omega))) hlt5
                          have HSZ := Lib.hid (asked (f := stB) (at_ := sat) (fun {_} h => sat_eq h) (by rw [HRL.out]; exact hlt5) HA5.out)
                          generalize sat rt j = st at *
                          obtain ⟨nm, dl, fl⟩ := st
                          simp only at s0 s1 s2
                          rw [hA5] at rc
                          clear hA5
                          have hba := (Below.refl wr.heap.size wr).alloc (Nat.le_refl _) (.cells #[.string nm, .int .i64 dl, .int .i64 fl] 66)
                          have HWa := Lib.hid (HWi.out.trans (hba.mono (by omega)))
                          have hq := heap_alloc_new wr (.cells #[.string nm, .int .i64 dl, .int .i64 fl] 66)
                          have q0 : (wr.alloc (.cells #[.string nm, .int .i64 dl, .int .i64 fl] 66)).cell? ⟨wr.heap.size, 0, none⟩ = some (.string nm) := by rw [blk_cell hq]; rfl
                          have q1 : (wr.alloc (.cells #[.string nm, .int .i64 dl, .int .i64 fl] 66)).cell? ⟨wr.heap.size, 1, none⟩ = some (.int .i64 dl) := by rw [blk_cell hq]; rfl
                          have q2 : (wr.alloc (.cells #[.string nm, .int .i64 dl, .int .i64 fl] 66)).cell? ⟨wr.heap.size, 2, none⟩ = some (.int .i64 fl) := by rw [blk_cell hq]; rfl
                          have hnc0 : Calls Tryd.prog 74 #[.string nm] (wr.alloc (.cells #[.string nm, .int .i64 dl, .int .i64 fl] 66)) (fun e w' => e = .returned (.bool (nmB nm)) ∧ wr.alloc (.cells #[.string nm, .int .i64 dl, .int .i64 fl] 66) = w') := RefNamed_any nm _
                          have HNC := Lib.hid hnc0
                          have HST := Lib.hid (show stB ⟨nm, dl, fl⟩ = (nmB nm && wi dl 0 1000000 && wi fl 0 255) from rfl)
                          generalize nmB nm = nb at *
                          clear hnc0
                          clear hba hq HWi
                          have HWi := Lib.hid HWa.out
                          cases nb with
                          | false =>
                            have HFF := Lib.hid (HSZ.out.2 (by rw [HST.out]; simp))
                            have HFR4 := Lib.hid (HSY.out.2 (by unfold rtB; rw [HFF.out]; simp))
                            have hr := HS1.out
                            rw [if_pos (show fmB p = false by rw [HFM.out, HFR4.out]; simp)] at hr
                            have HR := Lib.hid hr
                            have HW := Lib.hid HWi.out
                            clear hr HSZ HSY HFF HFR4
                            go_wp2_with fail
                            generalize wr.alloc (.cells #[.string nm, .int .i64 dl, .int .i64 fl] 66) = wa at *
                            refine HNC.out.mono ?_
                            rintro e wb ⟨rfl, rfl⟩
                            go_wp2_with fail
                            all_goals
                              go_ret
                              have hr := HR.out
                              exact ⟨by first | rfl | (rw [hr]; rfl) | (rw [hr]), HRT.out _ HW.out⟩
                          | true =>
                            have hcs : (dl < 0) ∨ (0 ≤ dl ∧ 1000000 < dl) ∨ (0 ≤ dl ∧ dl ≤ 1000000 ∧ fl < 0) ∨ (0 ≤ dl ∧ dl ≤ 1000000 ∧ 0 ≤ fl ∧ 255 < fl) ∨ (0 ≤ dl ∧ dl ≤ 1000000 ∧ 0 ≤ fl ∧ fl ≤ 255) := by omega
                            rcases hcs with hc0 | ⟨hc0, hc1⟩ | ⟨hc0, hc1, hc2⟩ | ⟨hc0, hc1, hc2, hc3⟩ | ⟨hc0, hc1, hc2, hc3⟩
                            · have e1 : decide ((dl : Int) < 0) = true := decide_eq_true (by omega)
                              have HFF := Lib.hid (HSZ.out.2 (by rw [HST.out]; unfold wi; simp; omega))
                              have HFR4 := Lib.hid (HSY.out.2 (by unfold rtB; rw [HFF.out]; simp))
                              have hr := HS1.out
                              rw [if_pos (show fmB p = false by rw [HFM.out, HFR4.out]; simp)] at hr
                              have HR := Lib.hid hr
                              have HW := Lib.hid HWi.out
                              clear hr HSZ HSY HFF HFR4
                              clear hc0
                              go_wp2_with fail
                              generalize wr.alloc (.cells #[.string nm, .int .i64 dl, .int .i64 fl] 66) = wa at *
                              refine HNC.out.mono ?_
                              rintro e wb ⟨rfl, rfl⟩
                              go_wp2_with fail
                              all_goals
                                go_ret
                                have hr := HR.out
                                exact ⟨by first | rfl | (rw [hr]; rfl) | (rw [hr]), HRT.out _ HW.out⟩
                            · have e1 : decide ((dl : Int) < 0) = false := decide_eq_false (by omega)
                              have e2 : decide ((1000000 : Int) < dl) = true := decide_eq_true (by omega)
                              have HFF := Lib.hid (HSZ.out.2 (by rw [HST.out]; unfold wi; simp; omega))
                              have HFR4 := Lib.hid (HSY.out.2 (by unfold rtB; rw [HFF.out]; simp))
                              have hr := HS1.out
                              rw [if_pos (show fmB p = false by rw [HFM.out, HFR4.out]; simp)] at hr
                              have HR := Lib.hid hr
                              have HW := Lib.hid HWi.out
                              clear hr HSZ HSY HFF HFR4
                              clear hc0 hc1
                              go_wp2_with fail
                              generalize wr.alloc (.cells #[.string nm, .int .i64 dl, .int .i64 fl] 66) = wa at *
                              refine HNC.out.mono ?_
                              rintro e wb ⟨rfl, rfl⟩
                              go_wp2_with fail
                              all_goals
                                go_ret
                                have hr := HR.out
                                exact ⟨by first | rfl | (rw [hr]; rfl) | (rw [hr]), HRT.out _ HW.out⟩
                            · have e1 : decide ((dl : Int) < 0) = false := decide_eq_false (by omega)
                              have e2 : decide ((1000000 : Int) < dl) = false := decide_eq_false (by omega)
                              have e3 : decide ((fl : Int) < 0) = true := decide_eq_true (by omega)
                              have HFF := Lib.hid (HSZ.out.2 (by rw [HST.out]; unfold wi; simp; omega))
                              have HFR4 := Lib.hid (HSY.out.2 (by unfold rtB; rw [HFF.out]; simp))
                              have hr := HS1.out
                              rw [if_pos (show fmB p = false by rw [HFM.out, HFR4.out]; simp)] at hr
                              have HR := Lib.hid hr
                              have HW := Lib.hid HWi.out
                              clear hr HSZ HSY HFF HFR4
                              clear hc0 hc1 hc2
                              go_wp2_with fail
                              generalize wr.alloc (.cells #[.string nm, .int .i64 dl, .int .i64 fl] 66) = wa at *
                              refine HNC.out.mono ?_
                              rintro e wb ⟨rfl, rfl⟩
                              go_wp2_with fail
                              all_goals
                                go_ret
                                have hr := HR.out
                                exact ⟨by first | rfl | (rw [hr]; rfl) | (rw [hr]), HRT.out _ HW.out⟩
                            · have e1 : decide ((dl : Int) < 0) = false := decide_eq_false (by omega)
                              have e2 : decide ((1000000 : Int) < dl) = false := decide_eq_false (by omega)
                              have e3 : decide ((fl : Int) < 0) = false := decide_eq_false (by omega)
                              have e4 : decide ((255 : Int) < fl) = true := decide_eq_true (by omega)
                              have HFF := Lib.hid (HSZ.out.2 (by rw [HST.out]; unfold wi; simp; omega))
                              have HFR4 := Lib.hid (HSY.out.2 (by unfold rtB; rw [HFF.out]; simp))
                              have hr := HS1.out
                              rw [if_pos (show fmB p = false by rw [HFM.out, HFR4.out]; simp)] at hr
                              have HR := Lib.hid hr
                              have HW := Lib.hid HWi.out
                              clear hr HSZ HSY HFF HFR4
                              clear hc0 hc1 hc2 hc3
                              go_wp2_with fail
                              generalize wr.alloc (.cells #[.string nm, .int .i64 dl, .int .i64 fl] 66) = wa at *
                              refine HNC.out.mono ?_
                              rintro e wb ⟨rfl, rfl⟩
                              go_wp2_with fail
                              all_goals
                                go_ret
                                have hr := HR.out
                                exact ⟨by first | rfl | (rw [hr]; rfl) | (rw [hr]), HRT.out _ HW.out⟩
                            · have e1 : decide ((dl : Int) < 0) = false := decide_eq_false (by omega)
                              have e2 : decide ((1000000 : Int) < dl) = false := decide_eq_false (by omega)
                              have e3 : decide ((fl : Int) < 0) = false := decide_eq_false (by omega)
                              have e4 : decide ((255 : Int) < fl) = false := decide_eq_false (by omega)
                              have HGG := Lib.hid (HSZ.out.1 (by rw [HST.out]; unfold wi; simp; omega))
                              clear HSZ HST
                              clear hc0 hc1 hc2 hc3
                              go_wp2_with fail
                              generalize wr.alloc (.cells #[.string nm, .int .i64 dl, .int .i64 fl] 66) = wa at *
                              refine HNC.out.mono ?_
                              rintro e wb ⟨rfl, rfl⟩
                              go_wp2_with fail
                              exact ⟨⟨j + 1, by omega, by go_num, HWi.out, HGG.out⟩, by simp [intOf]; omega⟩
                      · obtain rfl : j = ni := by omega
                        have HSA := Lib.hid (asked_all (f := stB) (at_ := sat) (fun {_} h => sat_eq h) (by rw [HRL.out]; exact HA5.out))
                        have HGG := Lib.hid (HSY.out.1 (by unfold rtB; rw [HSA.out, HRL.out]; simp; omega))
                        clear HSY HA5
                        go_wp2_with fail
                        exact ⟨⟨k + 1, by omega, by go_num, HWi.out, HGG.out⟩, by simp [intOf]; omega⟩
                · obtain rfl : k = d.n3 := by omega
                  have HRS := Lib.hid (asked_all (f := rtB) (at_ := rat) (fun {_} h => rat_eq h) (by rw [HL3.out]; exact HA.out))
                  clear HA
                  go_wp2_with fail
                  clear p2
                  go_loopw [13, 14, 15] (fun i _ _ wr => ∃ k : Nat, k ≤ d.n4 ∧ i = .int .i64 (k : Int) ∧ Below (g + 1) w1 wr ∧ ∀ j, j < k → sdB (dat p.snds j) = true) (fun i _ _ _ => d.n4 - (intOf i).toNat)
                  case atStart => exact ⟨0, by omega, rfl, HW.out, fun j hj => absurd hj (by omega)⟩
                  case round =>
                    clear HW
                    obtain ⟨k, hk, rfl, hb, hall⟩ := hrel
                    have HA := Lib.hid hall
                    have HW := Lib.hid hb
                    have hz := hb.size
                    have p3 := HFR.out wr hb 3 _ rfl
                    clear hall hb
                    by_cases hlt : k < d.n4
                    · have dk : (k : Int) < (d.n4 : Int) := by omega
                      as_aux_lemma =>
                        obtain ⟨b, off, Ai, ni, ci, hA4, hbB, c0w, c1w, c2w, hnc, hri⟩ := HPR.out.snds.at_ hlt
                        have c0 := (HW.out.cell (p := ⟨b, off + k * 3, none⟩) (by show b < g + 1; omega)).trans c0w
                        have c1 := (HW.out.cell (p := ⟨b, off + k * 3 + 1, none⟩) (by show b < g + 1; omega)).trans c1w
                        have c2 := (HW.out.cell (p := ⟨b, off + k * 3 + 2, none⟩) (by show b < g + 1; omega)).trans c2w
                        have HSY := Lib.hid (asked (f := sdB) (at_ := dat) (fun {_} h => dat_eq h) (by rw [HL4.out]; exact hlt) HA.out)
                        have hrl := hri.len
                        have HRI := Lib.hid hri
                        generalize dat p.snds k = sd at *
                        obtain ⟨mg, rts, bl⟩ := sd
                        simp only at c0 c1 c2 hrl HRI
                        rw [hA4] at p3
                        clear hA4 c0w c1w c2w hri
                        have hba := (Below.refl wr.heap.size wr).alloc (Nat.le_refl _) (.cells #[.int .i64 mg, .slice Ai ni ci, .int .i64 bl] 43)
                        have HWa := Lib.hid (HW.out.trans (hba.mono (by omega)))
                        have hq := heap_alloc_new wr (.cells #[.int .i64 mg, .slice Ai ni ci, .int .i64 bl] 43)
                        have q0 : (wr.alloc (.cells #[.int .i64 mg, .slice Ai ni ci, .int .i64 bl] 43)).cell? ⟨wr.heap.size, 0, none⟩ = some (.int .i64 mg) := by rw [blk_cell hq]; rfl
                        have q1 : (wr.alloc (.cells #[.int .i64 mg, .slice Ai ni ci, .int .i64 bl] 43)).cell? ⟨wr.heap.size, 1, none⟩ = some (.slice Ai ni ci) := by rw [blk_cell hq]; rfl
                        have q2 : (wr.alloc (.cells #[.int .i64 mg, .slice Ai ni ci, .int .i64 bl] 43)).cell? ⟨wr.heap.size, 2, none⟩ = some (.int .i64 bl) := by rw [blk_cell hq]; rfl
                        have HSD := Lib.hid (show sdB ⟨mg, rts, bl⟩ = (decide (1 ≤ rts.length) && decide (rts.length ≤ 8) && rts.all (fun r => wi r 0 63) && wi mg 0 63 && wi bl (-1) 15) from rfl)
                        clear hba hq HW
                        have HW := Lib.hid HWa.out
                        by_cases x0 : ni < 1
                        · have e0 : decide (((ni : Int) : Int) < 1) = true := decide_eq_true (by omega)
                          have hgn : decide (1 ≤ ni) = false := decide_eq_false (by omega)
                          have HFF := Lib.hid (HSY.out.2 (by rw [HSD.out, hrl]; simp only [wi, hgn, Bool.false_and])) 
                          have hr := HS1.out
                          rw [if_pos (show fmB p = false by rw [HFM.out, HFF.out]; simp)] at hr
                          have HR := Lib.hid hr
                          clear hr hgn x0 HSY hrl
                          go_wp2_with fail
                          all_goals
                            go_ret
                            have hr := HR.out
                            exact ⟨by first | rfl | (rw [hr]; rfl) | (rw [hr]), HRT.out _ HW.out⟩
                        have e0 : decide (((ni : Int) : Int) < 1) = false := decide_eq_false (by omega)
                        have g0 : decide (1 ≤ ni) = true := decide_eq_true (by omega)
                        clear x0
                        by_cases x1 : 8 < ni
                        · have e1 : decide ((8 : Int) < (ni : Int)) = true := decide_eq_true (by omega)
                          have hgn : decide (ni ≤ 8) = false := decide_eq_false (by omega)
                          have HFF := Lib.hid (HSY.out.2 (by rw [HSD.out, hrl]; simp only [wi, hgn, Bool.and_false, Bool.false_and])) 
                          have hr := HS1.out
                          rw [if_pos (show fmB p = false by rw [HFM.out, HFF.out]; simp)] at hr
                          have HR := Lib.hid hr
                          clear hr hgn x1 HSY hrl
                          go_wp2_with fail
                          all_goals
                            go_ret
                            have hr := HR.out
                            exact ⟨by first | rfl | (rw [hr]; rfl) | (rw [hr]), HRT.out _ HW.out⟩
                        have e1 : decide ((8 : Int) < (ni : Int)) = false := decide_eq_false (by omega)
                        have g1 : decide (ni ≤ 8) = true := decide_eq_true (by omega)
                        have hn8 : ni ≤ 8 := by omega
                        clear x1
                        by_cases x2 : mg < 0
                        · have e2 : decide ((mg : Int) < 0) = true := decide_eq_true (by omega)
                          have hgn : decide (0 ≤ mg) = false := decide_eq_false (by omega)
                          have HFF := Lib.hid (HSY.out.2 (by rw [HSD.out, hrl]; simp only [wi, hgn, Bool.and_false, Bool.false_and])) 
                          have hr := HS1.out
                          rw [if_pos (show fmB p = false by rw [HFM.out, HFF.out]; simp)] at hr
                          have HR := Lib.hid hr
                          clear hr hgn x2 HSY hrl
                          go_wp2_with fail
                          all_goals
                            go_ret
                            have hr := HR.out
                            exact ⟨by first | rfl | (rw [hr]; rfl) | (rw [hr]), HRT.out _ HW.out⟩
                        have e2 : decide ((mg : Int) < 0) = false := decide_eq_false (by omega)
                        have g2 : decide (0 ≤ mg) = true := decide_eq_true (by omega)
                        clear x2
                        by_cases x3 : 63 < mg
                        · have e3 : decide ((63 : Int) < mg) = true := decide_eq_true (by omega)
                          have hgn : decide (mg ≤ 63) = false := decide_eq_false (by omega)
                          have HFF := Lib.hid (HSY.out.2 (by rw [HSD.out, hrl]; simp only [wi, hgn, Bool.and_false, Bool.false_and])) 
                          have hr := HS1.out
                          rw [if_pos (show fmB p = false by rw [HFM.out, HFF.out]; simp)] at hr
                          have HR := Lib.hid hr
                          clear hr hgn x3 HSY hrl
                          go_wp2_with fail
                          all_goals
                            go_ret
                            have hr := HR.out
                            exact ⟨by first | rfl | (rw [hr]; rfl) | (rw [hr]), HRT.out _ HW.out⟩
                        have e3 : decide ((63 : Int) < mg) = false := decide_eq_false (by omega)
                        have g3 : decide (mg ≤ 63) = true := decide_eq_true (by omega)
                        clear x3
                        by_cases x4 : bl < -1
                        · have e4 : decide ((bl : Int) < (-1)) = true := decide_eq_true (by omega)
                          have hgn : decide (-1 ≤ bl) = false := decide_eq_false (by omega)
                          have HFF := Lib.hid (HSY.out.2 (by rw [HSD.out, hrl]; simp only [wi, hgn, Bool.and_false, Bool.false_and])) 
                          have hr := HS1.out
                          rw [if_pos (show fmB p = false by rw [HFM.out, HFF.out]; simp)] at hr
                          have HR := Lib.hid hr
                          clear hr hgn x4 HSY hrl
                          go_wp2_with fail
                          all_goals
                            go_ret
                            have hr := HR.out
                            exact ⟨by first | rfl | (rw [hr]; rfl) | (rw [hr]), HRT.out _ HW.out⟩
                        have e4 : decide ((bl : Int) < (-1)) = false := decide_eq_false (by omega)
                        have g4 : decide (-1 ≤ bl) = true := decide_eq_true (by omega)
                        clear x4
                        by_cases x5 : 15 < bl
                        · have e5 : decide ((15 : Int) < bl) = true := decide_eq_true (by omega)
                          have hgn : decide (bl ≤ 15) = false := decide_eq_false (by omega)
                          have HFF := Lib.hid (HSY.out.2 (by rw [HSD.out, hrl]; simp only [wi, hgn, Bool.and_false])) 
                          have hr := HS1.out
                          rw [if_pos (show fmB p = false by rw [HFM.out, HFF.out]; simp)] at hr
                          have HR := Lib.hid hr
                          clear hr hgn x5 HSY hrl
                          go_wp2_with fail
                          all_goals
                            go_ret
                            have hr := HR.out
                            exact ⟨by first | rfl | (rw [hr]; rfl) | (rw [hr]), HRT.out _ HW.out⟩
                        have e5 : decide ((15 : Int) < bl) = false := decide_eq_false (by omega)
                        have g5 : decide (bl ≤ 15) = true := decide_eq_true (by omega)
                        clear x5
                        have HGO := Lib.hid (show rts.all (fun r => wi r 0 63) = true → sdB ⟨mg, rts, bl⟩ = true by intro h; rw [HSD.out, h, hrl]; simp only [wi, g0, g1, g2, g3, g4, g5, Bool.and_true])
                        have HBA := Lib.hid (show rts.all (fun r => wi r 0 63) = false → sdB ⟨mg, rts, bl⟩ = false by intro h; rw [HSD.out, h]; simp)
                        have HRL := Lib.hid hrl
                        clear hrl g0 g1 g2 g3 g4 g5
                        go_wp2_with fail
                        clear e0 e1 e2 e3 e4 e5
                        generalize wr.alloc (.cells #[.int .i64 mg, .slice Ai ni ci, .int .i64 bl] 43) = wa at *
                        go_loopw [15] (fun i wi_ => ∃ j : Nat, j ≤ ni ∧ i = .int .i64 (j : Int) ∧ wi_ = wa ∧ ∀ m, m < j → (fun r => wi r 0 63) (it rts m) = true) (fun i _ => ni - (intOf i).toNat)
                        case atStart => exact ⟨0, by omega, rfl, rfl, fun j hj => absurd hj (by omega)⟩
                        case round =>
                          obtain ⟨j, hj, rfl, rfl, hall7⟩ := hrel
                          have HA7 := Lib.hid hall7
                          clear hall7
                          by_cases hlt7 : j < ni
                          · have dj : (j : Int) < (ni : Int) := by omega
                            obtain ⟨ad, hAi, hadB, x0w, hbnd⟩ := HRI.out.at_ hlt7
                            clear hbnd
                            have x0 := (HW.out.cell (p := ad.add j) (by rw [block_of_add]; omega)).trans x0w
                            have HSZ := Lib.hid (asked (f := fun r => wi r 0 63) (at_ := it) (fun {_} h => it_eq h) (by rw [HRL.out]; exact hlt7) HA7.out)
                            generalize it rts j = z at *
                            rw [hAi] at q1
                            clear hAi x0w
                            have hcs : (z < 0) ∨ (0 ≤ z ∧ 63 < z) ∨ (0 ≤ z ∧ z ≤ 63) := by omega
                            rcases hcs with hc0 | ⟨hc0, hc1⟩ | ⟨hc0, hc1⟩
                            · have e0 : decide ((z : Int) < 0) = true := decide_eq_true (by omega)
                              have HFF := Lib.hid (HSY.out.2 (HBA.out (HSZ.out.2 (by unfold wi; simp; omega))))
                              have hr := HS1.out
                              rw [if_pos (show fmB p = false by rw [HFM.out, HFF.out]; simp)] at hr
                              have HR := Lib.hid hr
                              clear hc0
                              clear hr HSY HSZ
                              go_wp2_with fail
                              all_goals
                                go_ret
                                have hr := HR.out
                                exact ⟨by first | rfl | (rw [hr]; rfl) | (rw [hr]), HRT.out _ HW.out⟩
                            · have e0 : decide ((z : Int) < 0) = false := decide_eq_false (by omega)
                              have e1 : decide ((63 : Int) < z) = true := decide_eq_true (by omega)
                              have HFF := Lib.hid (HSY.out.2 (HBA.out (HSZ.out.2 (by unfold wi; simp; omega))))
                              have hr := HS1.out
                              rw [if_pos (show fmB p = false by rw [HFM.out, HFF.out]; simp)] at hr
                              have HR := Lib.hid hr
                              clear hc0 hc1
                              clear hr HSY HSZ
                              go_wp2_with fail
                              all_goals
                                go_ret
                                have hr := HR.out
                                exact ⟨by first | rfl | (rw [hr]; rfl) | (rw [hr]), HRT.out _ HW.out⟩
                            · have e0 : decide ((z : Int) < 0) = false := decide_eq_false (by omega)
                              have e1 : decide ((63 : Int) < z) = false := decide_eq_false (by omega)
                              have HGG := Lib.hid (HSZ.out.1 (by unfold wi; simp; omega))
                              clear hc0 hc1
                              clear HSZ
                              go_wp2_with fail
                              exact ⟨⟨j + 1, by omega, by go_num, by first | rfl | trivial, HGG.out⟩, by simp [intOf]; omega⟩
                          · obtain rfl : j = ni := by omega
                            have HSA := Lib.hid (asked_all (f := fun r => wi r 0 63) (at_ := it) (fun {_} h => it_eq h) (by rw [HRL.out]; exact HA7.out))
                            have HGG := Lib.hid (HSY.out.1 (HGO.out HSA.out))
                            clear HSY HA7
                            go_wp2_with fail
                            exact ⟨⟨k + 1, by omega, by go_num, HW.out, HGG.out⟩, by simp [intOf]; omega⟩
                    · obtain rfl : k = d.n4 := by omega
                      have HDS := Lib.hid (asked_all (f := sdB) (at_ := dat) (fun {_} h => dat_eq h) (by rw [HL4.out]; exact HA.out))
                      have hr := HS1.out
                      rw [if_neg (show ¬ fmB p = false by rw [HFM.out, HSH.out, HMS.out, HRS.out, HDS.out]; decide)] at hr
                      have HS2 := Lib.hid hr
                      clear HA hr
                      have p0 := HFR.out wr HW.out 0 _ rfl
                      have p1 := HFR.out wr HW.out 1 _ rfl
                      have p2 := HFR.out wr HW.out 2 _ rfl
                      have p4 := HFR.out wr HW.out 4 _ rfl
                      have p5 := HFR.out wr HW.out 5 _ rfl
                      have p6 := HFR.out wr HW.out 6 _ rfl
                      have p7 := HFR.out wr HW.out 7 _ rfl
                      have HBE := Lib.hid (show bdB p = (decide (d.n1 ≤ 4000) && decide (d.n2 ≤ 64) && decide (d.n3 ≤ 64) && decide (d.n4 ≤ 64) && wi p.vars 0 64 && wi p.stack 0 64 && wi p.blocks 0 16 && wi p.fuel 0 1000000) by rw [HBD.out, HL1.out, HL2.out, HL3.out, HL4.out])
                      clear HBD HFM HL1 HL2 HL3 HL4 HS1 HSH HMS HRS HDS HPR HFR HUS
                      generalize bdB p = bd at *
                      generalize p.vars = vv at *
                      generalize p.stack = vs at *
                      generalize p.blocks = vb at *
                      generalize p.fuel = vf at *
                      generalize d.n1 = n1 at *
                      generalize d.n2 = n2 at *
                      generalize d.n3 = n3 at *
                      generalize d.n4 = n4 at *
                      as_aux_lemma =>
                        by_cases x0 : 4000 < n1
                        · have e0 : decide ((4000 : Int) < (n1 : Int)) = true := decide_eq_true (by omega)
                          have hgn : decide (n1 ≤ 4000) = false := decide_eq_false (by omega)
                          have hr := HS2.out
                          rw [if_pos (show bd = false by rw [HBE.out]; simp only [wi, hgn, Bool.false_and])] at hr
                          have HR := Lib.hid hr
                          clear hr hgn x0 HBE HS2
                          go_wp2_with fail
                          all_goals
                            go_ret
                            have hr := HR.out
                            exact ⟨by first | rfl | (rw [hr]; rfl) | (rw [hr]), HRT.out _ HW.out⟩
                        have e0 : decide ((4000 : Int) < (n1 : Int)) = false := decide_eq_false (by omega)
                        have g0 : decide (n1 ≤ 4000) = true := decide_eq_true (by omega)
                        clear x0
                        by_cases x1 : 64 < n2
                        · have e1 : decide ((64 : Int) < (n2 : Int)) = true := decide_eq_true (by omega)
                          have hgn : decide (n2 ≤ 64) = false := decide_eq_false (by omega)
                          have hr := HS2.out
                          rw [if_pos (show bd = false by rw [HBE.out]; simp only [wi, hgn, Bool.and_false, Bool.false_and])] at hr
                          have HR := Lib.hid hr
                          clear hr hgn x1 HBE HS2
                          go_wp2_with fail
                          all_goals
                            go_ret
                            have hr := HR.out
                            exact ⟨by first | rfl | (rw [hr]; rfl) | (rw [hr]), HRT.out _ HW.out⟩
                        have e1 : decide ((64 : Int) < (n2 : Int)) = false := decide_eq_false (by omega)
                        have g1 : decide (n2 ≤ 64) = true := decide_eq_true (by omega)
                        clear x1
                        by_cases x2 : 64 < n3
                        · have e2 : decide ((64 : Int) < (n3 : Int)) = true := decide_eq_true (by omega)
                          have hgn : decide (n3 ≤ 64) = false := decide_eq_false (by omega)
                          have hr := HS2.out
                          rw [if_pos (show bd = false by rw [HBE.out]; simp only [wi, hgn, Bool.and_false, Bool.false_and])] at hr
                          have HR := Lib.hid hr
                          clear hr hgn x2 HBE HS2
                          go_wp2_with fail
                          all_goals
                            go_ret
                            have hr := HR.out
                            exact ⟨by first | rfl | (rw [hr]; rfl) | (rw [hr]), HRT.out _ HW.out⟩
                        have e2 : decide ((64 : Int) < (n3 : Int)) = false := decide_eq_false (by omega)
                        have g2 : decide (n3 ≤ 64) = true := decide_eq_true (by omega)
                        clear x2
                        by_cases x3 : 64 < n4
                        · have e3 : decide ((64 : Int) < (n4 : Int)) = true := decide_eq_true (by omega)
                          have hgn : decide (n4 ≤ 64) = false := decide_eq_false (by omega)
                          have hr := HS2.out
                          rw [if_pos (show bd = false by rw [HBE.out]; simp only [wi, hgn, Bool.and_false, Bool.false_and])] at hr
                          have HR := Lib.hid hr
                          clear hr hgn x3 HBE HS2
                          go_wp2_with fail
                          all_goals
                            go_ret
                            have hr := HR.out
                            exact ⟨by first | rfl | (rw [hr]; rfl) | (rw [hr]), HRT.out _ HW.out⟩
                        have e3 : decide ((64 : Int) < (n4 : Int)) = false := decide_eq_false (by omega)
                        have g3 : decide (n4 ≤ 64) = true := decide_eq_true (by omega)
                        clear x3
                        by_cases x4 : vv < 0
                        · have e4 : decide ((vv : Int) < 0) = true := decide_eq_true (by omega)
                          have hgn : decide (0 ≤ vv) = false := decide_eq_false (by omega)
                          have hr := HS2.out
                          rw [if_pos (show bd = false by rw [HBE.out]; simp only [wi, hgn, Bool.and_false, Bool.false_and])] at hr
                          have HR := Lib.hid hr
                          clear hr hgn x4 HBE HS2
                          go_wp2_with fail
                          all_goals
                            go_ret
                            have hr := HR.out
                            exact ⟨by first | rfl | (rw [hr]; rfl) | (rw [hr]), HRT.out _ HW.out⟩
                        have e4 : decide ((vv : Int) < 0) = false := decide_eq_false (by omega)
                        have g4 : decide (0 ≤ vv) = true := decide_eq_true (by omega)
                        clear x4
                        by_cases x5 : 64 < vv
                        · have e5 : decide ((64 : Int) < vv) = true := decide_eq_true (by omega)
                          have hgn : decide (vv ≤ 64) = false := decide_eq_false (by omega)
                          have hr := HS2.out
                          rw [if_pos (show bd = false by rw [HBE.out]; simp only [wi, hgn, Bool.and_false, Bool.false_and])] at hr
                          have HR := Lib.hid hr
                          clear hr hgn x5 HBE HS2
                          go_wp2_with fail
                          all_goals
                            go_ret
                            have hr := HR.out
                            exact ⟨by first | rfl | (rw [hr]; rfl) | (rw [hr]), HRT.out _ HW.out⟩
                        have e5 : decide ((64 : Int) < vv) = false := decide_eq_false (by omega)
                        have g5 : decide (vv ≤ 64) = true := decide_eq_true (by omega)
                        clear x5
                        by_cases x6 : vs < 0
                        · have e6 : decide ((vs : Int) < 0) = true := decide_eq_true (by omega)
                          have hgn : decide (0 ≤ vs) = false := decide_eq_false (by omega)
                          have hr := HS2.out
                          rw [if_pos (show bd = false by rw [HBE.out]; simp only [wi, hgn, Bool.and_false, Bool.false_and])] at hr
                          have HR := Lib.hid hr
                          clear hr hgn x6 HBE HS2
                          go_wp2_with fail
                          all_goals
                            go_ret
                            have hr := HR.out
                            exact ⟨by first | rfl | (rw [hr]; rfl) | (rw [hr]), HRT.out _ HW.out⟩
                        have e6 : decide ((vs : Int) < 0) = false := decide_eq_false (by omega)
                        have g6 : decide (0 ≤ vs) = true := decide_eq_true (by omega)
                        clear x6
                        by_cases x7 : 64 < vs
                        · have e7 : decide ((64 : Int) < vs) = true := decide_eq_true (by omega)
                          have hgn : decide (vs ≤ 64) = false := decide_eq_false (by omega)
                          have hr := HS2.out
                          rw [if_pos (show bd = false by rw [HBE.out]; simp only [wi, hgn, Bool.and_false, Bool.false_and])] at hr
                          have HR := Lib.hid hr
                          clear hr hgn x7 HBE HS2
                          go_wp2_with fail
                          all_goals
                            go_ret
                            have hr := HR.out
                            exact ⟨by first | rfl | (rw [hr]; rfl) | (rw [hr]), HRT.out _ HW.out⟩
                        have e7 : decide ((64 : Int) < vs) = false := decide_eq_false (by omega)
                        have g7 : decide (vs ≤ 64) = true := decide_eq_true (by omega)
                        clear x7
                        by_cases x8 : vb < 0
                        · have e8 : decide ((vb : Int) < 0) = true := decide_eq_true (by omega)
                          have hgn : decide (0 ≤ vb) = false := decide_eq_false (by omega)
                          have hr := HS2.out
                          rw [if_pos (show bd = false by rw [HBE.out]; simp only [wi, hgn, Bool.and_false, Bool.false_and])] at hr
                          have HR := Lib.hid hr
                          clear hr hgn x8 HBE HS2
                          go_wp2_with fail
                          all_goals
                            go_ret
                            have hr := HR.out
                            exact ⟨by first | rfl | (rw [hr]; rfl) | (rw [hr]), HRT.out _ HW.out⟩
                        have e8 : decide ((vb : Int) < 0) = false := decide_eq_false (by omega)
                        have g8 : decide (0 ≤ vb) = true := decide_eq_true (by omega)
                        clear x8
                        by_cases x9 : 16 < vb
                        · have e9 : decide ((16 : Int) < vb) = true := decide_eq_true (by omega)
                          have hgn : decide (vb ≤ 16) = false := decide_eq_false (by omega)
                          have hr := HS2.out
                          rw [if_pos (show bd = false by rw [HBE.out]; simp only [wi, hgn, Bool.and_false, Bool.false_and])] at hr
                          have HR := Lib.hid hr
                          clear hr hgn x9 HBE HS2
                          go_wp2_with fail
                          all_goals
                            go_ret
                            have hr := HR.out
                            exact ⟨by first | rfl | (rw [hr]; rfl) | (rw [hr]), HRT.out _ HW.out⟩
                        have e9 : decide ((16 : Int) < vb) = false := decide_eq_false (by omega)
                        have g9 : decide (vb ≤ 16) = true := decide_eq_true (by omega)
                        clear x9
                        by_cases x10 : vf < 0
                        · have e10 : decide ((vf : Int) < 0) = true := decide_eq_true (by omega)
                          have hgn : decide (0 ≤ vf) = false := decide_eq_false (by omega)
                          have hr := HS2.out
                          rw [if_pos (show bd = false by rw [HBE.out]; simp only [wi, hgn, Bool.and_false, Bool.false_and])] at hr
                          have HR := Lib.hid hr
                          clear hr hgn x10 HBE HS2
                          go_wp2_with fail
                          all_goals
                            go_ret
                            have hr := HR.out
                            exact ⟨by first | rfl | (rw [hr]; rfl) | (rw [hr]), HRT.out _ HW.out⟩
                        have e10 : decide ((vf : Int) < 0) = false := decide_eq_false (by omega)
                        have g10 : decide (0 ≤ vf) = true := decide_eq_true (by omega)
                        clear x10
                        by_cases x11 : 1000000 < vf
                        · have e11 : decide ((1000000 : Int) < vf) = true := decide_eq_true (by omega)
                          have hgn : decide (vf ≤ 1000000) = false := decide_eq_false (by omega)
                          have hr := HS2.out
                          rw [if_pos (show bd = false by rw [HBE.out]; simp only [wi, hgn, Bool.and_false])] at hr
                          have HR := Lib.hid hr
                          clear hr hgn x11 HBE HS2
                          go_wp2_with fail
                          all_goals
                            go_ret
                            have hr := HR.out
                            exact ⟨by first | rfl | (rw [hr]; rfl) | (rw [hr]), HRT.out _ HW.out⟩
                        have e11 : decide ((1000000 : Int) < vf) = false := decide_eq_false (by omega)
                        have g11 : decide (vf ≤ 1000000) = true := decide_eq_true (by omega)
                        clear x11
                        have hr := HS2.out
                        rw [if_neg (show ¬ bd = false by rw [HBE.out]; simp only [wi, g0, g1, g2, g3, g4, g5, g6, g7, g8, g9, g10, g11, Bool.and_true]; decide)] at hr
                        have HR := Lib.hid hr
                        clear hr g0 g1 g2 g3 g4 g5 g6 g7 g8 g9 g10 g11 HBE HS2
                        go_wp2_with fail
                        all_goals
                          go_ret
                          have hr := HR.out
                          exact ⟨by first | rfl | (rw [hr]; rfl) | (rw [hr]), HRT.out _ HW.out⟩
end Go.Proofs.YtkmcjjoicpgjfaaDoor
