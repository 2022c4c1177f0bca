/-
  Contract of search.process. Conditions: a search lies in memory; the program is in form; the place is an instruction's.
-/
import Derived.Test.YtkmcjjoicpgjfaaVerFind
import Derived.Test.YtkmcjjoicpgjfaaVerNext
namespace Go.Proofs.Ytkmcjjoicpgjfaa
open Go Go.RowKit Go.Sh

theorem efN_le (o : Nat) : (efN o).1 ≤ 2 ∧ (efN o).2 ≤ 1 := by
  unfold efN
  split
  · simp
  · split
    · simp
    · split
      · simp
      · split <;> simp
/-- does an op end? -/
def endB (o : Nat) : Bool := decide (o = 0 ∨ o = 16)
/-- one step and then another, unless the first is an error -/
def thenS (r : Int × St) (f : St → Int × St) : Int × St := if r.1 = 0 then f r.2 else r
theorem thenS_ok (s : St) (f : St → Int × St) : thenS (0, s) f = f s := by unfold thenS; rw [if_pos rfl]
theorem thenS_err {r : Int × St} (h : r.1 ≠ 0) (f : St → Int × St) : thenS r f = r := by unfold thenS; rw [if_neg h]
/-- an instruction is looked at: its op, its number, its height, whether it is a timer's -/
def procT (n : Nat) (stack : Int) (s : St) (k o : Nat) (a h : Int) (t : Bool) : Int × St :=
  if ((o = 0 ∨ o = 12) ∧ t = true) ∨ (o = 16 ∧ t = false) then (10, s)
  else if h < ((efN o).1 : Int) ∨ stack < h - ((efN o).1 : Int) + ((efN o).2 : Int) ∨ ((o = 0 ∨ o = 16) ∧ h ≠ 0) then (13, s)
  else thenS (if o ≠ 0 ∧ o ≠ 16 ∧ o ≠ 7 then findS n { s with pk := max s.pk (h - ((efN o).1 : Int) + ((efN o).2 : Int)) } ((k + 1 : Nat) : Int) (h - ((efN o).1 : Int) + ((efN o).2 : Int)) t else (0, { s with pk := max s.pk (h - ((efN o).1 : Int) + ((efN o).2 : Int)) })) fun s2 =>
    thenS (if o = 7 ∨ o = 8 then findS n s2 a (h - ((efN o).1 : Int) + ((efN o).2 : Int)) t else (0, s2)) fun s3 =>
      if o = 13 then findS n s3 a 0 true else (0, s3)
def procS (p : Prg) (n : Nat) (s : St) (k : Nat) : Int × St := procT n p.stack s k (iat p.code k).op.toNat (iat p.code k).a (it s.hs k) (bat s.ts k)
set_option maxRecDepth 100000 in
set_option maxHeartbeats 8000000 in
theorem process_is (d : Pad) (p : Prg) (G B q gh gt gw n : Nat) (s : St) (k : Nat) (w : World) (hm : SM w d p q gh gt gw n s) (ha : Apt G q gh gt gw) (hr : RR w B 3 d.A1 n (p.code.map Ins.cells)) (hd : d.n1 = n) (hk : k < n) (hn : n ≤ 4000) (hf : Formed p) (hh : -1 ≤ it s.hs k ∧ it s.hs k ≤ 64) :
    Calls Try.prog 28 #[.pointer (some ⟨q, 0, none⟩), .int .i64 (k : Int)] w (fun e w' => e = .returned (.int .i64 (procS p n s k).1) ∧ SM w' d p q gh gt gw n (procS p n s k).2 ∧ Below G w w') := by
  have HM := Lib.hid hm
  have HA := Lib.hid ha
  have HL := Lib.hid (show p.code.length = n by have := hr.len; rw [List.length_map] at this; exact this)
  obtain ⟨b, off, hA1, hbB, i0, i1, i2⟩ := ins_at hr hk
  have hop := hf.ops _ (iat_mem (l := p.code) (k := k) (by rw [HL.out]; exact hk))
  have hsh := hf.ins _ (iat_mem (l := p.code) (k := k) (by rw [HL.out]; exact hk))
  have c0 := hm.c0
  have c1 := hm.c1
  have c3 := hm.c3
  have ch := hm.ch hk
  have ct := hm.ct hk
  rw [hA1, hd] at c3
  have c8 := hm.c8
  have HP := Lib.hid (show procS p n s k = procT n p.stack s k (iat p.code k).op.toNat (iat p.code k).a (it s.hs k) (bat s.ts k) from rfl)
  obtain ⟨r, hr2⟩ : ∃ r, procS p n s k = r := ⟨_, rfl⟩
  rw [hr2] at HP ⊢
  clear hr2 hm ha hr hf
  generalize iat p.code k = st at *
  obtain ⟨op, a, bb⟩ := st
  simp only at i0 i1 i2 hop HP
  have HSH := Lib.hid hsh
  have HOP := Lib.hid hop
  clear hsh hop
  generalize it s.hs k = x at *
  generalize bat s.ts k = t at *
  have HX := Lib.hid hh
  clear hh
  have hk' : (k : Int) < (n : Int) := by omega
  have n1 := World.new_ne w _ c0
  have n2 := World.new_ne w _ i0
  have n3 := World.new_ne w _ ch
  have n4 := World.new_ne w _ ct
  simp only at n1 n2 n3 n4
  have m1 := Ne.symm n1
  have m2 := Ne.symm n2
  have m3 := Ne.symm n3
  have m4 := Ne.symm n4
  clear hA1 hd
  go_enter Try.func28, Try.ntmps28
  go_wp2_with fail
  go_region_held3 (fun w' => w'.cell? ⟨q, 0, none⟩ = some (.slice (some ⟨gh, 0, none⟩) n n) ∧ w'.cell? ⟨q, 1, none⟩ = some (.slice (some ⟨gt, 0, none⟩) n n) ∧ w'.cell? ⟨q, 3, none⟩ = some (.slice (some ⟨b, off, none⟩) n d.c1) ∧ w'.cell? ⟨b, off + k * 3, none⟩ = some (.int .u8 (op.toNat : Int)) ∧ w'.cell? ⟨b, off + k * 3 + 1, none⟩ = some (.int .i64 a) ∧ w'.cell? ⟨b, off + k * 3 + 2, none⟩ = some (.int .i64 bb) ∧ w'.cell? ⟨gh, k, none⟩ = some (.int .i64 x) ∧ w'.cell? ⟨gt, k, none⟩ = some (.bool t)) (go_keep) (fail)
  -- CLASSES
  have hgw : G ≤ w.heap.size := Nat.le_trans HA.out.lq (Nat.le_of_lt HM.out.q_lt)
  have hqlt := HM.out.q_lt
  have HLT := Lib.hid (show q < w.heap.size ∧ gh < w.heap.size ∧ gt < w.heap.size ∧ gw < w.heap.size from ⟨HM.out.q_lt, HM.out.h_lt, HM.out.t_lt, HM.out.w_lt⟩)
  have hba := (Below.refl w.heap.size w).alloc (Nat.le_refl _) (.cells #[.int .u8 (op.toNat : Int), .int .i64 a, .int .i64 bb] 39)
  have HM2 := Lib.hid ((HM.out.new hba).drewN 1)
  have HB2 := Lib.hid (below_drewN (hba.mono hgw) 1)
  have hI : ((w.alloc (.cells #[.int .u8 (op.toNat : Int), .int .i64 a, .int .i64 bb] 39)).drewN 1).heap[w.heap.size]? = some (.cells #[.int .u8 (op.toNat : Int), .int .i64 a, .int .i64 bb] 39 (0, 0)) := heap_alloc_new w _
  have j0 : ((w.alloc (.cells #[.int .u8 (op.toNat : Int), .int .i64 a, .int .i64 bb] 39)).drewN 1).cell? ⟨w.heap.size, 0, none⟩ = some (.int .u8 (op.toNat : Int)) := by rw [blk_cell hI]; rfl
  have HI := Lib.hid hI
  change Exit.then _ _ _ _ ((w.alloc (.cells #[.int .u8 (op.toNat : Int), .int .i64 a, .int .i64 bb] 39)).drewN 1)
  clear c0 c1 c3 c8 i0 i1 i2 ch ct n1 n2 n3 n4 m1 m2 m3 m4 hba hI HM
  generalize (w.alloc (.cells #[.int .u8 (op.toNat : Int), .int .i64 a, .int .i64 bb] 39)).drewN 1 = w2 at *
  have HM2q := Lib.hid (show q < w.heap.size from hqlt)
  have c8 := HM2.out.c8
  have c2 := HM2.out.c2
  have fq : w2.frozen? ⟨q, 2, none⟩ = false := frozen_of_row _ _ _ _ _ HM2.out.blk
  have HSA := Lib.hid (show op.toNat = 7 ∨ op.toNat = 8 ∨ op.toNat = 13 → 0 ≤ a ∧ a ≤ 65535 from fun ho => by
    have h := HSH.out
    have hu : usN op.toNat = 2 := by rcases ho with e | e | e <;> rw [e] <;> rfl
    unfold shB at h
    rw [if_neg (by show ¬ usN op.toNat = 1; omega), if_pos (by exact hu)] at h
    rw [Bool.and_eq_true, wi_iff] at h
    exact h.1)
  clear HSH
  generalize op.toNat = o at *
  have HEN := Lib.hid (efN_le o)
  obtain ⟨pp, hpp⟩ : ∃ pp, (efN o).1 = pp := ⟨_, rfl⟩
  obtain ⟨qq, hqq⟩ : ∃ qq, (efN o).2 = qq := ⟨_, rfl⟩
  have HEF := Lib.hid (fun W => effect_any o HOP.out W)
  have hq := HP.out
  unfold procT at hq
  rw [hpp, hqq] at hq
  rw [hpp, hqq] at HEN HEF
  have HQ := Lib.hid hq
  clear hq hpp hqq HP
  have hx1 : -1 ≤ x := HX.out.1
  have hx2 : x ≤ 64 := HX.out.2
  have hp2 : pp ≤ 2 := HEN.out.1
  have hq1 : qq ≤ 1 := HEN.out.2
  obtain ⟨g5, hg5⟩ : ∃ g5, w.heap.size = g5 := ⟨_, rfl⟩
  have HG5 := Lib.hid hg5
  rw [hg5] at HI j0 hgw HM2q HLT ⊢
  clear hqlt
  have j1 : w2.cell? ⟨g5, 1, none⟩ = some (.int .i64 a) := by rw [blk_cell HI.out]; rfl
  clear hg5
  rcases (show o = 0 ∨ o = 12 ∨ o = 16 ∨ o = 7 ∨ o = 8 ∨ o = 13 ∨ (o ≠ 0 ∧ o ≠ 12 ∧ o ≠ 16 ∧ o ≠ 7 ∧ o ≠ 8 ∧ o ≠ 13) by omega) with e | e | e | e | e | e | e
  · have HE0 := Lib.hid e
    have f0 : ((o : Int) == 0) = true := by rw [beq_iff_eq]; omega
    have f16 : ((o : Int) == 16) = false := by rw [beq_eq_false_iff_ne]; omega
    have f12 : ((o : Int) == 12) = false := by rw [beq_eq_false_iff_ne]; omega
    have f7 : ((o : Int) == 7) = false := by rw [beq_eq_false_iff_ne]; omega
    have f8 : ((o : Int) == 8) = false := by rw [beq_eq_false_iff_ne]; omega
    have f13 : ((o : Int) == 13) = false := by rw [beq_eq_false_iff_ne]; omega
    cases t
    · have hq := HQ.out
      rw [if_neg (by rintro (⟨h1, h2⟩ | ⟨h1, h2⟩) <;> first | (cases h2; done) | omega)] at hq
      have HQ2 := Lib.hid hq
      clear hq e HQ
      go_wp2_with fail
      refine (HEF.out w2).mono ?_
      rintro e w3 ⟨rfl, rfl⟩
      by_cases g1 : x < (pp : Int)
      · have hq := HQ2.out
        rw [if_pos (.inl g1)] at hq
        have HV := Lib.hid hq
        clear hq HQ2
        go_wp2_with fail
        go_ret
        exact ⟨by rw [HV.out]; rfl, by rw [HV.out]; exact HM2.out, HB2.out⟩
      · by_cases g2 : p.stack < x - (pp : Int) + (qq : Int)
        · have hq := HQ2.out
          rw [if_pos (.inr (.inl g2))] at hq
          have HV := Lib.hid hq
          clear hq HQ2
          go_wp2_with fail
          go_ret
          exact ⟨by rw [HV.out]; rfl, by rw [HV.out]; exact HM2.out, HB2.out⟩
        · by_cases hx0 : x = 0
          case neg =>
            have hq := HQ2.out
            rw [if_pos (.inr (.inr ⟨by have := HE0.out; omega, hx0⟩))] at hq
            have HV := Lib.hid hq
            have g3 : (x != 0) = true := by rw [bne_iff_ne]; exact hx0
            clear hq HQ2 hx0
            go_wp2_with fail
            go_ret
            exact ⟨by rw [HV.out]; rfl, by rw [HV.out]; exact HM2.out, HB2.out⟩
          case pos =>
            have g3 : (x != 0) = false := by rw [bne_eq_false_iff_eq]; exact hx0
            have HX0 := Lib.hid hx0
            have hq := HQ2.out
            rw [if_neg (by rintro (h | h | ⟨_, h⟩) <;> omega)] at hq
            clear hx0
            have HQ3 := Lib.hid hq
            clear hq HQ2
            by_cases hmx : s.pk < (x - (pp : Int) + (qq : Int))
            · have HMX := Lib.hid (show max s.pk (x - (pp : Int) + (qq : Int)) = (x - (pp : Int) + (qq : Int)) from Int.max_eq_right (by omega))
              have HM3 := Lib.hid (HM2.out.setP HA.out (x - (pp : Int) + (qq : Int)))
              have HB3 := Lib.hid (HB2.out.setCell (p := ⟨q, 2, none⟩) HA.out.lq (.int .i64 (x - (pp : Int) + (qq : Int))))
              rw [HMX.out] at HQ3
              have HI3 := Lib.hid ((far_blk (v := .int .i64 (x - (pp : Int) + (qq : Int))) (k := 2) (P := w2) (show g5 ≠ q by have := HM2q.out; omega)).trans HI.out)
              have hq := HQ3.out
              rw [if_neg (by have := HE0.out; omega), thenS_ok, if_neg (by have := HE0.out; omega), thenS_ok, if_neg (by have := HE0.out; omega)] at hq
              have HV := Lib.hid hq
              clear hq HQ3
              go_wp2_with fail
              go_ret
              exact ⟨by rw [HV.out]; rfl, by rw [HV.out]; exact HM3.out, HB3.out⟩
            · have HMX := Lib.hid (show max s.pk (x - (pp : Int) + (qq : Int)) = s.pk from Int.max_eq_left (by omega))
              have HM3 := Lib.hid (HM2.out.setP HA.out s.pk)
              have HB3 := Lib.hid (HB2.out.setCell (p := ⟨q, 2, none⟩) HA.out.lq (.int .i64 s.pk))
              rw [HMX.out] at HQ3
              have HI3 := Lib.hid ((far_blk (v := .int .i64 s.pk) (k := 2) (P := w2) (show g5 ≠ q by have := HM2q.out; omega)).trans HI.out)
              have hq := HQ3.out
              rw [if_neg (by have := HE0.out; omega), thenS_ok, if_neg (by have := HE0.out; omega), thenS_ok, if_neg (by have := HE0.out; omega)] at hq
              have HV := Lib.hid hq
              clear hq HQ3
              go_wp2_with fail
              go_ret
              exact ⟨by rw [HV.out]; rfl, by rw [HV.out]; exact HM3.out, HB3.out⟩
    · have hq := HQ.out
      rw [if_pos (.inl ⟨.inl e, rfl⟩)] at hq
      have HV := Lib.hid hq
      clear hq e HQ
      go_wp2_with fail
      go_ret
      exact ⟨by rw [HV.out]; rfl, by rw [HV.out]; exact HM2.out, HB2.out⟩
  · have HE0 := Lib.hid e
    have f0 : ((o : Int) == 0) = false := by rw [beq_eq_false_iff_ne]; omega
    have f16 : ((o : Int) == 16) = false := by rw [beq_eq_false_iff_ne]; omega
    have f12 : ((o : Int) == 12) = true := by rw [beq_iff_eq]; omega
    have f7 : ((o : Int) == 7) = false := by rw [beq_eq_false_iff_ne]; omega
    have f8 : ((o : Int) == 8) = false := by rw [beq_eq_false_iff_ne]; omega
    have f13 : ((o : Int) == 13) = false := by rw [beq_eq_false_iff_ne]; omega
    cases t
    · have hq := HQ.out
      rw [if_neg (by rintro (⟨h1, h2⟩ | ⟨h1, h2⟩) <;> first | (cases h2; done) | omega)] at hq
      have HQ2 := Lib.hid hq
      clear hq e HQ
      go_wp2_with fail
      refine (HEF.out w2).mono ?_
      rintro e w3 ⟨rfl, rfl⟩
      by_cases g1 : x < (pp : Int)
      · have hq := HQ2.out
        rw [if_pos (.inl g1)] at hq
        have HV := Lib.hid hq
        clear hq HQ2
        go_wp2_with fail
        go_ret
        exact ⟨by rw [HV.out]; rfl, by rw [HV.out]; exact HM2.out, HB2.out⟩
      · by_cases g2 : p.stack < x - (pp : Int) + (qq : Int)
        · have hq := HQ2.out
          rw [if_pos (.inr (.inl g2))] at hq
          have HV := Lib.hid hq
          clear hq HQ2
          go_wp2_with fail
          go_ret
          exact ⟨by rw [HV.out]; rfl, by rw [HV.out]; exact HM2.out, HB2.out⟩
        · have hq := HQ2.out
          rw [if_neg (by rintro (h | h | ⟨h, _⟩) <;> first | omega | (have := HE0.out; omega))] at hq
          have HQ3 := Lib.hid hq
          clear hq HQ2
          by_cases hmx : s.pk < (x - (pp : Int) + (qq : Int))
          · have HMX := Lib.hid (show max s.pk (x - (pp : Int) + (qq : Int)) = (x - (pp : Int) + (qq : Int)) from Int.max_eq_right (by omega))
            have HM3 := Lib.hid (HM2.out.setP HA.out (x - (pp : Int) + (qq : Int)))
            have HB3 := Lib.hid (HB2.out.setCell (p := ⟨q, 2, none⟩) HA.out.lq (.int .i64 (x - (pp : Int) + (qq : Int))))
            rw [HMX.out] at HQ3
            have HI3 := Lib.hid ((far_blk (v := .int .i64 (x - (pp : Int) + (qq : Int))) (k := 2) (P := w2) (show g5 ≠ q by have := HM2q.out; omega)).trans HI.out)
            have hq := HQ3.out
            rw [if_pos (by have := HE0.out; omega), show ((k + 1 : Nat) : Int) = (k : Int) + 1 by omega] at hq
            obtain ⟨s1, hs1⟩ : ∃ s1, St.mk s.hs s.ts s.wt s.fs (x - (pp : Int) + (qq : Int)) = s1 := ⟨_, rfl⟩
            rw [hs1] at hq HM3
            have HQ4 := Lib.hid hq
            clear hq hs1 HQ3
            go_wp2_with fail
            generalize w2.setCell ⟨q, 2, none⟩ (.int .i64 (x - (pp : Int) + (qq : Int))) = w3 at *
            obtain ⟨⟨e5, s5⟩, hr5⟩ : ∃ r1, findS n s1 ((k : Int) + 1) (x - (pp : Int) + (qq : Int)) false = r1 := ⟨_, rfl⟩
            have hf5 := find_is d p G q gh gt gw n s1 (k + 1) (x - (pp : Int) + (qq : Int)) false w3 HM3.out HA.out
            rw [show ((k + 1 : Nat) : Int) = (k : Int) + 1 by omega] at hf5
            rw [hr5] at hf5
            have hq := HQ4.out
            rw [hr5] at hq
            have HQ5 := Lib.hid hq
            clear hq hr5
            refine hf5.mono ?_
            rintro e w5 ⟨rfl, hm5, hb5, ho5⟩
            have HM5 := Lib.hid hm5
            have HB5 := Lib.hid (HB3.out.trans hb5)
            have HI5 := Lib.hid ((ho5 g5 (by have := HLT.out; omega) (by have := HLT.out; omega) (by have := HLT.out; omega) (by have := HLT.out; omega)).trans HI3.out)
            clear hm5 hb5 ho5 hf5
            have j0 : w5.cell? ⟨g5, 0, none⟩ = some (.int .u8 (o : Int)) := by rw [blk_cell HI5.out]; rfl
            have j1 : w5.cell? ⟨g5, 1, none⟩ = some (.int .i64 a) := by rw [blk_cell HI5.out]; rfl
            by_cases he : e5 = 0
            case neg =>
              have hq := HQ5.out
              rw [thenS_err (by exact he)] at hq
              have HV := Lib.hid hq
              have he' : (e5 != 0) = true := by rw [bne_iff_ne]; exact he
              clear hq he
              go_wp2_with fail
              go_ret
              exact ⟨by rw [HV.out]; rfl, by rw [HV.out]; exact HM5.out, HB5.out⟩
            case pos =>
              subst he
              have hq := HQ5.out
              rw [thenS_ok] at hq
              have HQ5b := Lib.hid hq
              clear hq
              have hq := HQ5b.out
              rw [if_neg (by have := HE0.out; omega), thenS_ok, if_neg (by have := HE0.out; omega)] at hq
              have HV := Lib.hid hq
              clear hq
              go_wp2_with fail
              go_ret
              exact ⟨by rw [HV.out]; rfl, by rw [HV.out]; exact HM5.out, HB5.out⟩
          · have HMX := Lib.hid (show max s.pk (x - (pp : Int) + (qq : Int)) = s.pk from Int.max_eq_left (by omega))
            have HM3 := Lib.hid (HM2.out.setP HA.out s.pk)
            have HB3 := Lib.hid (HB2.out.setCell (p := ⟨q, 2, none⟩) HA.out.lq (.int .i64 s.pk))
            rw [HMX.out] at HQ3
            have HI3 := Lib.hid ((far_blk (v := .int .i64 s.pk) (k := 2) (P := w2) (show g5 ≠ q by have := HM2q.out; omega)).trans HI.out)
            have hq := HQ3.out
            rw [if_pos (by have := HE0.out; omega), show ((k + 1 : Nat) : Int) = (k : Int) + 1 by omega] at hq
            obtain ⟨s1, hs1⟩ : ∃ s1, St.mk s.hs s.ts s.wt s.fs s.pk = s1 := ⟨_, rfl⟩
            rw [hs1] at hq HM3
            have HQ4 := Lib.hid hq
            clear hq hs1 HQ3
            go_wp2_with fail
            generalize w2.setCell ⟨q, 2, none⟩ (.int .i64 s.pk) = w3 at *
            obtain ⟨⟨e5, s5⟩, hr5⟩ : ∃ r1, findS n s1 ((k : Int) + 1) (x - (pp : Int) + (qq : Int)) false = r1 := ⟨_, rfl⟩
            have hf5 := find_is d p G q gh gt gw n s1 (k + 1) (x - (pp : Int) + (qq : Int)) false w3 HM3.out HA.out
            rw [show ((k + 1 : Nat) : Int) = (k : Int) + 1 by omega] at hf5
            rw [hr5] at hf5
            have hq := HQ4.out
            rw [hr5] at hq
            have HQ5 := Lib.hid hq
            clear hq hr5
            refine hf5.mono ?_
            rintro e w5 ⟨rfl, hm5, hb5, ho5⟩
            have HM5 := Lib.hid hm5
            have HB5 := Lib.hid (HB3.out.trans hb5)
            have HI5 := Lib.hid ((ho5 g5 (by have := HLT.out; omega) (by have := HLT.out; omega) (by have := HLT.out; omega) (by have := HLT.out; omega)).trans HI3.out)
            clear hm5 hb5 ho5 hf5
            have j0 : w5.cell? ⟨g5, 0, none⟩ = some (.int .u8 (o : Int)) := by rw [blk_cell HI5.out]; rfl
            have j1 : w5.cell? ⟨g5, 1, none⟩ = some (.int .i64 a) := by rw [blk_cell HI5.out]; rfl
            by_cases he : e5 = 0
            case neg =>
              have hq := HQ5.out
              rw [thenS_err (by exact he)] at hq
              have HV := Lib.hid hq
              have he' : (e5 != 0) = true := by rw [bne_iff_ne]; exact he
              clear hq he
              go_wp2_with fail
              go_ret
              exact ⟨by rw [HV.out]; rfl, by rw [HV.out]; exact HM5.out, HB5.out⟩
            case pos =>
              subst he
              have hq := HQ5.out
              rw [thenS_ok] at hq
              have HQ5b := Lib.hid hq
              clear hq
              have hq := HQ5b.out
              rw [if_neg (by have := HE0.out; omega), thenS_ok, if_neg (by have := HE0.out; omega)] at hq
              have HV := Lib.hid hq
              clear hq
              go_wp2_with fail
              go_ret
              exact ⟨by rw [HV.out]; rfl, by rw [HV.out]; exact HM5.out, HB5.out⟩
    · have hq := HQ.out
      rw [if_pos (.inl ⟨.inr e, rfl⟩)] at hq
      have HV := Lib.hid hq
      clear hq e HQ
      go_wp2_with fail
      go_ret
      exact ⟨by rw [HV.out]; rfl, by rw [HV.out]; exact HM2.out, HB2.out⟩
  · have HE0 := Lib.hid e
    have f0 : ((o : Int) == 0) = false := by rw [beq_eq_false_iff_ne]; omega
    have f16 : ((o : Int) == 16) = true := by rw [beq_iff_eq]; omega
    have f12 : ((o : Int) == 12) = false := by rw [beq_eq_false_iff_ne]; omega
    have f7 : ((o : Int) == 7) = false := by rw [beq_eq_false_iff_ne]; omega
    have f8 : ((o : Int) == 8) = false := by rw [beq_eq_false_iff_ne]; omega
    have f13 : ((o : Int) == 13) = false := by rw [beq_eq_false_iff_ne]; omega
    cases t
    · have hq := HQ.out
      rw [if_pos (.inr ⟨e, rfl⟩)] at hq
      have HV := Lib.hid hq
      clear hq e HQ
      go_wp2_with fail
      go_ret
      exact ⟨by rw [HV.out]; rfl, by rw [HV.out]; exact HM2.out, HB2.out⟩
    · have hq := HQ.out
      rw [if_neg (by rintro (⟨h1, h2⟩ | ⟨h1, h2⟩) <;> first | (cases h2; done) | omega)] at hq
      have HQ2 := Lib.hid hq
      clear hq e HQ
      go_wp2_with fail
      refine (HEF.out w2).mono ?_
      rintro e w3 ⟨rfl, rfl⟩
      by_cases g1 : x < (pp : Int)
      · have hq := HQ2.out
        rw [if_pos (.inl g1)] at hq
        have HV := Lib.hid hq
        clear hq HQ2
        go_wp2_with fail
        go_ret
        exact ⟨by rw [HV.out]; rfl, by rw [HV.out]; exact HM2.out, HB2.out⟩
      · by_cases g2 : p.stack < x - (pp : Int) + (qq : Int)
        · have hq := HQ2.out
          rw [if_pos (.inr (.inl g2))] at hq
          have HV := Lib.hid hq
          clear hq HQ2
          go_wp2_with fail
          go_ret
          exact ⟨by rw [HV.out]; rfl, by rw [HV.out]; exact HM2.out, HB2.out⟩
        · by_cases hx0 : x = 0
          case neg =>
            have hq := HQ2.out
            rw [if_pos (.inr (.inr ⟨by have := HE0.out; omega, hx0⟩))] at hq
            have HV := Lib.hid hq
            have g3 : (x != 0) = true := by rw [bne_iff_ne]; exact hx0
            clear hq HQ2 hx0
            go_wp2_with fail
            go_ret
            exact ⟨by rw [HV.out]; rfl, by rw [HV.out]; exact HM2.out, HB2.out⟩
          case pos =>
            have g3 : (x != 0) = false := by rw [bne_eq_false_iff_eq]; exact hx0
            have HX0 := Lib.hid hx0
            have hq := HQ2.out
            rw [if_neg (by rintro (h | h | ⟨_, h⟩) <;> omega)] at hq
            clear hx0
            have HQ3 := Lib.hid hq
            clear hq HQ2
            by_cases hmx : s.pk < (x - (pp : Int) + (qq : Int))
            · have HMX := Lib.hid (show max s.pk (x - (pp : Int) + (qq : Int)) = (x - (pp : Int) + (qq : Int)) from Int.max_eq_right (by omega))
              have HM3 := Lib.hid (HM2.out.setP HA.out (x - (pp : Int) + (qq : Int)))
              have HB3 := Lib.hid (HB2.out.setCell (p := ⟨q, 2, none⟩) HA.out.lq (.int .i64 (x - (pp : Int) + (qq : Int))))
              rw [HMX.out] at HQ3
              have HI3 := Lib.hid ((far_blk (v := .int .i64 (x - (pp : Int) + (qq : Int))) (k := 2) (P := w2) (show g5 ≠ q by have := HM2q.out; omega)).trans HI.out)
              have hq := HQ3.out
              rw [if_neg (by have := HE0.out; omega), thenS_ok, if_neg (by have := HE0.out; omega), thenS_ok, if_neg (by have := HE0.out; omega)] at hq
              have HV := Lib.hid hq
              clear hq HQ3
              go_wp2_with fail
              go_ret
              exact ⟨by rw [HV.out]; rfl, by rw [HV.out]; exact HM3.out, HB3.out⟩
            · have HMX := Lib.hid (show max s.pk (x - (pp : Int) + (qq : Int)) = s.pk from Int.max_eq_left (by omega))
              have HM3 := Lib.hid (HM2.out.setP HA.out s.pk)
              have HB3 := Lib.hid (HB2.out.setCell (p := ⟨q, 2, none⟩) HA.out.lq (.int .i64 s.pk))
              rw [HMX.out] at HQ3
              have HI3 := Lib.hid ((far_blk (v := .int .i64 s.pk) (k := 2) (P := w2) (show g5 ≠ q by have := HM2q.out; omega)).trans HI.out)
              have hq := HQ3.out
              rw [if_neg (by have := HE0.out; omega), thenS_ok, if_neg (by have := HE0.out; omega), thenS_ok, if_neg (by have := HE0.out; omega)] at hq
              have HV := Lib.hid hq
              clear hq HQ3
              go_wp2_with fail
              go_ret
              exact ⟨by rw [HV.out]; rfl, by rw [HV.out]; exact HM3.out, HB3.out⟩
  · have HE0 := Lib.hid e
    have f0 : ((o : Int) == 0) = false := by rw [beq_eq_false_iff_ne]; omega
    have f16 : ((o : Int) == 16) = false := by rw [beq_eq_false_iff_ne]; omega
    have f12 : ((o : Int) == 12) = false := by rw [beq_eq_false_iff_ne]; omega
    have f7 : ((o : Int) == 7) = true := by rw [beq_iff_eq]; omega
    have f8 : ((o : Int) == 8) = false := by rw [beq_eq_false_iff_ne]; omega
    have f13 : ((o : Int) == 13) = false := by rw [beq_eq_false_iff_ne]; omega
    have hq := HQ.out
    rw [if_neg (by rintro (⟨h1, h2⟩ | ⟨h1, h2⟩) <;> first | (cases h2; done) | omega)] at hq
    have HQ2 := Lib.hid hq
    clear hq e HQ
    go_wp2_with fail
    refine (HEF.out w2).mono ?_
    rintro e w3 ⟨rfl, rfl⟩
    by_cases g1 : x < (pp : Int)
    · have hq := HQ2.out
      rw [if_pos (.inl g1)] at hq
      have HV := Lib.hid hq
      clear hq HQ2
      go_wp2_with fail
      go_ret
      exact ⟨by rw [HV.out]; rfl, by rw [HV.out]; exact HM2.out, HB2.out⟩
    · by_cases g2 : p.stack < x - (pp : Int) + (qq : Int)
      · have hq := HQ2.out
        rw [if_pos (.inr (.inl g2))] at hq
        have HV := Lib.hid hq
        clear hq HQ2
        go_wp2_with fail
        go_ret
        exact ⟨by rw [HV.out]; rfl, by rw [HV.out]; exact HM2.out, HB2.out⟩
      · have hq := HQ2.out
        rw [if_neg (by rintro (h | h | ⟨h, _⟩) <;> first | omega | (have := HE0.out; omega))] at hq
        have HQ3 := Lib.hid hq
        clear hq HQ2
        by_cases hmx : s.pk < (x - (pp : Int) + (qq : Int))
        · have HMX := Lib.hid (show max s.pk (x - (pp : Int) + (qq : Int)) = (x - (pp : Int) + (qq : Int)) from Int.max_eq_right (by omega))
          have HM3 := Lib.hid (HM2.out.setP HA.out (x - (pp : Int) + (qq : Int)))
          have HB3 := Lib.hid (HB2.out.setCell (p := ⟨q, 2, none⟩) HA.out.lq (.int .i64 (x - (pp : Int) + (qq : Int))))
          rw [HMX.out] at HQ3
          have HI3 := Lib.hid ((far_blk (v := .int .i64 (x - (pp : Int) + (qq : Int))) (k := 2) (P := w2) (show g5 ≠ q by have := HM2q.out; omega)).trans HI.out)
          have hq := HQ3.out
          rw [if_neg (by have := HE0.out; omega), thenS_ok] at hq
          obtain ⟨s5, hs1⟩ : ∃ s1, St.mk s.hs s.ts s.wt s.fs (x - (pp : Int) + (qq : Int)) = s1 := ⟨_, rfl⟩
          rw [hs1] at hq HM3
          have HQ5b := Lib.hid hq
          have HM5 := Lib.hid HM3.out
          have HB5 := Lib.hid HB3.out
          have HI5 := Lib.hid HI3.out
          have hq := HQ5b.out
          rw [if_pos (by have := HE0.out; omega)] at hq
          have HQ5c := Lib.hid hq
          obtain ⟨m, rfl⟩ : ∃ m : Nat, a = (m : Int) := ⟨a.toNat, by have := HSA.out (by have := HE0.out; omega); omega⟩
          clear hq hs1 HQ3 HM3 HB3 HI3 HQ5b
          have j0p : (w2.setCell ⟨q, 2, none⟩ (.int .i64 (x - (pp : Int) + (qq : Int)))).cell? ⟨g5, 0, none⟩ = some (.int .u8 (o : Int)) := by rw [blk_cell HI5.out]; rfl
          have j1p : (w2.setCell ⟨q, 2, none⟩ (.int .i64 (x - (pp : Int) + (qq : Int)))).cell? ⟨g5, 1, none⟩ = some (.int .i64 (m : Int)) := by rw [blk_cell HI5.out]; rfl
          go_wp2_with fail
          generalize w2.setCell ⟨q, 2, none⟩ (.int .i64 (x - (pp : Int) + (qq : Int))) = w5 at *
          obtain ⟨⟨e6, s6⟩, hr6⟩ : ∃ r1, findS n s5 (m : Int) (x - (pp : Int) + (qq : Int)) t = r1 := ⟨_, rfl⟩
          have hf6 := find_is d p G q gh gt gw n s5 m (x - (pp : Int) + (qq : Int)) t w5 HM5.out HA.out
          rw [hr6] at hf6
          have hq := HQ5c.out
          rw [hr6] at hq
          have HQ6 := Lib.hid hq
          clear hq hr6
          refine hf6.mono ?_
          rintro e w6 ⟨rfl, hm6, hb6, ho6⟩
          have HM6 := Lib.hid hm6
          have HB6 := Lib.hid (HB5.out.trans hb6)
          have HI6 := Lib.hid ((ho6 g5 (by have := HLT.out; omega) (by have := HLT.out; omega) (by have := HLT.out; omega) (by have := HLT.out; omega)).trans HI5.out)
          clear hm6 hb6 ho6 hf6
          have j0 : w6.cell? ⟨g5, 0, none⟩ = some (.int .u8 (o : Int)) := by rw [blk_cell HI6.out]; rfl
          have j1 : w6.cell? ⟨g5, 1, none⟩ = some (.int .i64 (m : Int)) := by rw [blk_cell HI6.out]; rfl
          by_cases he : e6 = 0
          case neg =>
            have hq := HQ6.out
            rw [thenS_err (by exact he)] at hq
            have HV := Lib.hid hq
            have he' : (e6 != 0) = true := by rw [bne_iff_ne]; exact he
            clear hq he
            go_wp2_with fail
            go_ret
            exact ⟨by rw [HV.out]; rfl, by rw [HV.out]; exact HM6.out, HB6.out⟩
          case pos =>
            subst he
            have hq := HQ6.out
            rw [thenS_ok] at hq
            have HQ6b := Lib.hid hq
            clear hq
            have hq := HQ6b.out
            rw [if_neg (by have := HE0.out; omega)] at hq
            have HV := Lib.hid hq
            clear hq
            go_wp2_with fail
            go_ret
            exact ⟨by rw [HV.out]; rfl, by rw [HV.out]; exact HM6.out, HB6.out⟩
        · have HMX := Lib.hid (show max s.pk (x - (pp : Int) + (qq : Int)) = s.pk from Int.max_eq_left (by omega))
          have HM3 := Lib.hid (HM2.out.setP HA.out s.pk)
          have HB3 := Lib.hid (HB2.out.setCell (p := ⟨q, 2, none⟩) HA.out.lq (.int .i64 s.pk))
          rw [HMX.out] at HQ3
          have HI3 := Lib.hid ((far_blk (v := .int .i64 s.pk) (k := 2) (P := w2) (show g5 ≠ q by have := HM2q.out; omega)).trans HI.out)
          have hq := HQ3.out
          rw [if_neg (by have := HE0.out; omega), thenS_ok] at hq
          obtain ⟨s5, hs1⟩ : ∃ s1, St.mk s.hs s.ts s.wt s.fs s.pk = s1 := ⟨_, rfl⟩
          rw [hs1] at hq HM3
          have HQ5b := Lib.hid hq
          have HM5 := Lib.hid HM3.out
          have HB5 := Lib.hid HB3.out
          have HI5 := Lib.hid HI3.out
          have hq := HQ5b.out
          rw [if_pos (by have := HE0.out; omega)] at hq
          have HQ5c := Lib.hid hq
          obtain ⟨m, rfl⟩ : ∃ m : Nat, a = (m : Int) := ⟨a.toNat, by have := HSA.out (by have := HE0.out; omega); omega⟩
          clear hq hs1 HQ3 HM3 HB3 HI3 HQ5b
          have j0p : (w2.setCell ⟨q, 2, none⟩ (.int .i64 s.pk)).cell? ⟨g5, 0, none⟩ = some (.int .u8 (o : Int)) := by rw [blk_cell HI5.out]; rfl
          have j1p : (w2.setCell ⟨q, 2, none⟩ (.int .i64 s.pk)).cell? ⟨g5, 1, none⟩ = some (.int .i64 (m : Int)) := by rw [blk_cell HI5.out]; rfl
          go_wp2_with fail
          generalize w2.setCell ⟨q, 2, none⟩ (.int .i64 s.pk) = w5 at *
          obtain ⟨⟨e6, s6⟩, hr6⟩ : ∃ r1, findS n s5 (m : Int) (x - (pp : Int) + (qq : Int)) t = r1 := ⟨_, rfl⟩
          have hf6 := find_is d p G q gh gt gw n s5 m (x - (pp : Int) + (qq : Int)) t w5 HM5.out HA.out
          rw [hr6] at hf6
          have hq := HQ5c.out
          rw [hr6] at hq
          have HQ6 := Lib.hid hq
          clear hq hr6
          refine hf6.mono ?_
          rintro e w6 ⟨rfl, hm6, hb6, ho6⟩
          have HM6 := Lib.hid hm6
          have HB6 := Lib.hid (HB5.out.trans hb6)
          have HI6 := Lib.hid ((ho6 g5 (by have := HLT.out; omega) (by have := HLT.out; omega) (by have := HLT.out; omega) (by have := HLT.out; omega)).trans HI5.out)
          clear hm6 hb6 ho6 hf6
          have j0 : w6.cell? ⟨g5, 0, none⟩ = some (.int .u8 (o : Int)) := by rw [blk_cell HI6.out]; rfl
          have j1 : w6.cell? ⟨g5, 1, none⟩ = some (.int .i64 (m : Int)) := by rw [blk_cell HI6.out]; rfl
          by_cases he : e6 = 0
          case neg =>
            have hq := HQ6.out
            rw [thenS_err (by exact he)] at hq
            have HV := Lib.hid hq
            have he' : (e6 != 0) = true := by rw [bne_iff_ne]; exact he
            clear hq he
            go_wp2_with fail
            go_ret
            exact ⟨by rw [HV.out]; rfl, by rw [HV.out]; exact HM6.out, HB6.out⟩
          case pos =>
            subst he
            have hq := HQ6.out
            rw [thenS_ok] at hq
            have HQ6b := Lib.hid hq
            clear hq
            have hq := HQ6b.out
            rw [if_neg (by have := HE0.out; omega)] at hq
            have HV := Lib.hid hq
            clear hq
            go_wp2_with fail
            go_ret
            exact ⟨by rw [HV.out]; rfl, by rw [HV.out]; exact HM6.out, HB6.out⟩
  · have HE0 := Lib.hid e
    have f0 : ((o : Int) == 0) = false := by rw [beq_eq_false_iff_ne]; omega
    have f16 : ((o : Int) == 16) = false := by rw [beq_eq_false_iff_ne]; omega
    have f12 : ((o : Int) == 12) = false := by rw [beq_eq_false_iff_ne]; omega
    have f7 : ((o : Int) == 7) = false := by rw [beq_eq_false_iff_ne]; omega
    have f8 : ((o : Int) == 8) = true := by rw [beq_iff_eq]; omega
    have f13 : ((o : Int) == 13) = false := by rw [beq_eq_false_iff_ne]; omega
    have hq := HQ.out
    rw [if_neg (by rintro (⟨h1, h2⟩ | ⟨h1, h2⟩) <;> first | (cases h2; done) | omega)] at hq
    have HQ2 := Lib.hid hq
    clear hq e HQ
    go_wp2_with fail
    refine (HEF.out w2).mono ?_
    rintro e w3 ⟨rfl, rfl⟩
    by_cases g1 : x < (pp : Int)
    · have hq := HQ2.out
      rw [if_pos (.inl g1)] at hq
      have HV := Lib.hid hq
      clear hq HQ2
      go_wp2_with fail
      go_ret
      exact ⟨by rw [HV.out]; rfl, by rw [HV.out]; exact HM2.out, HB2.out⟩
    · by_cases g2 : p.stack < x - (pp : Int) + (qq : Int)
      · have hq := HQ2.out
        rw [if_pos (.inr (.inl g2))] at hq
        have HV := Lib.hid hq
        clear hq HQ2
        go_wp2_with fail
        go_ret
        exact ⟨by rw [HV.out]; rfl, by rw [HV.out]; exact HM2.out, HB2.out⟩
      · have hq := HQ2.out
        rw [if_neg (by rintro (h | h | ⟨h, _⟩) <;> first | omega | (have := HE0.out; omega))] at hq
        have HQ3 := Lib.hid hq
        clear hq HQ2
        by_cases hmx : s.pk < (x - (pp : Int) + (qq : Int))
        · have HMX := Lib.hid (show max s.pk (x - (pp : Int) + (qq : Int)) = (x - (pp : Int) + (qq : Int)) from Int.max_eq_right (by omega))
          have HM3 := Lib.hid (HM2.out.setP HA.out (x - (pp : Int) + (qq : Int)))
          have HB3 := Lib.hid (HB2.out.setCell (p := ⟨q, 2, none⟩) HA.out.lq (.int .i64 (x - (pp : Int) + (qq : Int))))
          rw [HMX.out] at HQ3
          have HI3 := Lib.hid ((far_blk (v := .int .i64 (x - (pp : Int) + (qq : Int))) (k := 2) (P := w2) (show g5 ≠ q by have := HM2q.out; omega)).trans HI.out)
          have hq := HQ3.out
          rw [if_pos (by have := HE0.out; omega), show ((k + 1 : Nat) : Int) = (k : Int) + 1 by omega] at hq
          obtain ⟨s1, hs1⟩ : ∃ s1, St.mk s.hs s.ts s.wt s.fs (x - (pp : Int) + (qq : Int)) = s1 := ⟨_, rfl⟩
          rw [hs1] at hq HM3
          have HQ4 := Lib.hid hq
          clear hq hs1 HQ3
          go_wp2_with fail
          generalize w2.setCell ⟨q, 2, none⟩ (.int .i64 (x - (pp : Int) + (qq : Int))) = w3 at *
          obtain ⟨⟨e5, s5⟩, hr5⟩ : ∃ r1, findS n s1 ((k : Int) + 1) (x - (pp : Int) + (qq : Int)) t = r1 := ⟨_, rfl⟩
          have hf5 := find_is d p G q gh gt gw n s1 (k + 1) (x - (pp : Int) + (qq : Int)) t w3 HM3.out HA.out
          rw [show ((k + 1 : Nat) : Int) = (k : Int) + 1 by omega] at hf5
          rw [hr5] at hf5
          have hq := HQ4.out
          rw [hr5] at hq
          have HQ5 := Lib.hid hq
          clear hq hr5
          refine hf5.mono ?_
          rintro e w5 ⟨rfl, hm5, hb5, ho5⟩
          have HM5 := Lib.hid hm5
          have HB5 := Lib.hid (HB3.out.trans hb5)
          have HI5 := Lib.hid ((ho5 g5 (by have := HLT.out; omega) (by have := HLT.out; omega) (by have := HLT.out; omega) (by have := HLT.out; omega)).trans HI3.out)
          clear hm5 hb5 ho5 hf5
          have j0 : w5.cell? ⟨g5, 0, none⟩ = some (.int .u8 (o : Int)) := by rw [blk_cell HI5.out]; rfl
          have j1 : w5.cell? ⟨g5, 1, none⟩ = some (.int .i64 a) := by rw [blk_cell HI5.out]; rfl
          by_cases he : e5 = 0
          case neg =>
            have hq := HQ5.out
            rw [thenS_err (by exact he)] at hq
            have HV := Lib.hid hq
            have he' : (e5 != 0) = true := by rw [bne_iff_ne]; exact he
            clear hq he
            go_wp2_with fail
            go_ret
            exact ⟨by rw [HV.out]; rfl, by rw [HV.out]; exact HM5.out, HB5.out⟩
          case pos =>
            subst he
            have hq := HQ5.out
            rw [thenS_ok] at hq
            have HQ5b := Lib.hid hq
            clear hq
            have hq := HQ5b.out
            rw [if_pos (by have := HE0.out; omega)] at hq
            have HQ5c := Lib.hid hq
            obtain ⟨m, rfl⟩ : ∃ m : Nat, a = (m : Int) := ⟨a.toNat, by have := HSA.out (by have := HE0.out; omega); omega⟩
            clear hq
            go_wp2_with fail
            obtain ⟨⟨e6, s6⟩, hr6⟩ : ∃ r1, findS n s5 (m : Int) (x - (pp : Int) + (qq : Int)) t = r1 := ⟨_, rfl⟩
            have hf6 := find_is d p G q gh gt gw n s5 m (x - (pp : Int) + (qq : Int)) t w5 HM5.out HA.out
            rw [hr6] at hf6
            have hq := HQ5c.out
            rw [hr6] at hq
            have HQ6 := Lib.hid hq
            clear hq hr6
            refine hf6.mono ?_
            rintro e w6 ⟨rfl, hm6, hb6, ho6⟩
            have HM6 := Lib.hid hm6
            have HB6 := Lib.hid (HB5.out.trans hb6)
            have HI6 := Lib.hid ((ho6 g5 (by have := HLT.out; omega) (by have := HLT.out; omega) (by have := HLT.out; omega) (by have := HLT.out; omega)).trans HI5.out)
            clear hm6 hb6 ho6 hf6
            have j0 : w6.cell? ⟨g5, 0, none⟩ = some (.int .u8 (o : Int)) := by rw [blk_cell HI6.out]; rfl
            have j1 : w6.cell? ⟨g5, 1, none⟩ = some (.int .i64 (m : Int)) := by rw [blk_cell HI6.out]; rfl
            by_cases he : e6 = 0
            case neg =>
              have hq := HQ6.out
              rw [thenS_err (by exact he)] at hq
              have HV := Lib.hid hq
              have he' : (e6 != 0) = true := by rw [bne_iff_ne]; exact he
              clear hq he
              go_wp2_with fail
              go_ret
              exact ⟨by rw [HV.out]; rfl, by rw [HV.out]; exact HM6.out, HB6.out⟩
            case pos =>
              subst he
              have hq := HQ6.out
              rw [thenS_ok] at hq
              have HQ6b := Lib.hid hq
              clear hq
              have hq := HQ6b.out
              rw [if_neg (by have := HE0.out; omega)] at hq
              have HV := Lib.hid hq
              clear hq
              go_wp2_with fail
              go_ret
              exact ⟨by rw [HV.out]; rfl, by rw [HV.out]; exact HM6.out, HB6.out⟩
        · have HMX := Lib.hid (show max s.pk (x - (pp : Int) + (qq : Int)) = s.pk from Int.max_eq_left (by omega))
          have HM3 := Lib.hid (HM2.out.setP HA.out s.pk)
          have HB3 := Lib.hid (HB2.out.setCell (p := ⟨q, 2, none⟩) HA.out.lq (.int .i64 s.pk))
          rw [HMX.out] at HQ3
          have HI3 := Lib.hid ((far_blk (v := .int .i64 s.pk) (k := 2) (P := w2) (show g5 ≠ q by have := HM2q.out; omega)).trans HI.out)
          have hq := HQ3.out
          rw [if_pos (by have := HE0.out; omega), show ((k + 1 : Nat) : Int) = (k : Int) + 1 by omega] at hq
          obtain ⟨s1, hs1⟩ : ∃ s1, St.mk s.hs s.ts s.wt s.fs s.pk = s1 := ⟨_, rfl⟩
          rw [hs1] at hq HM3
          have HQ4 := Lib.hid hq
          clear hq hs1 HQ3
          go_wp2_with fail
          generalize w2.setCell ⟨q, 2, none⟩ (.int .i64 s.pk) = w3 at *
          obtain ⟨⟨e5, s5⟩, hr5⟩ : ∃ r1, findS n s1 ((k : Int) + 1) (x - (pp : Int) + (qq : Int)) t = r1 := ⟨_, rfl⟩
          have hf5 := find_is d p G q gh gt gw n s1 (k + 1) (x - (pp : Int) + (qq : Int)) t w3 HM3.out HA.out
          rw [show ((k + 1 : Nat) : Int) = (k : Int) + 1 by omega] at hf5
          rw [hr5] at hf5
          have hq := HQ4.out
          rw [hr5] at hq
          have HQ5 := Lib.hid hq
          clear hq hr5
          refine hf5.mono ?_
          rintro e w5 ⟨rfl, hm5, hb5, ho5⟩
          have HM5 := Lib.hid hm5
          have HB5 := Lib.hid (HB3.out.trans hb5)
          have HI5 := Lib.hid ((ho5 g5 (by have := HLT.out; omega) (by have := HLT.out; omega) (by have := HLT.out; omega) (by have := HLT.out; omega)).trans HI3.out)
          clear hm5 hb5 ho5 hf5
          have j0 : w5.cell? ⟨g5, 0, none⟩ = some (.int .u8 (o : Int)) := by rw [blk_cell HI5.out]; rfl
          have j1 : w5.cell? ⟨g5, 1, none⟩ = some (.int .i64 a) := by rw [blk_cell HI5.out]; rfl
          by_cases he : e5 = 0
          case neg =>
            have hq := HQ5.out
            rw [thenS_err (by exact he)] at hq
            have HV := Lib.hid hq
            have he' : (e5 != 0) = true := by rw [bne_iff_ne]; exact he
            clear hq he
            go_wp2_with fail
            go_ret
            exact ⟨by rw [HV.out]; rfl, by rw [HV.out]; exact HM5.out, HB5.out⟩
          case pos =>
            subst he
            have hq := HQ5.out
            rw [thenS_ok] at hq
            have HQ5b := Lib.hid hq
            clear hq
            have hq := HQ5b.out
            rw [if_pos (by have := HE0.out; omega)] at hq
            have HQ5c := Lib.hid hq
            obtain ⟨m, rfl⟩ : ∃ m : Nat, a = (m : Int) := ⟨a.toNat, by have := HSA.out (by have := HE0.out; omega); omega⟩
            clear hq
            go_wp2_with fail
            obtain ⟨⟨e6, s6⟩, hr6⟩ : ∃ r1, findS n s5 (m : Int) (x - (pp : Int) + (qq : Int)) t = r1 := ⟨_, rfl⟩
            have hf6 := find_is d p G q gh gt gw n s5 m (x - (pp : Int) + (qq : Int)) t w5 HM5.out HA.out
            rw [hr6] at hf6
            have hq := HQ5c.out
            rw [hr6] at hq
            have HQ6 := Lib.hid hq
            clear hq hr6
            refine hf6.mono ?_
            rintro e w6 ⟨rfl, hm6, hb6, ho6⟩
            have HM6 := Lib.hid hm6
            have HB6 := Lib.hid (HB5.out.trans hb6)
            have HI6 := Lib.hid ((ho6 g5 (by have := HLT.out; omega) (by have := HLT.out; omega) (by have := HLT.out; omega) (by have := HLT.out; omega)).trans HI5.out)
            clear hm6 hb6 ho6 hf6
            have j0 : w6.cell? ⟨g5, 0, none⟩ = some (.int .u8 (o : Int)) := by rw [blk_cell HI6.out]; rfl
            have j1 : w6.cell? ⟨g5, 1, none⟩ = some (.int .i64 (m : Int)) := by rw [blk_cell HI6.out]; rfl
            by_cases he : e6 = 0
            case neg =>
              have hq := HQ6.out
              rw [thenS_err (by exact he)] at hq
              have HV := Lib.hid hq
              have he' : (e6 != 0) = true := by rw [bne_iff_ne]; exact he
              clear hq he
              go_wp2_with fail
              go_ret
              exact ⟨by rw [HV.out]; rfl, by rw [HV.out]; exact HM6.out, HB6.out⟩
            case pos =>
              subst he
              have hq := HQ6.out
              rw [thenS_ok] at hq
              have HQ6b := Lib.hid hq
              clear hq
              have hq := HQ6b.out
              rw [if_neg (by have := HE0.out; omega)] at hq
              have HV := Lib.hid hq
              clear hq
              go_wp2_with fail
              go_ret
              exact ⟨by rw [HV.out]; rfl, by rw [HV.out]; exact HM6.out, HB6.out⟩
  · have HE0 := Lib.hid e
    have f0 : ((o : Int) == 0) = false := by rw [beq_eq_false_iff_ne]; omega
    have f16 : ((o : Int) == 16) = false := by rw [beq_eq_false_iff_ne]; omega
    have f12 : ((o : Int) == 12) = false := by rw [beq_eq_false_iff_ne]; omega
    have f7 : ((o : Int) == 7) = false := by rw [beq_eq_false_iff_ne]; omega
    have f8 : ((o : Int) == 8) = false := by rw [beq_eq_false_iff_ne]; omega
    have f13 : ((o : Int) == 13) = true := by rw [beq_iff_eq]; omega
    have hq := HQ.out
    rw [if_neg (by rintro (⟨h1, h2⟩ | ⟨h1, h2⟩) <;> first | (cases h2; done) | omega)] at hq
    have HQ2 := Lib.hid hq
    clear hq e HQ
    go_wp2_with fail
    refine (HEF.out w2).mono ?_
    rintro e w3 ⟨rfl, rfl⟩
    by_cases g1 : x < (pp : Int)
    · have hq := HQ2.out
      rw [if_pos (.inl g1)] at hq
      have HV := Lib.hid hq
      clear hq HQ2
      go_wp2_with fail
      go_ret
      exact ⟨by rw [HV.out]; rfl, by rw [HV.out]; exact HM2.out, HB2.out⟩
    · by_cases g2 : p.stack < x - (pp : Int) + (qq : Int)
      · have hq := HQ2.out
        rw [if_pos (.inr (.inl g2))] at hq
        have HV := Lib.hid hq
        clear hq HQ2
        go_wp2_with fail
        go_ret
        exact ⟨by rw [HV.out]; rfl, by rw [HV.out]; exact HM2.out, HB2.out⟩
      · have hq := HQ2.out
        rw [if_neg (by rintro (h | h | ⟨h, _⟩) <;> first | omega | (have := HE0.out; omega))] at hq
        have HQ3 := Lib.hid hq
        clear hq HQ2
        by_cases hmx : s.pk < (x - (pp : Int) + (qq : Int))
        · have HMX := Lib.hid (show max s.pk (x - (pp : Int) + (qq : Int)) = (x - (pp : Int) + (qq : Int)) from Int.max_eq_right (by omega))
          have HM3 := Lib.hid (HM2.out.setP HA.out (x - (pp : Int) + (qq : Int)))
          have HB3 := Lib.hid (HB2.out.setCell (p := ⟨q, 2, none⟩) HA.out.lq (.int .i64 (x - (pp : Int) + (qq : Int))))
          rw [HMX.out] at HQ3
          have HI3 := Lib.hid ((far_blk (v := .int .i64 (x - (pp : Int) + (qq : Int))) (k := 2) (P := w2) (show g5 ≠ q by have := HM2q.out; omega)).trans HI.out)
          have hq := HQ3.out
          rw [if_pos (by have := HE0.out; omega), show ((k + 1 : Nat) : Int) = (k : Int) + 1 by omega] at hq
          obtain ⟨s1, hs1⟩ : ∃ s1, St.mk s.hs s.ts s.wt s.fs (x - (pp : Int) + (qq : Int)) = s1 := ⟨_, rfl⟩
          rw [hs1] at hq HM3
          have HQ4 := Lib.hid hq
          clear hq hs1 HQ3
          go_wp2_with fail
          generalize w2.setCell ⟨q, 2, none⟩ (.int .i64 (x - (pp : Int) + (qq : Int))) = w3 at *
          obtain ⟨⟨e5, s5⟩, hr5⟩ : ∃ r1, findS n s1 ((k : Int) + 1) (x - (pp : Int) + (qq : Int)) t = r1 := ⟨_, rfl⟩
          have hf5 := find_is d p G q gh gt gw n s1 (k + 1) (x - (pp : Int) + (qq : Int)) t w3 HM3.out HA.out
          rw [show ((k + 1 : Nat) : Int) = (k : Int) + 1 by omega] at hf5
          rw [hr5] at hf5
          have hq := HQ4.out
          rw [hr5] at hq
          have HQ5 := Lib.hid hq
          clear hq hr5
          refine hf5.mono ?_
          rintro e w5 ⟨rfl, hm5, hb5, ho5⟩
          have HM5 := Lib.hid hm5
          have HB5 := Lib.hid (HB3.out.trans hb5)
          have HI5 := Lib.hid ((ho5 g5 (by have := HLT.out; omega) (by have := HLT.out; omega) (by have := HLT.out; omega) (by have := HLT.out; omega)).trans HI3.out)
          clear hm5 hb5 ho5 hf5
          have j0 : w5.cell? ⟨g5, 0, none⟩ = some (.int .u8 (o : Int)) := by rw [blk_cell HI5.out]; rfl
          have j1 : w5.cell? ⟨g5, 1, none⟩ = some (.int .i64 a) := by rw [blk_cell HI5.out]; rfl
          by_cases he : e5 = 0
          case neg =>
            have hq := HQ5.out
            rw [thenS_err (by exact he)] at hq
            have HV := Lib.hid hq
            have he' : (e5 != 0) = true := by rw [bne_iff_ne]; exact he
            clear hq he
            go_wp2_with fail
            go_ret
            exact ⟨by rw [HV.out]; rfl, by rw [HV.out]; exact HM5.out, HB5.out⟩
          case pos =>
            subst he
            have hq := HQ5.out
            rw [thenS_ok] at hq
            have HQ5b := Lib.hid hq
            clear hq
            have hq := HQ5b.out
            rw [if_neg (by have := HE0.out; omega), thenS_ok, if_pos (by have := HE0.out; omega)] at hq
            have HQ5c := Lib.hid hq
            obtain ⟨m, rfl⟩ : ∃ m : Nat, a = (m : Int) := ⟨a.toNat, by have := HSA.out (.inr (.inr HE0.out)); omega⟩
            clear hq
            go_wp2_with fail
            obtain ⟨⟨e6, s6⟩, hr6⟩ : ∃ r1, findS n s5 (m : Int) 0 true = r1 := ⟨_, rfl⟩
            have hf6 := find_is d p G q gh gt gw n s5 m 0 true w5 HM5.out HA.out
            rw [hr6] at hf6
            have hq := HQ5c.out
            rw [hr6] at hq
            have HQ6 := Lib.hid hq
            clear hq hr6
            refine hf6.mono ?_
            rintro e w6 ⟨rfl, hm6, hb6, ho6⟩
            have HM6 := Lib.hid hm6
            have HB6 := Lib.hid (HB5.out.trans hb6)
            have HI6 := Lib.hid ((ho6 g5 (by have := HLT.out; omega) (by have := HLT.out; omega) (by have := HLT.out; omega) (by have := HLT.out; omega)).trans HI5.out)
            clear hm6 hb6 ho6 hf6
            have j0 : w6.cell? ⟨g5, 0, none⟩ = some (.int .u8 (o : Int)) := by rw [blk_cell HI6.out]; rfl
            have j1 : w6.cell? ⟨g5, 1, none⟩ = some (.int .i64 (m : Int)) := by rw [blk_cell HI6.out]; rfl
            have HV := Lib.hid (show r = (e6, s6) from HQ6.out)
            go_wp2_with fail
            go_ret
            exact ⟨by rw [HV.out]; rfl, by rw [HV.out]; exact HM6.out, HB6.out⟩
        · have HMX := Lib.hid (show max s.pk (x - (pp : Int) + (qq : Int)) = s.pk from Int.max_eq_left (by omega))
          have HM3 := Lib.hid (HM2.out.setP HA.out s.pk)
          have HB3 := Lib.hid (HB2.out.setCell (p := ⟨q, 2, none⟩) HA.out.lq (.int .i64 s.pk))
          rw [HMX.out] at HQ3
          have HI3 := Lib.hid ((far_blk (v := .int .i64 s.pk) (k := 2) (P := w2) (show g5 ≠ q by have := HM2q.out; omega)).trans HI.out)
          have hq := HQ3.out
          rw [if_pos (by have := HE0.out; omega), show ((k + 1 : Nat) : Int) = (k : Int) + 1 by omega] at hq
          obtain ⟨s1, hs1⟩ : ∃ s1, St.mk s.hs s.ts s.wt s.fs s.pk = s1 := ⟨_, rfl⟩
          rw [hs1] at hq HM3
          have HQ4 := Lib.hid hq
          clear hq hs1 HQ3
          go_wp2_with fail
          generalize w2.setCell ⟨q, 2, none⟩ (.int .i64 s.pk) = w3 at *
          obtain ⟨⟨e5, s5⟩, hr5⟩ : ∃ r1, findS n s1 ((k : Int) + 1) (x - (pp : Int) + (qq : Int)) t = r1 := ⟨_, rfl⟩
          have hf5 := find_is d p G q gh gt gw n s1 (k + 1) (x - (pp : Int) + (qq : Int)) t w3 HM3.out HA.out
          rw [show ((k + 1 : Nat) : Int) = (k : Int) + 1 by omega] at hf5
          rw [hr5] at hf5
          have hq := HQ4.out
          rw [hr5] at hq
          have HQ5 := Lib.hid hq
          clear hq hr5
          refine hf5.mono ?_
          rintro e w5 ⟨rfl, hm5, hb5, ho5⟩
          have HM5 := Lib.hid hm5
          have HB5 := Lib.hid (HB3.out.trans hb5)
          have HI5 := Lib.hid ((ho5 g5 (by have := HLT.out; omega) (by have := HLT.out; omega) (by have := HLT.out; omega) (by have := HLT.out; omega)).trans HI3.out)
          clear hm5 hb5 ho5 hf5
          have j0 : w5.cell? ⟨g5, 0, none⟩ = some (.int .u8 (o : Int)) := by rw [blk_cell HI5.out]; rfl
          have j1 : w5.cell? ⟨g5, 1, none⟩ = some (.int .i64 a) := by rw [blk_cell HI5.out]; rfl
          by_cases he : e5 = 0
          case neg =>
            have hq := HQ5.out
            rw [thenS_err (by exact he)] at hq
            have HV := Lib.hid hq
            have he' : (e5 != 0) = true := by rw [bne_iff_ne]; exact he
            clear hq he
            go_wp2_with fail
            go_ret
            exact ⟨by rw [HV.out]; rfl, by rw [HV.out]; exact HM5.out, HB5.out⟩
          case pos =>
            subst he
            have hq := HQ5.out
            rw [thenS_ok] at hq
            have HQ5b := Lib.hid hq
            clear hq
            have hq := HQ5b.out
            rw [if_neg (by have := HE0.out; omega), thenS_ok, if_pos (by have := HE0.out; omega)] at hq
            have HQ5c := Lib.hid hq
            obtain ⟨m, rfl⟩ : ∃ m : Nat, a = (m : Int) := ⟨a.toNat, by have := HSA.out (.inr (.inr HE0.out)); omega⟩
            clear hq
            go_wp2_with fail
            obtain ⟨⟨e6, s6⟩, hr6⟩ : ∃ r1, findS n s5 (m : Int) 0 true = r1 := ⟨_, rfl⟩
            have hf6 := find_is d p G q gh gt gw n s5 m 0 true w5 HM5.out HA.out
            rw [hr6] at hf6
            have hq := HQ5c.out
            rw [hr6] at hq
            have HQ6 := Lib.hid hq
            clear hq hr6
            refine hf6.mono ?_
            rintro e w6 ⟨rfl, hm6, hb6, ho6⟩
            have HM6 := Lib.hid hm6
            have HB6 := Lib.hid (HB5.out.trans hb6)
            have HI6 := Lib.hid ((ho6 g5 (by have := HLT.out; omega) (by have := HLT.out; omega) (by have := HLT.out; omega) (by have := HLT.out; omega)).trans HI5.out)
            clear hm6 hb6 ho6 hf6
            have j0 : w6.cell? ⟨g5, 0, none⟩ = some (.int .u8 (o : Int)) := by rw [blk_cell HI6.out]; rfl
            have j1 : w6.cell? ⟨g5, 1, none⟩ = some (.int .i64 (m : Int)) := by rw [blk_cell HI6.out]; rfl
            have HV := Lib.hid (show r = (e6, s6) from HQ6.out)
            go_wp2_with fail
            go_ret
            exact ⟨by rw [HV.out]; rfl, by rw [HV.out]; exact HM6.out, HB6.out⟩
  · have HE0 := Lib.hid e
    have f0 : ((o : Int) == 0) = false := by rw [beq_eq_false_iff_ne]; omega
    have f16 : ((o : Int) == 16) = false := by rw [beq_eq_false_iff_ne]; omega
    have f12 : ((o : Int) == 12) = false := by rw [beq_eq_false_iff_ne]; omega
    have f7 : ((o : Int) == 7) = false := by rw [beq_eq_false_iff_ne]; omega
    have f8 : ((o : Int) == 8) = false := by rw [beq_eq_false_iff_ne]; omega
    have f13 : ((o : Int) == 13) = false := by rw [beq_eq_false_iff_ne]; omega
    have hq := HQ.out
    rw [if_neg (by rintro (⟨h1, h2⟩ | ⟨h1, h2⟩) <;> first | (cases h2; done) | omega)] at hq
    have HQ2 := Lib.hid hq
    clear hq e HQ
    go_wp2_with fail
    refine (HEF.out w2).mono ?_
    rintro e w3 ⟨rfl, rfl⟩
    by_cases g1 : x < (pp : Int)
    · have hq := HQ2.out
      rw [if_pos (.inl g1)] at hq
      have HV := Lib.hid hq
      clear hq HQ2
      go_wp2_with fail
      go_ret
      exact ⟨by rw [HV.out]; rfl, by rw [HV.out]; exact HM2.out, HB2.out⟩
    · by_cases g2 : p.stack < x - (pp : Int) + (qq : Int)
      · have hq := HQ2.out
        rw [if_pos (.inr (.inl g2))] at hq
        have HV := Lib.hid hq
        clear hq HQ2
        go_wp2_with fail
        go_ret
        exact ⟨by rw [HV.out]; rfl, by rw [HV.out]; exact HM2.out, HB2.out⟩
      · have hq := HQ2.out
        rw [if_neg (by rintro (h | h | ⟨h, _⟩) <;> first | omega | (have := HE0.out; omega))] at hq
        have HQ3 := Lib.hid hq
        clear hq HQ2
        by_cases hmx : s.pk < (x - (pp : Int) + (qq : Int))
        · have HMX := Lib.hid (show max s.pk (x - (pp : Int) + (qq : Int)) = (x - (pp : Int) + (qq : Int)) from Int.max_eq_right (by omega))
          have HM3 := Lib.hid (HM2.out.setP HA.out (x - (pp : Int) + (qq : Int)))
          have HB3 := Lib.hid (HB2.out.setCell (p := ⟨q, 2, none⟩) HA.out.lq (.int .i64 (x - (pp : Int) + (qq : Int))))
          rw [HMX.out] at HQ3
          have HI3 := Lib.hid ((far_blk (v := .int .i64 (x - (pp : Int) + (qq : Int))) (k := 2) (P := w2) (show g5 ≠ q by have := HM2q.out; omega)).trans HI.out)
          have hq := HQ3.out
          rw [if_pos (by have := HE0.out; omega), show ((k + 1 : Nat) : Int) = (k : Int) + 1 by omega] at hq
          obtain ⟨s1, hs1⟩ : ∃ s1, St.mk s.hs s.ts s.wt s.fs (x - (pp : Int) + (qq : Int)) = s1 := ⟨_, rfl⟩
          rw [hs1] at hq HM3
          have HQ4 := Lib.hid hq
          clear hq hs1 HQ3
          go_wp2_with fail
          generalize w2.setCell ⟨q, 2, none⟩ (.int .i64 (x - (pp : Int) + (qq : Int))) = w3 at *
          obtain ⟨⟨e5, s5⟩, hr5⟩ : ∃ r1, findS n s1 ((k : Int) + 1) (x - (pp : Int) + (qq : Int)) t = r1 := ⟨_, rfl⟩
          have hf5 := find_is d p G q gh gt gw n s1 (k + 1) (x - (pp : Int) + (qq : Int)) t w3 HM3.out HA.out
          rw [show ((k + 1 : Nat) : Int) = (k : Int) + 1 by omega] at hf5
          rw [hr5] at hf5
          have hq := HQ4.out
          rw [hr5] at hq
          have HQ5 := Lib.hid hq
          clear hq hr5
          refine hf5.mono ?_
          rintro e w5 ⟨rfl, hm5, hb5, ho5⟩
          have HM5 := Lib.hid hm5
          have HB5 := Lib.hid (HB3.out.trans hb5)
          have HI5 := Lib.hid ((ho5 g5 (by have := HLT.out; omega) (by have := HLT.out; omega) (by have := HLT.out; omega) (by have := HLT.out; omega)).trans HI3.out)
          clear hm5 hb5 ho5 hf5
          have j0 : w5.cell? ⟨g5, 0, none⟩ = some (.int .u8 (o : Int)) := by rw [blk_cell HI5.out]; rfl
          have j1 : w5.cell? ⟨g5, 1, none⟩ = some (.int .i64 a) := by rw [blk_cell HI5.out]; rfl
          by_cases he : e5 = 0
          case neg =>
            have hq := HQ5.out
            rw [thenS_err (by exact he)] at hq
            have HV := Lib.hid hq
            have he' : (e5 != 0) = true := by rw [bne_iff_ne]; exact he
            clear hq he
            go_wp2_with fail
            go_ret
            exact ⟨by rw [HV.out]; rfl, by rw [HV.out]; exact HM5.out, HB5.out⟩
          case pos =>
            subst he
            have hq := HQ5.out
            rw [thenS_ok] at hq
            have HQ5b := Lib.hid hq
            clear hq
            have hq := HQ5b.out
            rw [if_neg (by have := HE0.out; omega), thenS_ok, if_neg (by have := HE0.out; omega)] at hq
            have HV := Lib.hid hq
            clear hq
            go_wp2_with fail
            go_ret
            exact ⟨by rw [HV.out]; rfl, by rw [HV.out]; exact HM5.out, HB5.out⟩
        · have HMX := Lib.hid (show max s.pk (x - (pp : Int) + (qq : Int)) = s.pk from Int.max_eq_left (by omega))
          have HM3 := Lib.hid (HM2.out.setP HA.out s.pk)
          have HB3 := Lib.hid (HB2.out.setCell (p := ⟨q, 2, none⟩) HA.out.lq (.int .i64 s.pk))
          rw [HMX.out] at HQ3
          have HI3 := Lib.hid ((far_blk (v := .int .i64 s.pk) (k := 2) (P := w2) (show g5 ≠ q by have := HM2q.out; omega)).trans HI.out)
          have hq := HQ3.out
          rw [if_pos (by have := HE0.out; omega), show ((k + 1 : Nat) : Int) = (k : Int) + 1 by omega] at hq
          obtain ⟨s1, hs1⟩ : ∃ s1, St.mk s.hs s.ts s.wt s.fs s.pk = s1 := ⟨_, rfl⟩
          rw [hs1] at hq HM3
          have HQ4 := Lib.hid hq
          clear hq hs1 HQ3
          go_wp2_with fail
          generalize w2.setCell ⟨q, 2, none⟩ (.int .i64 s.pk) = w3 at *
          obtain ⟨⟨e5, s5⟩, hr5⟩ : ∃ r1, findS n s1 ((k : Int) + 1) (x - (pp : Int) + (qq : Int)) t = r1 := ⟨_, rfl⟩
          have hf5 := find_is d p G q gh gt gw n s1 (k + 1) (x - (pp : Int) + (qq : Int)) t w3 HM3.out HA.out
          rw [show ((k + 1 : Nat) : Int) = (k : Int) + 1 by omega] at hf5
          rw [hr5] at hf5
          have hq := HQ4.out
          rw [hr5] at hq
          have HQ5 := Lib.hid hq
          clear hq hr5
          refine hf5.mono ?_
          rintro e w5 ⟨rfl, hm5, hb5, ho5⟩
          have HM5 := Lib.hid hm5
          have HB5 := Lib.hid (HB3.out.trans hb5)
          have HI5 := Lib.hid ((ho5 g5 (by have := HLT.out; omega) (by have := HLT.out; omega) (by have := HLT.out; omega) (by have := HLT.out; omega)).trans HI3.out)
          clear hm5 hb5 ho5 hf5
          have j0 : w5.cell? ⟨g5, 0, none⟩ = some (.int .u8 (o : Int)) := by rw [blk_cell HI5.out]; rfl
          have j1 : w5.cell? ⟨g5, 1, none⟩ = some (.int .i64 a) := by rw [blk_cell HI5.out]; rfl
          by_cases he : e5 = 0
          case neg =>
            have hq := HQ5.out
            rw [thenS_err (by exact he)] at hq
            have HV := Lib.hid hq
            have he' : (e5 != 0) = true := by rw [bne_iff_ne]; exact he
            clear hq he
            go_wp2_with fail
            go_ret
            exact ⟨by rw [HV.out]; rfl, by rw [HV.out]; exact HM5.out, HB5.out⟩
          case pos =>
            subst he
            have hq := HQ5.out
            rw [thenS_ok] at hq
            have HQ5b := Lib.hid hq
            clear hq
            have hq := HQ5b.out
            rw [if_neg (by have := HE0.out; omega), thenS_ok, if_neg (by have := HE0.out; omega)] at hq
            have HV := Lib.hid hq
            clear hq
            go_wp2_with fail
            go_ret
            exact ⟨by rw [HV.out]; rfl, by rw [HV.out]; exact HM5.out, HB5.out⟩
end Go.Proofs.Ytkmcjjoicpgjfaa
