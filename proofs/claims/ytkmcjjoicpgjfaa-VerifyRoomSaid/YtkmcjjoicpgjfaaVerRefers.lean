/-
  Contract of verify.refers: the second step. Conditions: a program in form.
-/
import Derived.Test.YtkmcjjoicpgjfaaVerBound
namespace Go.Proofs.Ytkmcjjoicpgjfaa
open Go Go.RowKit Go.Sh

/-- does a jump lead to an instruction? -/
def jpB (p : Prg) (i : Ins) : Bool := if i.op.toNat = 7 ∨ i.op.toNat = 8 ∨ i.op.toNat = 13 then decide (i.a < (p.code.length : Int)) else true
/-- the bytes of a send's message, with a block if it has one -/
def szP (p : Prg) (s : Snd) : Nat := (lat p.msgs s.msg.toNat).length + if 0 ≤ s.blk then 328 else 0
def szB (p : Prg) (s : Snd) : Bool := decide (szP p s ≤ 7200)
/-- the error of the second step -/
def rfP (p : Prg) : Int :=
  if p.code.all (boB p) = false then 3 else if p.snds.all (whB p) = false then 3 else if p.snds.all (szB p) = false then 11 else if p.code.length = 0 then 14 else if p.code.all (jpB p) = false then 14 else 0
set_option maxRecDepth 100000 in
set_option maxHeartbeats 8000000 in
theorem refers_is (d : Pad) (p : Prg) (w : World) (B : Nat) (hp : PR w B d p) (hB : B ≤ w.heap.size) (hf : Formed p) :
    Calls Try.prog 15 #[.agg (pcs d p)] w (fun e w' => e = .returned (.int .i64 (rfP p)) ∧ Below w.heap.size w w') := by
  have HS := Lib.hid (show rfP p = if p.code.all (boB p) = false then 3 else if p.snds.all (whB p) = false then 3 else if p.snds.all (szB p) = false then 11 else if p.code.length = 0 then 14 else if p.code.all (jpB p) = false then 14 else 0 from rfl)
  have HF := Lib.hid hf
  have hb1 := (Below.refl w.heap.size w).alloc (Nat.le_refl _) (.cells (pcs d p) 27)
  have HB := Lib.hid hb1
  have HPR := Lib.hid (hp.below (hb1.mono hB))
  have HBX := Lib.hid (show (w.alloc (.cells (pcs d p) 27)).heap[w.heap.size]? = some (.cells (pcs d p).toList.toArray 27 (0, 0)) from heap_alloc_new w _)
  have HC := Lib.hid (show ∀ (k : Nat) v, (pcs d p)[k]? = some v → (w.alloc (.cells (pcs d p) 27)).cell? ⟨w.heap.size, k, none⟩ = some v from fun k v hv => by rw [blk_cell (heap_alloc_new w _)]; exact hv)
  have hc0 := HC.out 0 (.slice d.A1 d.n1 d.c1) rfl
  have HC0 := Lib.hid hc0
  have HC1 := Lib.hid (HC.out 1 (.slice d.A2 d.n2 d.c2) rfl)
  have HC3 := Lib.hid (HC.out 3 (.slice d.A4 d.n4 d.c4) rfl)
  have hps : (pcs d p).size = 8 := rfl
  have hz1 : (w.alloc (.cells (pcs d p) 27)).heap.size = w.heap.size + 1 := by simp
  have HBO := Lib.hid (fun (o : Nat) (a b : Int) (W : World) (ho : o ≤ 16) => bound_is d p o a b W ho hp.rts.len hp.snds.len)
  have HWH := Lib.hid (fun (mm bb : Int) (rts : List Int) (A : Option Addr) (n c : Nat) (W : World) (hr : RI W B A n rts) (hB : B ≤ W.heap.size) (hn8 : n ≤ 8) => whole_is d p mm bb rts A n c W B hr hB hn8 hp.msgs.len hp.rts.len)
  have HL1 := Lib.hid (show p.code.length = d.n1 by have := hp.code.len; rw [List.length_map] at this; exact this)
  have HL2 := Lib.hid hp.msgs.len
  have HL4 := Lib.hid hp.snds.len
  have hn1 : d.n1 ≤ 140737488355328 := hp.b1
  have hn4 : d.n4 ≤ 140737488355328 := hp.b4
  have HI := Lib.hid (show (Try.prog.info? 27).map (·.size) = some (pcs d p).toList.length by rw [show (pcs d p).toList.length = 8 from rfl]; exact info_prog)
  generalize rfP p = r at *
  clear hp hb1 HC hf
  obtain ⟨X, hX⟩ : ∃ X, pcs d p = X := ⟨_, rfl⟩
  have HTA := Lib.hid (show (pcs d p).toList.toArray = X by rw [hX])
  have HBX1 := Lib.hid (show (w.alloc (.cells X 27)).heap[w.heap.size]? = some (.cells (pcs d p).toList.toArray 27 (0, 0)) by rw [← hX]; exact HBX.out)
  rw [hX] at HB HPR hc0 HC0 HC1 HC3 hps hz1 HBO HWH ⊢
  have hxe : ¬ X = #[] := by intro h; rw [h] at hps; cases hps
  clear hX HBX
  generalize (pcs d p).toList = L at *
  go_enter Try.func15, Try.ntmps15
  go_wp2_with fail
  clear hc0
  generalize w.alloc (.cells X 27) = w1 at *
  generalize hg : w.heap.size = g at *
  have HG := Lib.hid hg
  clear hg
  go_loopw [4, 15] (fun _ i wr => ∃ k : Nat, k ≤ d.n1 ∧ i = .int .i64 (k : Int) ∧ Below (g + 1) w1 wr ∧ ∀ j, j < k → boB p (iat p.code j) = true) (fun _ i _ => d.n1 - (intOf i).toNat)
  case atStart => exact ⟨0, by omega, rfl, Below.refl _ _, fun j hj => absurd hj (by omega)⟩
  case round =>
    obtain ⟨k, hk, rfl, hb, hall⟩ := hrel
    have HA := Lib.hid hall
    have HBr := Lib.hid hb
    have hz := hb.size
    clear hall hb
    by_cases hlt : k < d.n1
    · have dk : (k : Int) < (d.n1 : Int) := by omega
      obtain ⟨b, off, hA1, _, c0, c1, c2⟩ := ins_at (HPR.out.code.below (HBr.out.mono (by omega))) hlt
      have HSY := Lib.hid (asked (f := boB p) (at_ := iat) (fun {_} h => iat_eq h) (by rw [HL1.out]; exact hlt) HA.out)
      have ho := HF.out.ops _ (iat_mem (l := p.code) (k := k) (by rw [HL1.out]; exact hlt))
      generalize iat p.code k = st at *
      obtain ⟨op, a, bb⟩ := st
      simp only at c0 c1 c2 ho
      have HOP := Lib.hid ho
      clear ho
      rw [hA1]
      have hb1 := (Below.refl wr.heap.size wr).alloc (Nat.le_refl _) (.cells #[.int .u8 (op.toNat : Int), .int .i64 a, .int .i64 bb] 39)
      have HB1 := Lib.hid (HBr.out.trans (hb1.mono (by omega)))
      have hzz : (wr.alloc (.cells #[.int .u8 (op.toNat : Int), .int .i64 a, .int .i64 bb] 39)).heap.size = wr.heap.size + 1 := by simp
      have HRG := Lib.hid (blk_range ((HB1.out.block g (Nat.lt_succ_self _)).trans HBX1.out))
      clear hb1
      go_wp2_with (refine wl_load_mid (by rfl) _ (.tmp 1) rfl g 0 rfl L _ HRG.out Try.underlying27 rfl HI.out ?_; rw [HTA.out])
      clear c0 c1 c2 HRG
      generalize wr.alloc (.cells #[.int .u8 (op.toNat : Int), .int .i64 a, .int .i64 bb] 39) = wa at *
      refine (HBO.out op.toNat a bb wa HOP.out).mono ?_
      rintro e wb ⟨rfl, hbb⟩
      have HBB := Lib.hid (HB1.out.trans (hbb.mono (by omega)))
      clear hbb HB1
      have hbo : boR p.vars p.rts.length p.snds.length p.blocks op.toNat a bb = boB p ⟨op, a, bb⟩ := rfl
      rw [hbo]
      clear hbo
      rcases Bool.eq_false_or_eq_true (boB p ⟨op, a, bb⟩) with h | h
      · have HGG := Lib.hid (HSY.out.1 h)
        rw [h]
        clear h HSY
        go_wp2_with fail
        refine ⟨⟨k + 1, by omega, by go_num, HBB.out, HGG.out⟩, by simp [intOf]; omega⟩
      · have hr := HS.out
        rw [if_pos (HSY.out.2 h)] at hr
        rw [h]
        clear h HSY
        go_wp2_with fail
        go_ret
        exact ⟨by first | rfl | (rw [hr]; rfl), by rw [HG.out]; exact HB.out.trans (HBB.out.mono (by omega))⟩
    · obtain rfl : k = d.n1 := by omega
      have hr := HS.out
      rw [if_neg (by rw [asked_all (f := boB p) (at_ := iat) (fun {_} h => iat_eq h) (by rw [HL1.out]; exact HA.out)]; decide)] at hr
      have HRR := Lib.hid hr
      have hc3 := (HBr.out.cell (p := ⟨g, 3, none⟩) (Nat.lt_succ_self _)).trans HC3.out
      clear hr HS HA
      go_wp2_with fail
      go_loopw [6, 27] (fun _ i wx => ∃ q : Nat, q ≤ d.n4 ∧ i = .int .i64 (q : Int) ∧ Below (g + 1) w1 wx ∧ ∀ j, j < q → whB p (dat p.snds j) = true) (fun _ i _ => d.n4 - (intOf i).toNat)
      case atStart => exact ⟨0, by omega, rfl, HBr.out, fun j hj => absurd hj (by omega)⟩
      case round =>
        obtain ⟨q, hkq, rfl, hb, hall⟩ := hrel
        have HAq := Lib.hid hall
        have HBq := Lib.hid hb
        have hzq := hb.size
        clear hall hb
        by_cases hltq : q < d.n4
        · have dkq : (q : Int) < (d.n4 : Int) := by omega
          have HSY := Lib.hid (asked (f := whB p) (at_ := dat) (fun {_} h => dat_eq h) (by rw [HL4.out]; exact hltq) HAq.out)
          obtain ⟨b, off, Ai, ni, ci, hA4, _, c0, c1, c2, _, hri⟩ := (HPR.out.snds.below (HBq.out.mono (by omega))).at_ hltq
          have HRI := Lib.hid hri
          have hn8 := (HF.out.snds _ (dat_mem (l := p.snds) (k := q) (by rw [HL4.out]; exact hltq))).2.1
          have hln := hri.len
          clear hri
          rw [hA4]
          generalize dat p.snds q = st at *
          obtain ⟨mm, rr, bb⟩ := st
          simp only at c0 c1 c2 HRI hn8 hln
          have HN8 := Lib.hid (show ni ≤ 8 by omega)
          clear hn8 hln
          have hb1 := (Below.refl wr.heap.size wr).alloc (Nat.le_refl _) (.cells #[.int .i64 mm, .slice Ai ni ci, .int .i64 bb] 52)
          have HB1 := Lib.hid (HBq.out.trans (hb1.mono (by omega)))
          have HRI1 := Lib.hid (HRI.out.alloc (by omega) (.cells #[.int .i64 mm, .slice Ai ni ci, .int .i64 bb] 52))
          have hzz : (wr.alloc (.cells #[.int .i64 mm, .slice Ai ni ci, .int .i64 bb] 52)).heap.size = wr.heap.size + 1 := by simp
          have HRG := Lib.hid (blk_range ((HB1.out.block g (Nat.lt_succ_self _)).trans HBX1.out))
          clear hb1
          go_wp2_with (refine wl_load_mid (by rfl) _ (.tmp 1) rfl g 0 rfl L _ HRG.out Try.underlying27 rfl HI.out ?_; rw [HTA.out])
          clear c0 c1 c2 HRI HRG
          generalize wr.alloc (.cells #[.int .i64 mm, .slice Ai ni ci, .int .i64 bb] 52) = wa at *
          refine (HWH.out mm bb rr Ai ni ci wa HRI1.out (by omega) HN8.out).mono ?_
          rintro e wb ⟨rfl, hbb⟩
          have HBB := Lib.hid (HB1.out.trans (hbb.mono (by omega)))
          clear hbb HB1
          rcases Bool.eq_false_or_eq_true (whB p ⟨mm, rr, bb⟩) with h | h
          · have HGG := Lib.hid (HSY.out.1 h)
            rw [h]
            clear h HSY
            go_wp2_with fail
            refine ⟨⟨q + 1, by omega, by go_num, HBB.out, HGG.out⟩, by simp [intOf]; omega⟩
          · have hr := HRR.out
            rw [if_pos (HSY.out.2 h)] at hr
            rw [h]
            clear h HSY
            go_wp2_with fail
            go_ret
            exact ⟨by first | rfl | (rw [hr]; rfl), by rw [HG.out]; exact HB.out.trans (HBB.out.mono (by omega))⟩
        · obtain rfl : q = d.n4 := by omega
          have HWA := Lib.hid (asked_all (f := whB p) (at_ := dat) (fun {_} h => dat_eq h) (by rw [HL4.out]; exact HAq.out))
          have hr := HRR.out
          rw [if_neg (by rw [HWA.out]; decide)] at hr
          have HRT := Lib.hid hr
          have hc3b := (HBq.out.cell (p := ⟨g, 3, none⟩) (Nat.lt_succ_self _)).trans HC3.out
          clear hr HRR HAq hc3
          go_wp2_with fail
          go_loopw [8, 9, 39] (fun _ _ i wx => ∃ x : Nat, x ≤ d.n4 ∧ i = .int .i64 (x : Int) ∧ Below (g + 1) w1 wx ∧ ∀ j, j < x → szB p (dat p.snds j) = true) (fun _ _ i _ => d.n4 - (intOf i).toNat)
          case atStart => exact ⟨0, by omega, rfl, HBq.out, fun j hj => absurd hj (by omega)⟩
          case round =>
            obtain ⟨x, hkx, rfl, hb, hall⟩ := hrel
            have HAx := Lib.hid hall
            have HBx := Lib.hid hb
            have hzx := hb.size
            clear hall hb
            by_cases hltx : x < d.n4
            · have dkx : (x : Int) < (d.n4 : Int) := by omega
              have HSY := Lib.hid (asked (f := szB p) (at_ := dat) (fun {_} h => dat_eq h) (by rw [HL4.out]; exact hltx) HAx.out)
              obtain ⟨b, off, Ai, ni, ci, hA4, _, c0, c1, c2, _, _⟩ := (HPR.out.snds.below (HBx.out.mono (by omega))).at_ hltx
              have hmem := dat_mem (l := p.snds) (k := x) (by rw [HL4.out]; exact hltx)
              have hfs := HF.out.snds _ hmem
              have hwh := List.all_eq_true.1 HWA.out _ hmem
              unfold whB at hwh
              simp only [Bool.and_eq_true, decide_eq_true_eq] at hwh
              rw [hA4]
              have HST := Lib.hid (show szB p (dat p.snds x) = decide (szP p (dat p.snds x) ≤ 7200) from rfl)
              have HSP := Lib.hid (show szP p (dat p.snds x) = (lat p.msgs (dat p.snds x).msg.toNat).length + if 0 ≤ (dat p.snds x).blk then 328 else 0 from rfl)
              generalize dat p.snds x = st at *
              obtain ⟨mm, rr, bb⟩ := st
              simp only at c0 c1 c2 hfs hwh HSP
              obtain ⟨m, rfl⟩ : ∃ m : Nat, mm = (m : Int) := ⟨mm.toNat, by omega⟩
              have hm2 : m < d.n2 := by have := HL2.out; omega
              rw [Int.toNat_natCast] at HSP
              obtain ⟨ad2, Bi, bi, bc, hA2, _, e0, _, hrb⟩ := (HPR.out.msgs.below (HBx.out.mono (by omega))).at_ hm2
              have hbl := hrb.len
              have hb72 : bi ≤ 7200 := by rw [← hbl]; exact HF.out.msgs _ (List.mem_of_getElem? (lat_eq (by rw [HL2.out]; exact hm2)))
              rw [hbl] at HSP
              have hb1 := (Below.refl wr.heap.size wr).alloc (Nat.le_refl _) (.cells #[.int .i64 (m : Int), .slice Ai ni ci, .int .i64 bb] 52)
              have HB1 := Lib.hid (HBx.out.trans (hb1.mono (by omega)))
              have hc1p := ((HB1.out.cell (p := ⟨g, 1, none⟩) (Nat.lt_succ_self _)).trans HC1.out)
              rw [hA2] at hc1p
              have hm3 : (m : Int) < (d.n2 : Int) := by omega
              have e1 : (wr.alloc (.cells #[.int .i64 (m : Int), .slice Ai ni ci, .int .i64 bb] 52)).cell? (ad2.add m) = some (.slice Bi bi bc) := by
                rw [hb1.cell (p := ad2.add m) (by rw [show (ad2.add m).block = ad2.block by unfold Addr.add; split <;> rfl]; omega)]; exact e0
              clear hb1 hrb hbl e0 hmem hwh
              have HFS := Lib.hid hfs
              clear hfs
              by_cases hbk : 0 ≤ bb
              · have HSZ := Lib.hid (show szB p ⟨(m : Int), rr, bb⟩ = decide (bi + 328 ≤ 7200) by rw [HST.out, HSP.out, if_pos hbk])
                clear HST HSP
                by_cases hsz : bi + 328 ≤ 7200
                · have HGG := Lib.hid (HSY.out.1 (by rw [HSZ.out]; exact decide_eq_true hsz))
                  have hsz' : ¬ (7200 : Int) < (bi : Int) + 328 := by omega
                  clear HSY hsz
                  go_wp2_with fail
                  refine ⟨⟨x + 1, by omega, by go_num, HB1.out, HGG.out⟩, by simp [intOf]; omega⟩
                · have hr := HRT.out
                  rw [if_pos (HSY.out.2 (by rw [HSZ.out]; exact decide_eq_false hsz))] at hr
                  have hsz' : (7200 : Int) < (bi : Int) + 328 := by omega
                  clear HSY hsz
                  go_wp2_with fail
                  go_ret
                  exact ⟨by first | rfl | (rw [hr]; rfl), by rw [HG.out]; exact HB.out.trans (HB1.out.mono (by omega))⟩
              · have HSZ := Lib.hid (show szB p ⟨(m : Int), rr, bb⟩ = decide (bi ≤ 7200) by rw [HST.out, HSP.out, if_neg hbk, Nat.add_zero])
                clear HST HSP
                have hbk' : bb < 0 := by omega
                clear hbk
                by_cases hsz : bi ≤ 7200
                · have HGG := Lib.hid (HSY.out.1 (by rw [HSZ.out]; exact decide_eq_true hsz))
                  have hsz' : ¬ (7200 : Int) < (bi : Int) := by omega
                  clear HSY hsz
                  go_wp2_with fail
                  refine ⟨⟨x + 1, by omega, by go_num, HB1.out, HGG.out⟩, by simp [intOf]; omega⟩
                · exact absurd hb72 hsz
            · obtain rfl : x = d.n4 := by omega
              have hr := HRT.out
              rw [if_neg (by rw [asked_all (f := szB p) (at_ := dat) (fun {_} h => dat_eq h) (by rw [HL4.out]; exact HAx.out)]; decide), HL1.out] at hr
              have HRU := Lib.hid hr
              have hc0b := (HBx.out.cell (p := ⟨g, 0, none⟩) (Nat.lt_succ_self _)).trans HC0.out
              clear hr HRT HAx
              by_cases hn0 : d.n1 = 0
              · have hr := HRU.out
                rw [if_pos hn0] at hr
                have hn0' : ((d.n1 : Int) == 0) = true := by rw [beq_iff_eq]; omega
                clear hn0
                go_wp2_with fail
                go_ret
                exact ⟨by first | rfl | (rw [hr]; rfl), by rw [HG.out]; exact HB.out.trans (HBx.out.mono (by omega))⟩
              · have hr := HRU.out
                rw [if_neg hn0] at hr
                have HRV := Lib.hid hr
                have hn0' : ((d.n1 : Int) == 0) = false := by rw [beq_eq_false_iff_ne]; omega
                clear hn0 hr HRU
                go_wp2_with fail
                go_loopw [11, 65, 71] (fun _ i _ wx => ∃ y : Nat, y ≤ d.n1 ∧ i = .int .i64 (y : Int) ∧ Below (g + 1) w1 wx ∧ ∀ j, j < y → jpB p (iat p.code j) = true) (fun _ i _ _ => d.n1 - (intOf i).toNat)
                case atStart => exact ⟨0, by omega, rfl, HBx.out, fun j hj => absurd hj (by omega)⟩
                case round =>
                  obtain ⟨y, hky, rfl, hb, hall⟩ := hrel
                  have HAy := Lib.hid hall
                  have HBy := Lib.hid hb
                  have hzy := hb.size
                  clear hall hb
                  by_cases hlty : y < d.n1
                  · have dky : (y : Int) < (d.n1 : Int) := by omega
                    obtain ⟨b, off, hA1, _, c0, c1, c2⟩ := ins_at (HPR.out.code.below (HBy.out.mono (by omega))) hlty
                    have HSY := Lib.hid (asked (f := jpB p) (at_ := iat) (fun {_} h => iat_eq h) (by rw [HL1.out]; exact hlty) HAy.out)
                    have HOP := Lib.hid (HF.out.ops _ (iat_mem (l := p.code) (k := y) (by rw [HL1.out]; exact hlty)))
                    have HJP := Lib.hid (show jpB p (iat p.code y) = if (iat p.code y).op.toNat = 7 ∨ (iat p.code y).op.toNat = 8 ∨ (iat p.code y).op.toNat = 13 then decide ((iat p.code y).a < (d.n1 : Int)) else true by unfold jpB; rw [HL1.out])
                    generalize iat p.code y = st at *
                    obtain ⟨op, a, bb⟩ := st
                    simp only at c0 c1 c2 HOP HJP
                    rw [hA1]
                    generalize op.toNat = o at *
                    have hb1 := (Below.refl wr.heap.size wr).alloc (Nat.le_refl _) (.cells #[.int .u8 (o : Int), .int .i64 a, .int .i64 bb] 39)
                    have HB1 := Lib.hid (HBy.out.trans (hb1.mono (by omega)))
                    have hc0p := ((HB1.out.cell (p := ⟨g, 0, none⟩) (Nat.lt_succ_self _)).trans HC0.out)
                    have hc0w := ((HBy.out.cell (p := ⟨g, 0, none⟩) (Nat.lt_succ_self _)).trans HC0.out)
                    rw [hA1] at hc0p hc0w
                    clear hb1
                    by_cases hj : o = 7 ∨ o = 8 ∨ o = 13
                    · rw [if_pos hj] at HJP
                      by_cases ha : a < (d.n1 : Int)
                      · have HGG := Lib.hid (HSY.out.1 (by rw [HJP.out]; exact decide_eq_true ha))
                        have ha' : ¬ (d.n1 : Int) ≤ a := by omega
                        clear HSY HJP ha HOP
                        rcases hj with e | e | e
                        · have f7 : ((o : Int) == 7) = true := by rw [beq_iff_eq]; omega
                          clear e
                          go_wp2_with fail
                          refine ⟨⟨y + 1, by omega, by go_num, HB1.out, HGG.out⟩, by simp [intOf]; omega⟩
                        · have f7 : ((o : Int) == 7) = false := by rw [beq_eq_false_iff_ne]; omega
                          have f8 : ((o : Int) == 8) = true := by rw [beq_iff_eq]; omega
                          clear e
                          go_wp2_with fail
                          refine ⟨⟨y + 1, by omega, by go_num, HB1.out, HGG.out⟩, by simp [intOf]; omega⟩
                        · have f7 : ((o : Int) == 7) = false := by rw [beq_eq_false_iff_ne]; omega
                          have f8 : ((o : Int) == 8) = false := by rw [beq_eq_false_iff_ne]; omega
                          have f13 : ((o : Int) == 13) = true := by rw [beq_iff_eq]; omega
                          clear e
                          go_wp2_with fail
                          refine ⟨⟨y + 1, by omega, by go_num, HB1.out, HGG.out⟩, by simp [intOf]; omega⟩
                      · have hr := HRV.out
                        rw [if_pos (HSY.out.2 (by rw [HJP.out]; exact decide_eq_false ha))] at hr
                        have ha' : (d.n1 : Int) ≤ a := by omega
                        clear HSY HJP ha HOP
                        rcases hj with e | e | e
                        · have f7 : ((o : Int) == 7) = true := by rw [beq_iff_eq]; omega
                          clear e
                          go_wp2_with fail
                          go_ret
                          exact ⟨by first | rfl | (rw [hr]; rfl), by rw [HG.out]; exact HB.out.trans (HB1.out.mono (by omega))⟩
                        · have f7 : ((o : Int) == 7) = false := by rw [beq_eq_false_iff_ne]; omega
                          have f8 : ((o : Int) == 8) = true := by rw [beq_iff_eq]; omega
                          clear e
                          go_wp2_with fail
                          go_ret
                          exact ⟨by first | rfl | (rw [hr]; rfl), by rw [HG.out]; exact HB.out.trans (HB1.out.mono (by omega))⟩
                        · have f7 : ((o : Int) == 7) = false := by rw [beq_eq_false_iff_ne]; omega
                          have f8 : ((o : Int) == 8) = false := by rw [beq_eq_false_iff_ne]; omega
                          have f13 : ((o : Int) == 13) = true := by rw [beq_iff_eq]; omega
                          clear e
                          go_wp2_with fail
                          go_ret
                          exact ⟨by first | rfl | (rw [hr]; rfl), by rw [HG.out]; exact HB.out.trans (HB1.out.mono (by omega))⟩
                    · rw [if_neg hj] at HJP
                      have HGG := Lib.hid (HSY.out.1 HJP.out)
                      have f7 : ((o : Int) == 7) = false := by rw [beq_eq_false_iff_ne]; omega
                      have f8 : ((o : Int) == 8) = false := by rw [beq_eq_false_iff_ne]; omega
                      have f13 : ((o : Int) == 13) = false := by rw [beq_eq_false_iff_ne]; omega
                      clear HSY HJP hj HOP
                      go_wp2_with fail
                      refine ⟨⟨y + 1, by omega, by go_num, HB1.out, HGG.out⟩, by simp [intOf]; omega⟩
                  · obtain rfl : y = d.n1 := by omega
                    have hr := HRV.out
                    rw [if_neg (by rw [asked_all (f := jpB p) (at_ := iat) (fun {_} h => iat_eq h) (by rw [HL1.out]; exact HAy.out)]; decide)] at hr
                    go_wp2_with fail
                    go_ret
                    exact ⟨by first | rfl | (rw [hr]; rfl), by rw [HG.out]; exact HB.out.trans (HBy.out.mono (by omega))⟩
end Go.Proofs.Ytkmcjjoicpgjfaa
