/-
  Contract of code.Lines: a line for each instruction. Conditions: the sizes that slices can have, numbers that fit, and the table that strconv.Itoa reads.
-/
import Derived.Test.YtkmcjjoicpgjfaaDoorCodeLine
import Derived.Test.YtkmcjjoicpgjfaaDoorShelf
namespace Go.Proofs.YtkmcjjoicpgjfaaDoor
open Go Go.RowKit Go.Sh

set_option maxRecDepth 100000 in
theorem TSs : STy Tryd.prog 24 9 (.string .empty) 1 16 := ⟨Tryd.underlying24, by kernel_rfl, rfl, by decide⟩
/-- the table of powers of ten reads as it should, whatever is done from B on -/
def TabOK (B : Nat) (w : World) : Prop := Lib.TabBelow Tryd.prog B w "internal/strconv.uint64pow10" .u64 Lib.pow10Tab
theorem TabOK.on {B B' : Nat} {w w' : World} (h : TabOK B w) (hb : Below B' w w') (hB : B ≤ B') : TabOK B w' := Lib.TabBelow.on h (hb.mono hB)
theorem ItoaL_any (n : Int) (h0 : -9223372036854775808 ≤ n) (h1 : n ≤ 9223372036854775807) (w : World) {B : Nat} (ht : TabOK B w) :
    Calls Tryd.prog 28 #[.int .i64 n] w fun e w' => e = .returned (.string ⟨(Lib.itoa n).toArray⟩) ∧ Below w.heap.size w w' := by
  refine (Itoa_any n h0 h1 w ht.here).mono ?_
  rintro e w' ⟨rfl, k, os, rfl⟩
  exact ⟨rfl, Lib.below_grow _ w (Nat.le_refl _) k os⟩
theorem ln_one' {i : Ins} (h : usN i.op.toNat ≠ 0) (h3 : usN i.op.toNat ≠ 3) : (⟨(lnS i).toArray⟩ : ByteArray) = nmV i.op.toNat ++ (⟨#[32]⟩ ++ ⟨(Lib.itoa i.a).toArray⟩) := by
  unfold lnS nmV
  rw [if_neg h, if_neg h3, List.append_nil, show (⟨#[32]⟩ : ByteArray) = ⟨[32].toArray⟩ from rfl, str_cat, str_cat]
  rfl
theorem ln_two' {i : Ins} (h3 : usN i.op.toNat = 3) : (⟨(lnS i).toArray⟩ : ByteArray) = nmV i.op.toNat ++ (⟨#[32]⟩ ++ ⟨(Lib.itoa i.a).toArray⟩) ++ (⟨#[32]⟩ ++ ⟨(Lib.itoa i.b).toArray⟩) := by
  unfold lnS nmV
  rw [if_neg (by omega), if_pos h3, show (⟨#[32]⟩ : ByteArray) = ⟨[32].toArray⟩ from rfl, str_cat, str_cat, str_cat, str_cat]
  simp
set_option maxRecDepth 100000 in
set_option maxHeartbeats 4000000 in
theorem Lines_any (d : Pad) (p : Prg) (w : World) (B : Nat) (hc : RR w B 3 d.A1 d.n1 (p.code.map Ins.cells)) (hB : B ≤ w.heap.size) (hok : ∀ i ∈ p.code, i.OK) (hn : d.n1 * 16 ≤ 140737488355328) (ht : TabOK w.heap.size w) :
    Calls Tryd.prog 8 #[.agg (pcs d p)] w (fun e w' => ∃ A c, e = .returned (.slice A d.n1 c) ∧ w'.ownsRow w.heap.size 9 1 (.slice A d.n1 c) d.n1 (p.code.map lnV) ∧ Below w.heap.size w w') := by
  have hb1 := (Below.refl w.heap.size w).alloc (Nat.le_refl _) (.cells (pcs d p) 30)
  have HB1 := Lib.hid hb1
  have HT1 := Lib.hid (ht.on hb1 (Nat.le_refl _))
  have HC1 := Lib.hid (hc.below (hb1.mono hB))
  have hc0 : (w.alloc (.cells (pcs d p) 30)).cell? ⟨w.heap.size, 0, none⟩ = some (.slice d.A1 d.n1 d.c1) := by rw [blk_cell (heap_alloc_new w _)]; rfl
  have hps : (pcs d p).size = 8 := rfl
  have hz1 : (w.alloc (.cells (pcs d p) 30)).heap.size = w.heap.size + 1 := by simp
  have HOK := Lib.hid hok
  have HL1 := Lib.hid (show p.code.length = d.n1 by have := hc.len; rw [List.length_map] at this; exact this)
  clear hc hb1 hok ht
  obtain ⟨X, hX⟩ : ∃ X, pcs d p = X := ⟨_, rfl⟩
  rw [hX] at HB1 HT1 HC1 hc0 hps hz1 ⊢
  have hxe : ¬ X = #[] := by intro h; rw [h] at hps; cases hps
  clear hX
  generalize d.n1 = n at *
  generalize d.A1 = A0 at *
  generalize d.c1 = cc at *
  go_enter Tryd.func8, Tryd.ntmps8
  go_wp2_with fail
  clear hc0
  generalize w.alloc (.cells X 30) = w1 at *
  generalize hg : w.heap.size = g at *
  have HG := Lib.hid hg
  clear hg
  go_loopw [3, 5, 6, 7, 8, 12] (fun ls _ _ _ _ i wr => ∃ (k : Nat) (A : Option Addr) (c : Nat), k ≤ n ∧ i = .int .i64 (k : Int) ∧ ls = .slice A k c ∧ wr.ownsRow (g + 1) 9 1 (.slice A k c) k ((p.code.map lnV).take k) ∧ Below (g + 1) w1 wr) (fun _ _ _ _ _ i _ => n - (intOf i).toNat)
  case atStart => exact ⟨0, none, 0, by omega, rfl, rfl, World.ownsRow_nil _ _ _ _, Below.refl _ _⟩
  case round =>
    obtain ⟨k, A, c, hk, rfl, rfl, ho, hb⟩ := hrel
    have HO := Lib.hid ho
    have HBr := Lib.hid hb
    have hz := hb.size
    clear ho hb
    by_cases hlt : k < n
    · have dk : (k : Int) < (n : Int) := by omega
      obtain ⟨b, off, hA1, hbB, c0, c1, c2⟩ := ins_at (HC1.out.below (HBr.out.mono (by omega))) hlt
      rw [hA1]
      have HMEM := Lib.hid (HOK.out _ (iat_mem (l := p.code) (k := k) (by have := HL1.out; omega)))
      have HTK := Lib.hid (show (p.code.map lnV).take (k + 1) = (p.code.map lnV).take k ++ [lnV (iat p.code k)] by
        rw [List.take_add_one, List.getElem?_map, iat_eq (by have := HL1.out; omega)]; rfl)
      generalize iat p.code k = st at *
      have HTA := Lib.hid (fun W h => ItoaL_any st.a HMEM.out.a.1 HMEM.out.a.2 W (B := g) h)
      have HTB := Lib.hid (fun W h => ItoaL_any st.b HMEM.out.b.1 HMEM.out.b.2 W (B := g) h)
      have la : (⟨(Lib.itoa st.a).toArray⟩ : ByteArray).size ≤ 21 := Lib.itoa_length_le st.a HMEM.out.a.1 HMEM.out.a.2
      have lb : (⟨(Lib.itoa st.b).toArray⟩ : ByteArray).size ≤ 21 := Lib.itoa_length_le st.b HMEM.out.b.1 HMEM.out.b.2
      have HN0 := Lib.hid (fun h => ln_none (i := st) h)
      have HN1 := Lib.hid (fun h h3 => ln_one' (i := st) h h3)
      have HN2 := Lib.hid (fun h3 => ln_two' (i := st) h3)
      have HLV := Lib.hid (show lnV st = .string ⟨(lnS st).toArray⟩ from rfl)
      clear HMEM
      generalize (⟨(Lib.itoa st.a).toArray⟩ : ByteArray) = sa at *
      generalize (⟨(Lib.itoa st.b).toArray⟩ : ByteArray) = sb at *
      generalize (⟨(lnS st).toArray⟩ : ByteArray) = LN at *
      generalize lnV st = lv at *
      obtain ⟨op, a, bb⟩ := st
      simp only at c0 c1 c2 HTA HTB HN0 HN1 HN2
      have hln := nmV_size op.toNat
      have HTI := Lib.hid (fun W => title_any op.toNat W)
      have HUS := Lib.hid (fun W => uses_any op.toNat W)
      generalize nmV op.toNat = nm at *
      generalize usN op.toNat = u at *
      generalize usB op.toNat = ub at *
      generalize op.toNat = o at *
      have hba := (Below.refl wr.heap.size wr).alloc (Nat.le_refl _) (.cells #[.int .u8 (o : Int), .int .i64 a, .int .i64 bb] 33)
      have HBA := Lib.hid (HBr.out.trans (hba.mono (by omega)))
      have HOA := Lib.hid (own_later HO.out hba)
      have HCA := Lib.hid (heap_alloc_new wr (.cells #[.int .u8 (o : Int), .int .i64 a, .int .i64 bb] 33))
      have hzA : (wr.alloc (.cells #[.int .u8 (o : Int), .int .i64 a, .int .i64 bb] 33)).heap.size = wr.heap.size + 1 := by simp
      clear hba HO HBr
      go_wp2_with fail
      generalize wr.alloc (.cells #[.int .u8 (o : Int), .int .i64 a, .int .i64 bb] 33) = wa at *
      clear c0 c1 c2
      obtain ⟨ga, hga⟩ : ∃ ga, wr.heap.size = ga := ⟨_, rfl⟩
      rw [hga] at HCA hzA hz ⊢
      have HTA1 := Lib.hid (HT1.out.on HBA.out (Nat.le_succ _))
      refine (HTI.out _).mono ?_
      rintro e wb ⟨rfl, rfl⟩
      have j0 : wa.cell? ⟨ga, 0, none⟩ = some (.int .u8 (o : Int)) := by rw [blk_cell HCA.out]; rfl
      have j1 : wa.cell? ⟨ga, 1, none⟩ = some (.int .i64 a) := by rw [blk_cell HCA.out]; rfl
      go_wp2_with fail
      refine (HUS.out _).mono ?_
      rintro e wb ⟨rfl, rfl⟩
      clear HTI HUS
      rcases (show u = 0 ∨ u = 3 ∨ (u ≠ 0 ∧ u ≠ 3) by omega) with hu | hu | hu
      · have E := Lib.hid (HN0.out hu)
        subst hu
        rw [← E.out]
        have hge_u0 : g + 1 ≤ wa.heap.size := by omega
        clear hzA
        go_wp2_with (at_builtin; (refine wl_app TSs rfl (.tmp 41) (.tmp 43) rfl _ rfl (some ⟨wa.heap.size, 0, none⟩) 1 1 rfl (g + 1) k _ (HOA.out.alloc _) (wa.heap.size + 1) _ (Reads.lit wa _ [.string LN] 1 1 rfl _ rfl) ?hone_u0 ?hb1_u0 ?hb2_u0 ?hb3_u0 ?hgo_u0))
        case hone_u0 => simp [Value.oneCell']
        case hb1_u0 => omega
        case hb2_u0 => omega
        case hb3_u0 => simp; omega
        case hgo_u0 =>
          intro A3 c3 w3 hown3 hg3 _
          have HB3 := Lib.hid ((HBA.out.alloc (by omega) _).grown hg3 (by simp; omega) (own_drop HOA.out))
          have HO3 := Lib.hid (show w3.ownsRow (g + 1) 9 1 (.slice A3 (k + 1) c3) (k + 1) ((p.code.map lnV).take (k + 1)) by rw [HTK.out, HLV.out]; exact hown3)
          clear hown3 hg3
          go_wp2_with fail
          exact ⟨⟨k + 1, A3, c3, by omega, by go_num, rfl, HO3.out, HB3.out⟩, by simp [intOf]; omega⟩
      · have E := Lib.hid (HN2.out hu)
        have u0 : ((u : Int) != 0) = true := by rw [bne_iff_ne]; omega
        have u3 : ((u : Int) == 3) = true := by rw [beq_iff_eq]; omega
        clear hu
        go_wp2_with fail
        refine (HTA.out _ HTA1.out).mono ?_
        rintro e w5 ⟨rfl, hb5⟩
        have hs5 := hb5.size
        have HB5 := Lib.hid (HBA.out.trans (hb5.mono (by omega)))
        have HO5 := Lib.hid (own_later HOA.out hb5)
        have HC5 := Lib.hid ((hb5.block ga (by omega)).trans HCA.out)
        have HTB5 := Lib.hid (HT1.out.on HB5.out (Nat.le_succ _))
        clear hb5
        have k05 : w5.cell? ⟨ga, 0, none⟩ = some (.int .u8 (o : Int)) := by rw [blk_cell HC5.out]; rfl
        have k25 : w5.cell? ⟨ga, 2, none⟩ = some (.int .i64 bb) := by rw [blk_cell HC5.out]; rfl
        go_wp2_with fail
        refine (HTB.out _ HTB5.out).mono ?_
        rintro e w6 ⟨rfl, hb6⟩
        have hs6 := hb6.size
        have HB6 := Lib.hid (HB5.out.trans (hb6.mono (by omega)))
        have HO6 := Lib.hid (own_later HO5.out hb6)
        have HC6 := Lib.hid ((hb6.block ga (by omega)).trans HC5.out)
        have HTB6 := Lib.hid (HT1.out.on HB6.out (Nat.le_succ _))
        clear hb6
        have k06 : w6.cell? ⟨ga, 0, none⟩ = some (.int .u8 (o : Int)) := by rw [blk_cell HC6.out]; rfl
        have k26 : w6.cell? ⟨ga, 2, none⟩ = some (.int .i64 bb) := by rw [blk_cell HC6.out]; rfl
        rw [E.out] at HLV
        have hge_u3 : g + 1 ≤ w6.heap.size := by omega
        skip
        go_wp2_with (at_builtin; (refine wl_app TSs rfl (.tmp 41) (.tmp 43) rfl _ rfl (some ⟨w6.heap.size, 0, none⟩) 1 1 rfl (g + 1) k _ (HO6.out.alloc _) (w6.heap.size + 1) _ (Reads.lit w6 _ [.string _] 1 1 rfl _ rfl) ?hone_u3 ?hb1_u3 ?hb2_u3 ?hb3_u3 ?hgo_u3))
        case hone_u3 => simp [Value.oneCell']
        case hb1_u3 => omega
        case hb2_u3 => omega
        case hb3_u3 => simp; omega
        case hgo_u3 =>
          intro A3 c3 w3 hown3 hg3 _
          have HB3 := Lib.hid ((HB6.out.alloc (by omega) _).grown hg3 (by simp; omega) (own_drop HO6.out))
          have HO3 := Lib.hid (show w3.ownsRow (g + 1) 9 1 (.slice A3 (k + 1) c3) (k + 1) ((p.code.map lnV).take (k + 1)) by rw [HTK.out, HLV.out]; exact hown3)
          clear hown3 hg3
          go_wp2_with fail
          exact ⟨⟨k + 1, A3, c3, by omega, by go_num, rfl, HO3.out, HB3.out⟩, by simp [intOf]; omega⟩
      · have E := Lib.hid (HN1.out hu.1 hu.2)
        have u0 : ((u : Int) != 0) = true := by rw [bne_iff_ne]; omega
        have u3 : ((u : Int) == 3) = false := by rw [beq_eq_false_iff_ne]; omega
        clear hu
        go_wp2_with fail
        refine (HTA.out _ HTA1.out).mono ?_
        rintro e w5 ⟨rfl, hb5⟩
        have hs5 := hb5.size
        have HB5 := Lib.hid (HBA.out.trans (hb5.mono (by omega)))
        have HO5 := Lib.hid (own_later HOA.out hb5)
        have HC5 := Lib.hid ((hb5.block ga (by omega)).trans HCA.out)
        have HTB5 := Lib.hid (HT1.out.on HB5.out (Nat.le_succ _))
        clear hb5
        have k05 : w5.cell? ⟨ga, 0, none⟩ = some (.int .u8 (o : Int)) := by rw [blk_cell HC5.out]; rfl
        have k25 : w5.cell? ⟨ga, 2, none⟩ = some (.int .i64 bb) := by rw [blk_cell HC5.out]; rfl
        rw [E.out] at HLV
        have hge_u1 : g + 1 ≤ w5.heap.size := by omega
        skip
        go_wp2_with (at_builtin; (refine wl_app TSs rfl (.tmp 41) (.tmp 43) rfl _ rfl (some ⟨w5.heap.size, 0, none⟩) 1 1 rfl (g + 1) k _ (HO5.out.alloc _) (w5.heap.size + 1) _ (Reads.lit w5 _ [.string _] 1 1 rfl _ rfl) ?hone_u1 ?hb1_u1 ?hb2_u1 ?hb3_u1 ?hgo_u1))
        case hone_u1 => simp [Value.oneCell']
        case hb1_u1 => omega
        case hb2_u1 => omega
        case hb3_u1 => simp; omega
        case hgo_u1 =>
          intro A3 c3 w3 hown3 hg3 _
          have HB3 := Lib.hid ((HB5.out.alloc (by omega) _).grown hg3 (by simp; omega) (own_drop HO5.out))
          have HO3 := Lib.hid (show w3.ownsRow (g + 1) 9 1 (.slice A3 (k + 1) c3) (k + 1) ((p.code.map lnV).take (k + 1)) by rw [HTK.out, HLV.out]; exact hown3)
          clear hown3 hg3
          go_wp2_with fail
          exact ⟨⟨k + 1, A3, c3, by omega, by go_num, rfl, HO3.out, HB3.out⟩, by simp [intOf]; omega⟩
    · obtain rfl : k = n := by omega
      have HO2 := Lib.hid (show wr.ownsRow g 9 1 (.slice A k c) k (p.code.map lnV) by
        have h := own_base HO.out (Nat.le_succ g)
        rw [List.take_of_length_le (by rw [List.length_map]; have := HL1.out; omega)] at h
        exact h)
      have HBF := Lib.hid (HB1.out.trans (HBr.out.mono (Nat.le_succ _)))
      clear HO HBr
      go_wp2_with fail
      go_ret
      exact ⟨A, c, rfl, by rw [HG.out]; exact HO2.out, by rw [HG.out]; exact HBF.out⟩
end Go.Proofs.YtkmcjjoicpgjfaaDoor
