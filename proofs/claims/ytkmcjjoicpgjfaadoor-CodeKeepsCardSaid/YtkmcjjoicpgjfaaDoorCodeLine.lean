/-
  Contracts of shallotref18.uses and shallotref18.Line: an instruction's line. No conditions but that numbers fit.
-/
import Derived.Test.YtkmcjjoicpgjfaaDoorCodeTitle
import Derived.Test.YtkmcjjoicpgjfaaDoorRefDigits
namespace Go.Proofs.YtkmcjjoicpgjfaaDoor
open Go Go.RowKit Go.Sh

/-- how many numbers an op has -/
def rusN (o : Nat) : Nat := if o = 0 ∨ o = 2 ∨ o = 3 ∨ o = 4 ∨ o = 12 ∨ o = 14 ∨ o = 16 then 0 else if o = 15 then 2 else 1
set_option maxRecDepth 100000 in
theorem refuses_any (o : Nat) (ho : o ≤ 16) (w : World) : Calls Tryd.prog 30 #[.int .u8 (o : Int)] w (fun e w' => e = .returned (.int .i64 (rusN o : Int)) ∧ w = w') := by
  rcases u8_cases ho with rfl | rfl | rfl | rfl | rfl | rfl | rfl | rfl | rfl | rfl | rfl | rfl | rfl | rfl | rfl | rfl | rfl
  all_goals
    clear ho
    go_enter Tryd.func30, Tryd.ntmps30
    go_wp2
    go_ret
    exact ⟨rfl, rfl⟩
/-- the bytes of an instruction's line -/
noncomputable def lnS (i : Ins) : List UInt8 := nmA i.op.toNat ++ (if usN i.op.toNat = 0 then [] else 32 :: Lib.itoa i.a) ++ (if usN i.op.toNat = 3 then 32 :: Lib.itoa i.b else [])
noncomputable def lnV (i : Ins) : Value := .string ⟨(lnS i).toArray⟩
theorem rus_us {o : Nat} (h : o ≤ 16) : (rusN o = 0 ↔ usN o = 0) ∧ (rusN o = 2 ↔ usN o = 3) ∧ rusN o ≤ 2 ∧ usN o ≤ 3 := by
  rcases u8_cases h with rfl | rfl | rfl | rfl | rfl | rfl | rfl | rfl | rfl | rfl | rfl | rfl | rfl | rfl | rfl | rfl | rfl <;> decide
theorem us_big {o : Nat} (h : ¬ o ≤ 16) : usN o = 0 := by
  unfold usN
  rw [if_neg (by omega), if_neg (by omega), if_neg (by omega)]
theorem ln_none {i : Ins} (h : usN i.op.toNat = 0) : (⟨(lnS i).toArray⟩ : ByteArray) = nmV i.op.toNat := by
  unfold lnS nmV
  rw [if_pos h, if_neg (by omega), List.append_nil, List.append_nil]
theorem ln_one {i : Ins} (h : usN i.op.toNat ≠ 0) (h3 : usN i.op.toNat ≠ 3) : (⟨(lnS i).toArray⟩ : ByteArray) = nmV i.op.toNat ++ ⟨#[32]⟩ ++ ⟨(Lib.itoa i.a).toArray⟩ := by
  unfold lnS nmV
  rw [if_neg h, if_neg h3, List.append_nil, show (⟨#[32]⟩ : ByteArray) = ⟨[32].toArray⟩ from rfl, str_cat, str_cat, List.append_assoc]
  rfl
theorem ln_two {i : Ins} (h3 : usN i.op.toNat = 3) : (⟨(lnS i).toArray⟩ : ByteArray) = nmV i.op.toNat ++ ⟨#[32]⟩ ++ ⟨(Lib.itoa i.a).toArray⟩ ++ ⟨#[32]⟩ ++ ⟨(Lib.itoa i.b).toArray⟩ := by
  unfold lnS nmV
  rw [if_neg (by omega), if_pos h3, show (⟨#[32]⟩ : ByteArray) = ⟨[32].toArray⟩ from rfl, str_cat, str_cat, str_cat, str_cat]
  simp
theorem nmV_size (o : Nat) : (nmV o).size ≤ 5 := nmA_len o
set_option maxRecDepth 100000 in
set_option maxHeartbeats 2000000 in
theorem Line_any (i : Ins) (hi : i.OK) (w : World) :
    Calls Tryd.prog 9 #[.agg #[.int .u8 (i.op.toNat : Int), .int .i64 i.a, .int .i64 i.b]] w (fun e w' => e = .returned (.string ⟨(lnS i).toArray⟩) ∧ Below w.heap.size w w') := by
  obtain ⟨⟨a1, a2⟩, b1, b2⟩ := hi
  have HN0 := Lib.hid (fun h => ln_none (i := i) h)
  have HN1 := Lib.hid (fun h h3 => ln_one (i := i) h h3)
  have HN2 := Lib.hid (fun h3 => ln_two (i := i) h3)
  generalize (⟨(lnS i).toArray⟩ : ByteArray) = L at *
  obtain ⟨op, a, b⟩ := i
  simp only at a1 a2 b1 b2 HN0 HN1 HN2 ⊢
  have HDA := Lib.hid (fun W => Digits_any a a1 a2 W)
  have HDB := Lib.hid (fun W => Digits_any b b1 b2 W)
  have la : (⟨(Lib.itoa a).toArray⟩ : ByteArray).size ≤ 21 := Lib.itoa_length_le a a1 a2
  have lb : (⟨(Lib.itoa b).toArray⟩ : ByteArray).size ≤ 21 := Lib.itoa_length_le b b1 b2
  generalize (⟨(Lib.itoa a).toArray⟩ : ByteArray) = sa at *
  generalize (⟨(Lib.itoa b).toArray⟩ : ByteArray) = sb at *
  have HRU := Lib.hid (fun (h : op.toNat ≤ 16) => rus_us h)
  have HUB := Lib.hid (fun (h : ¬ op.toNat ≤ 16) => us_big h)
  have hln := nmV_size op.toNat
  have HNM := Lib.hid (fun W => Name_any op.toNat W)
  have HRF := Lib.hid (fun (h : op.toNat ≤ 16) W => refuses_any op.toNat h W)
  generalize nmV op.toNat = nm at *
  generalize op.toNat = o at *
  have hbx := (Below.refl w.heap.size w).alloc (Nat.le_refl _) (.cells #[.int .u8 (o : Int), .int .i64 a, .int .i64 b] 33)
  have HB1 := Lib.hid hbx
  have HC1 := Lib.hid (heap_alloc_new w (.cells #[.int .u8 (o : Int), .int .i64 a, .int .i64 b] 33))
  have hz1 : (w.alloc (.cells #[.int .u8 (o : Int), .int .i64 a, .int .i64 b] 33)).heap.size = w.heap.size + 1 := by simp
  clear a1 a2 b1 b2 hbx
  go_enter Tryd.func9, Tryd.ntmps9
  go_wp2_with fail
  generalize w.alloc (.cells #[.int .u8 (o : Int), .int .i64 a, .int .i64 b] 33) = w1 at *
  refine (HNM.out w1).mono ?_
  rintro e w2 ⟨rfl, hb2⟩
  have hs2 := hb2.size
  have HB2 := Lib.hid (HB1.out.trans (hb2.mono (by omega)))
  have HC2 := Lib.hid ((hb2.block w.heap.size (by omega)).trans HC1.out)
  clear hb2
  have j0 : w2.cell? ⟨w.heap.size, 0, none⟩ = some (.int .u8 (o : Int)) := by rw [blk_cell HC2.out]; rfl
  have j1 : w2.cell? ⟨w.heap.size, 1, none⟩ = some (.int .i64 a) := by rw [blk_cell HC2.out]; rfl
  by_cases ho : o ≤ 16
  · have d1 : ¬ 16 < o := by omega
    obtain ⟨r0, r2, rl, ul⟩ := HRU.out ho
    have HRW := Lib.hid (fun W => HRF.out ho W)
    clear HRF HNM HRU HUB HB1 HC1
    generalize usN o = u at *
    generalize rusN o = r at *
    clear ho
    go_wp2_with fail
    refine (HRW.out w2).mono ?_
    rintro e w3 ⟨rfl, rfl⟩
    by_cases hr0 : r = 0
    · have e1 := HN0.out (r0.1 hr0)
      have g1 : ¬ 0 < r := by omega
      have g2 : ¬ 1 < r := by omega
      have E := Lib.hid e1
      clear e1 r0 r2 rl ul hr0
      go_wp2_with fail
      refine (HRW.out _).mono ?_
      rintro e w4 ⟨rfl, rfl⟩
      go_wp2_with fail
      go_ret
      exact ⟨by rw [E.out]; rfl, HB2.out⟩
    · have g1 : 0 < r := by omega
      by_cases hr2 : r = 2
      · have E := Lib.hid (HN2.out (r2.1 hr2))
        have g2 : 1 < r := by omega
        clear r0 r2 rl ul hr0 hr2
        go_wp2_with fail
        refine (HDA.out _).mono ?_
        rintro e w4 ⟨rfl, hb4⟩
        have hs4 := hb4.size
        have HB4 := Lib.hid (HB2.out.trans (hb4.mono (by omega)))
        have HC4 := Lib.hid ((hb4.block w.heap.size (by omega)).trans HC2.out)
        clear hb4 j0 j1
        have j0 : w4.cell? ⟨w.heap.size, 0, none⟩ = some (.int .u8 (o : Int)) := by rw [blk_cell HC4.out]; rfl
        have j2 : w4.cell? ⟨w.heap.size, 2, none⟩ = some (.int .i64 b) := by rw [blk_cell HC4.out]; rfl
        go_wp2_with fail
        refine (HRW.out _).mono ?_
        rintro e w5 ⟨rfl, rfl⟩
        go_wp2_with fail
        refine (HDB.out _).mono ?_
        rintro e w6 ⟨rfl, hb6⟩
        have HB6 := Lib.hid (HB4.out.trans (hb6.mono (by omega)))
        clear hb6
        go_wp2_with fail
        go_ret
        exact ⟨by rw [E.out]; rfl, HB6.out⟩
      · have E := Lib.hid (HN1.out (fun h => hr0 (r0.2 h)) (fun h => hr2 (r2.2 h)))
        have g2 : ¬ 1 < r := by omega
        clear r0 r2 rl ul hr0 hr2
        go_wp2_with fail
        refine (HDA.out _).mono ?_
        rintro e w4 ⟨rfl, hb4⟩
        have hs4 := hb4.size
        have HB4 := Lib.hid (HB2.out.trans (hb4.mono (by omega)))
        have HC4 := Lib.hid ((hb4.block w.heap.size (by omega)).trans HC2.out)
        clear hb4 j0 j1
        have j0 : w4.cell? ⟨w.heap.size, 0, none⟩ = some (.int .u8 (o : Int)) := by rw [blk_cell HC4.out]; rfl
        go_wp2_with fail
        refine (HRW.out _).mono ?_
        rintro e w5 ⟨rfl, rfl⟩
        go_wp2_with fail
        go_ret
        exact ⟨by rw [E.out]; rfl, HB4.out⟩
  · have d1 : 16 < o := by omega
    have E := Lib.hid (HN0.out (HUB.out ho))
    clear HRF HNM HRU HUB HB1 HC1 ho
    go_wp2_with fail
    go_ret
    exact ⟨by rw [E.out]; rfl, HB2.out⟩
end Go.Proofs.YtkmcjjoicpgjfaaDoor
