/-
  shallot: CodeKeepsCardSaid is proved: for every input the law returns true, and the argument reads afterwards as it read before; the listed tables are tied to the program's text. Conditions: none but the statement's own.
-/
import Derived.Test.YtkmcjjoicpgjfaaDoorCodeLine
import Derived.Test.YtkmcjjoicpgjfaaDoorShelf
import Derived.Test.YtkmcjjoicpgjfaaDoorCodeEnc
import Derived.Test.YtkmcjjoicpgjfaaDoorVerOwn
import Derived.Test.YtkmcjjoicpgjfaaDoorLists
import Derived.Test.YtkmcjjoicpgjfaaDoorCopy
import Derived.Test.YtkmcjjoicpgjfaaDoorRowsOf
import Derived.StillTailTactics
import Derived.Test.YtkmcjjoicpgjfaaDoorDec
import Derived.Test.YtkmcjjoicpgjfaaDoorEncD
import Derived.Test.YtkmcjjoicpgjfaaDoorVerTwin
import Derived.Test.YtkmcjjoicpgjfaaDoorOpen
import Derived.Test.YtkmcjjoicpgjfaaDoorDirRoute
import Derived.Test.YtkmcjjoicpgjfaaDoorPrg
import Derived.Test.YtkmcjjoicpgjfaaDoorCards
import Derived.Test.YtkmcjjoicpgjfaaDoorTie
import Derived.WalkKit
import Derived.ProofKit
import Derived.OpenShut
import Derived.Deep.DeepHandedRow
import Derived.Lib.LaidTab
import Derived.Stop.LaidErr
import Derived.LaidMore
/-
  Contract of code.Lines: a line for each instruction. Conditions: the sizes that slices can have, numbers that fit, and the table that strconv.Itoa reads.
-/
namespace Go.Proofs.YtkmcjjoicpgjfaaDoor
open Go Go.RowKit Go.Sh

set_option maxRecDepth 100000 in
theorem TSs : STy Tryd.prog 24 9 (.string .empty) 1 16 := ⟨Tryd.underlying24, by kernel_rfl, rfl, by decide⟩
/-- the table of powers of ten reads as it should, whatever is done from B on -/
def TabOK (B : Nat) (w : World) : Prop := Lib.TabBelow Tryd.prog B w "internal/strconv.uint64pow10" .u64 Lib.pow10Tab
theorem TabOK.on {B B' : Nat} {w w' : World} (h : TabOK B w) (hb : Below B' w w') (hB : B ≤ B') : TabOK B w' := Lib.TabBelow.on h (hb.mono hB)
theorem ItoaL_any (n : Int) (h0 : -9223372036854775808 ≤ n) (h1 : n ≤ 9223372036854775807) (w : World) {B : Nat} (ht : TabOK B w) :
    Calls Tryd.prog 28 #[.int .i64 n] w fun e w' => e = .returned (.string ⟨(Lib.itoa n).toArray⟩) ∧ Below w.heap.size w w' := by
  refine (Itoa_any n h0 h1 w ht.here).mono ?_
  rintro e w' ⟨rfl, k, os, rfl⟩
  exact ⟨rfl, Lib.below_grow _ w (Nat.le_refl _) k os⟩
theorem ln_one' {i : Ins} (h : usN i.op.toNat ≠ 0) (h3 : usN i.op.toNat ≠ 3) : (⟨(lnS i).toArray⟩ : ByteArray) = nmV i.op.toNat ++ (⟨#[32]⟩ ++ ⟨(Lib.itoa i.a).toArray⟩) := by
  unfold lnS nmV
  rw [if_neg h, if_neg h3, List.append_nil, show (⟨#[32]⟩ : ByteArray) = ⟨[32].toArray⟩ from rfl, str_cat, str_cat]
  rfl
theorem ln_two' {i : Ins} (h3 : usN i.op.toNat = 3) : (⟨(lnS i).toArray⟩ : ByteArray) = nmV i.op.toNat ++ (⟨#[32]⟩ ++ ⟨(Lib.itoa i.a).toArray⟩) ++ (⟨#[32]⟩ ++ ⟨(Lib.itoa i.b).toArray⟩) := by
  unfold lnS nmV
  rw [if_neg (by omega), if_pos h3, show (⟨#[32]⟩ : ByteArray) = ⟨[32].toArray⟩ from rfl, str_cat, str_cat, str_cat, str_cat]
  simp
set_option maxRecDepth 100000 in
set_option maxHeartbeats 4000000 in
theorem Lines_any (d : Pad) (p : Prg) (w : World) (B : Nat) (hc : RR w B 3 d.A1 d.n1 (p.code.map Ins.cells)) (hB : B ≤ w.heap.size) (hok : ∀ i ∈ p.code, i.OK) (hn : d.n1 * 16 ≤ 140737488355328) (ht : TabOK w.heap.size w) :
    Calls Tryd.prog 8 #[.agg (pcs d p)] w (fun e w' => ∃ A c, e = .returned (.slice A d.n1 c) ∧ w'.ownsRow w.heap.size 9 1 (.slice A d.n1 c) d.n1 (p.code.map lnV) ∧ Below w.heap.size w w') := by
  have hb1 := (Below.refl w.heap.size w).alloc (Nat.le_refl _) (.cells (pcs d p) 30)
  have HB1 := Lib.hid hb1
  have HT1 := Lib.hid (ht.on hb1 (Nat.le_refl _))
  have HC1 := Lib.hid (hc.below (hb1.mono hB))
  have hc0 : (w.alloc (.cells (pcs d p) 30)).cell? ⟨w.heap.size, 0, none⟩ = some (.slice d.A1 d.n1 d.c1) := by rw [blk_cell (heap_alloc_new w _)]; rfl
  have hps : (pcs d p).size = 8 := rfl
  have hz1 : (w.alloc (.cells (pcs d p) 30)).heap.size = w.heap.size + 1 := by simp
  have HOK := Lib.hid hok
  have HL1 := Lib.hid (show p.code.length = d.n1 by have := hc.len; rw [List.length_map] at this; exact this)
  clear hc hb1 hok ht
  obtain ⟨X, hX⟩ : ∃ X, pcs d p = X := ⟨_, rfl⟩
  rw [hX] at HB1 HT1 HC1 hc0 hps hz1 ⊢
  have hxe : ¬ X = #[] := by intro h; rw [h] at hps; cases hps
  clear hX
  generalize d.n1 = n at *
  generalize d.A1 = A0 at *
  generalize d.c1 = cc at *
  go_enter Tryd.func8, Tryd.ntmps8
  go_wp2_with fail
  clear hc0
  generalize w.alloc (.cells X 30) = w1 at *
  generalize hg : w.heap.size = g at *
  have HG := Lib.hid hg
  clear hg
  go_loopw [3, 5, 6, 7, 8, 12] (fun ls _ _ _ _ i wr => ∃ (k : Nat) (A : Option Addr) (c : Nat), k ≤ n ∧ i = .int .i64 (k : Int) ∧ ls = .slice A k c ∧ wr.ownsRow (g + 1) 9 1 (.slice A k c) k ((p.code.map lnV).take k) ∧ Below (g + 1) w1 wr) (fun _ _ _ _ _ i _ => n - (intOf i).toNat)
  case atStart => exact ⟨0, none, 0, by omega, rfl, rfl, World.ownsRow_nil _ _ _ _, Below.refl _ _⟩
  case round =>
    obtain ⟨k, A, c, hk, rfl, rfl, ho, hb⟩ := hrel
    have HO := Lib.hid ho
    have HBr := Lib.hid hb
    have hz := hb.size
    clear ho hb
    by_cases hlt : k < n
    · have dk : (k : Int) < (n : Int) := by omega
      obtain ⟨b, off, hA1, hbB, c0, c1, c2⟩ := ins_at (HC1.out.below (HBr.out.mono (by omega))) hlt
      rw [hA1]
      have HMEM := Lib.hid (HOK.out _ (iat_mem (l := p.code) (k := k) (by have := HL1.out; omega)))
      have HTK := Lib.hid (show (p.code.map lnV).take (k + 1) = (p.code.map lnV).take k ++ [lnV (iat p.code k)] by
        rw [List.take_add_one, List.getElem?_map, iat_eq (by have := HL1.out; omega)]; rfl)
      generalize iat p.code k = st at *
      have HTA := Lib.hid (fun W h => ItoaL_any st.a HMEM.out.a.1 HMEM.out.a.2 W (B := g) h)
      have HTB := Lib.hid (fun W h => ItoaL_any st.b HMEM.out.b.1 HMEM.out.b.2 W (B := g) h)
      have la : (⟨(Lib.itoa st.a).toArray⟩ : ByteArray).size ≤ 21 := Lib.itoa_length_le st.a HMEM.out.a.1 HMEM.out.a.2
      have lb : (⟨(Lib.itoa st.b).toArray⟩ : ByteArray).size ≤ 21 := Lib.itoa_length_le st.b HMEM.out.b.1 HMEM.out.b.2
      have HN0 := Lib.hid (fun h => ln_none (i := st) h)
      have HN1 := Lib.hid (fun h h3 => ln_one' (i := st) h h3)
      have HN2 := Lib.hid (fun h3 => ln_two' (i := st) h3)
      have HLV := Lib.hid (show lnV st = .string ⟨(lnS st).toArray⟩ from rfl)
      clear HMEM
      generalize (⟨(Lib.itoa st.a).toArray⟩ : ByteArray) = sa at *
      generalize (⟨(Lib.itoa st.b).toArray⟩ : ByteArray) = sb at *
      generalize (⟨(lnS st).toArray⟩ : ByteArray) = LN at *
      generalize lnV st = lv at *
      obtain ⟨op, a, bb⟩ := st
      simp only at c0 c1 c2 HTA HTB HN0 HN1 HN2
      have hln := nmV_size op.toNat
      have HTI := Lib.hid (fun W => title_any op.toNat W)
      have HUS := Lib.hid (fun W => uses_any op.toNat W)
      generalize nmV op.toNat = nm at *
      generalize usN op.toNat = u at *
      generalize usB op.toNat = ub at *
      generalize op.toNat = o at *
      have hba := (Below.refl wr.heap.size wr).alloc (Nat.le_refl _) (.cells #[.int .u8 (o : Int), .int .i64 a, .int .i64 bb] 33)
      have HBA := Lib.hid (HBr.out.trans (hba.mono (by omega)))
      have HOA := Lib.hid (own_later HO.out hba)
      have HCA := Lib.hid (heap_alloc_new wr (.cells #[.int .u8 (o : Int), .int .i64 a, .int .i64 bb] 33))
      have hzA : (wr.alloc (.cells #[.int .u8 (o : Int), .int .i64 a, .int .i64 bb] 33)).heap.size = wr.heap.size + 1 := by simp
      clear hba HO HBr
      go_wp2_with fail
      generalize wr.alloc (.cells #[.int .u8 (o : Int), .int .i64 a, .int .i64 bb] 33) = wa at *
      clear c0 c1 c2
      obtain ⟨ga, hga⟩ : ∃ ga, wr.heap.size = ga := ⟨_, rfl⟩
      rw [hga] at HCA hzA hz ⊢
      have HTA1 := Lib.hid (HT1.out.on HBA.out (Nat.le_succ _))
      refine (HTI.out _).mono ?_
      rintro e wb ⟨rfl, rfl⟩
      have j0 : wa.cell? ⟨ga, 0, none⟩ = some (.int .u8 (o : Int)) := by rw [blk_cell HCA.out]; rfl
      have j1 : wa.cell? ⟨ga, 1, none⟩ = some (.int .i64 a) := by rw [blk_cell HCA.out]; rfl
      go_wp2_with fail
      refine (HUS.out _).mono ?_
      rintro e wb ⟨rfl, rfl⟩
      clear HTI HUS
      rcases (show u = 0 ∨ u = 3 ∨ (u ≠ 0 ∧ u ≠ 3) by omega) with hu | hu | hu
      · have E := Lib.hid (HN0.out hu)
        subst hu
        rw [← E.out]
        have hge_u0 : g + 1 ≤ wa.heap.size := by omega
        clear hzA
        go_wp2_with (at_builtin; (refine wl_app TSs rfl (.tmp 41) (.tmp 43) rfl _ rfl (some ⟨wa.heap.size, 0, none⟩) 1 1 rfl (g + 1) k _ (HOA.out.alloc _) (wa.heap.size + 1) _ (Reads.lit wa _ [.string LN] 1 1 rfl _ rfl) ?hone_u0 ?hb1_u0 ?hb2_u0 ?hb3_u0 ?hgo_u0))
        case hone_u0 => simp [Value.oneCell']
        case hb1_u0 => omega
        case hb2_u0 => omega
        case hb3_u0 => simp; omega
        case hgo_u0 =>
          intro A3 c3 w3 hown3 hg3 _
          have HB3 := Lib.hid ((HBA.out.alloc (by omega) _).grown hg3 (by simp; omega) (own_drop HOA.out))
          have HO3 := Lib.hid (show w3.ownsRow (g + 1) 9 1 (.slice A3 (k + 1) c3) (k + 1) ((p.code.map lnV).take (k + 1)) by rw [HTK.out, HLV.out]; exact hown3)
          clear hown3 hg3
          go_wp2_with fail
          exact ⟨⟨k + 1, A3, c3, by omega, by go_num, rfl, HO3.out, HB3.out⟩, by simp [intOf]; omega⟩
      · have E := Lib.hid (HN2.out hu)
        have u0 : ((u : Int) != 0) = true := by rw [bne_iff_ne]; omega
        have u3 : ((u : Int) == 3) = true := by rw [beq_iff_eq]; omega
        clear hu
        go_wp2_with fail
        refine (HTA.out _ HTA1.out).mono ?_
        rintro e w5 ⟨rfl, hb5⟩
        have hs5 := hb5.size
        have HB5 := Lib.hid (HBA.out.trans (hb5.mono (by omega)))
        have HO5 := Lib.hid (own_later HOA.out hb5)
        have HC5 := Lib.hid ((hb5.block ga (by omega)).trans HCA.out)
        have HTB5 := Lib.hid (HT1.out.on HB5.out (Nat.le_succ _))
        clear hb5
        have k05 : w5.cell? ⟨ga, 0, none⟩ = some (.int .u8 (o : Int)) := by rw [blk_cell HC5.out]; rfl
        have k25 : w5.cell? ⟨ga, 2, none⟩ = some (.int .i64 bb) := by rw [blk_cell HC5.out]; rfl
        go_wp2_with fail
        refine (HTB.out _ HTB5.out).mono ?_
        rintro e w6 ⟨rfl, hb6⟩
        have hs6 := hb6.size
        have HB6 := Lib.hid (HB5.out.trans (hb6.mono (by omega)))
        have HO6 := Lib.hid (own_later HO5.out hb6)
        have HC6 := Lib.hid ((hb6.block ga (by omega)).trans HC5.out)
        have HTB6 := Lib.hid (HT1.out.on HB6.out (Nat.le_succ _))
        clear hb6
        have k06 : w6.cell? ⟨ga, 0, none⟩ = some (.int .u8 (o : Int)) := by rw [blk_cell HC6.out]; rfl
        have k26 : w6.cell? ⟨ga, 2, none⟩ = some (.int .i64 bb) := by rw [blk_cell HC6.out]; rfl
        rw [E.out] at HLV
        have hge_u3 : g + 1 ≤ w6.heap.size := by omega
        skip
        go_wp2_with (at_builtin; (refine wl_app TSs rfl (.tmp 41) (.tmp 43) rfl _ rfl (some ⟨w6.heap.size, 0, none⟩) 1 1 rfl (g + 1) k _ (HO6.out.alloc _) (w6.heap.size + 1) _ (Reads.lit w6 _ [.string _] 1 1 rfl _ rfl) ?hone_u3 ?hb1_u3 ?hb2_u3 ?hb3_u3 ?hgo_u3))
        case hone_u3 => simp [Value.oneCell']
        case hb1_u3 => omega
        case hb2_u3 => omega
        case hb3_u3 => simp; omega
        case hgo_u3 =>
          intro A3 c3 w3 hown3 hg3 _
          have HB3 := Lib.hid ((HB6.out.alloc (by omega) _).grown hg3 (by simp; omega) (own_drop HO6.out))
          have HO3 := Lib.hid (show w3.ownsRow (g + 1) 9 1 (.slice A3 (k + 1) c3) (k + 1) ((p.code.map lnV).take (k + 1)) by rw [HTK.out, HLV.out]; exact hown3)
          clear hown3 hg3
          go_wp2_with fail
          exact ⟨⟨k + 1, A3, c3, by omega, by go_num, rfl, HO3.out, HB3.out⟩, by simp [intOf]; omega⟩
      · have E := Lib.hid (HN1.out hu.1 hu.2)
        have u0 : ((u : Int) != 0) = true := by rw [bne_iff_ne]; omega
        have u3 : ((u : Int) == 3) = false := by rw [beq_eq_false_iff_ne]; omega
        clear hu
        go_wp2_with fail
        refine (HTA.out _ HTA1.out).mono ?_
        rintro e w5 ⟨rfl, hb5⟩
        have hs5 := hb5.size
        have HB5 := Lib.hid (HBA.out.trans (hb5.mono (by omega)))
        have HO5 := Lib.hid (own_later HOA.out hb5)
        have HC5 := Lib.hid ((hb5.block ga (by omega)).trans HCA.out)
        have HTB5 := Lib.hid (HT1.out.on HB5.out (Nat.le_succ _))
        clear hb5
        have k05 : w5.cell? ⟨ga, 0, none⟩ = some (.int .u8 (o : Int)) := by rw [blk_cell HC5.out]; rfl
        have k25 : w5.cell? ⟨ga, 2, none⟩ = some (.int .i64 bb) := by rw [blk_cell HC5.out]; rfl
        rw [E.out] at HLV
        have hge_u1 : g + 1 ≤ w5.heap.size := by omega
        skip
        go_wp2_with (at_builtin; (refine wl_app TSs rfl (.tmp 41) (.tmp 43) rfl _ rfl (some ⟨w5.heap.size, 0, none⟩) 1 1 rfl (g + 1) k _ (HO5.out.alloc _) (w5.heap.size + 1) _ (Reads.lit w5 _ [.string _] 1 1 rfl _ rfl) ?hone_u1 ?hb1_u1 ?hb2_u1 ?hb3_u1 ?hgo_u1))
        case hone_u1 => simp [Value.oneCell']
        case hb1_u1 => omega
        case hb2_u1 => omega
        case hb3_u1 => simp; omega
        case hgo_u1 =>
          intro A3 c3 w3 hown3 hg3 _
          have HB3 := Lib.hid ((HB5.out.alloc (by omega) _).grown hg3 (by simp; omega) (own_drop HO5.out))
          have HO3 := Lib.hid (show w3.ownsRow (g + 1) 9 1 (.slice A3 (k + 1) c3) (k + 1) ((p.code.map lnV).take (k + 1)) by rw [HTK.out, HLV.out]; exact hown3)
          clear hown3 hg3
          go_wp2_with fail
          exact ⟨⟨k + 1, A3, c3, by omega, by go_num, rfl, HO3.out, HB3.out⟩, by simp [intOf]; omega⟩
    · obtain rfl : k = n := by omega
      have HO2 := Lib.hid (show wr.ownsRow g 9 1 (.slice A k c) k (p.code.map lnV) by
        have h := own_base HO.out (Nat.le_succ g)
        rw [List.take_of_length_le (by rw [List.length_map]; have := HL1.out; omega)] at h
        exact h)
      have HBF := Lib.hid (HB1.out.trans (HBr.out.mono (Nat.le_succ _)))
      clear HO HBr
      go_wp2_with fail
      go_ret
      exact ⟨A, c, rfl, by rw [HG.out]; exact HO2.out, by rw [HG.out]; exact HBF.out⟩
end Go.Proofs.YtkmcjjoicpgjfaaDoor
/-
  Contract of shallotlaw18.awake: true. Conditions: the table that strconv.Itoa reads.
-/
namespace Go.Proofs.YtkmcjjoicpgjfaaDoor
open Go Go.RowKit Go.Sh

theorem TabOK.more {B B' : Nat} {w : World} (h : TabOK B w) (hB : B ≤ B') : TabOK B' w := fun w' hb => h w' (hb.mono hB)
theorem own_at18 {w : World} {base e size n c : Nat} {A : Option Addr} {xs : List Value} (h : w.ownsRow base e size (.slice A n c) n xs) (hn : 0 < n) : ∃ g, A = some ⟨g, 0, none⟩ ∧ base ≤ g ∧ g < w.heap.size := by
  rcases h.2 with ⟨_, h0⟩ | ⟨g, cap, cur, hv, hb, hh, _⟩
  · omega
  · injection hv with hv
    exact ⟨g, hv, hb, (Array.getElem?_eq_some_iff.1 hh).1⟩
/-- the fixed program of one push -/
def p18 : Prg := ⟨[⟨1, -1, 0⟩], [], [], [], 0, 1, 0, 0⟩
theorem p18_ck : ckP p18 = 0 := by unfold ckP; decide
def b18 : List UInt8 := [115, 104, 108, 49, 0, 1, 0, 0, 0, 0, 0, 0, 0, 0, 0, 1, 0, 0, 0, 0, 0, 0, 1, 255, 255, 255, 255, 0, 0]
theorem p18_enc : encP p18 = b18 := by decide +kernel
theorem p18_line : p18.code.map lnV = [.string ⟨#[112, 117, 115, 104, 32, 45, 49]⟩] := by
  show [lnV ⟨1, -1, 0⟩] = _
  unfold lnV lnS
  have h1 : Lib.itoa (-1) = [45, 49] := by
    unfold Lib.itoa
    rw [if_pos (by decide), show Int.natAbs (-1) = 1 from rfl, Lib.decDigits_one (by decide)]
    rfl
  simp only
  rw [h1]
  rfl
/-- where it lies -/
def d18 (g : Nat) : Pad := ⟨some ⟨g, 0, none⟩, 1, 1, none, 0, 0, none, 0, 0, none, 0, 0⟩
theorem p18_at {W : World} {g B : Nat} {ty : TypeId} {fr : Nat × Nat} (h : W.heap[g]? = some (.cells #[.int .u8 1, .int .i64 (-1), .int .i64 0] ty fr)) (hB : g < B) : PR W B (d18 g) p18 := by
  have hz : RR W B 3 none 0 ([] : List (List Value)) := ⟨rfl, (fun _ h => by cases h), .inl rfl⟩
  have hc : ∀ k v, (#[.int .u8 1, .int .i64 (-1), .int .i64 0] : Array Value)[k]? = some v → W.cell? ⟨g, k, none⟩ = some v := fun k v hv => by rw [blk_cell h]; exact hv
  refine ⟨⟨rfl, fun cs hcs => ?_, .inr ⟨g, 0, rfl, hB, fun i cs hi j v hv => ?_⟩⟩, ⟨rfl, [], ⟨rfl, .inl rfl⟩, fun i hi => absurd hi (Nat.not_lt_zero _)⟩, ⟨rfl, [], ⟨rfl, .inl rfl⟩, fun i hi => absurd hi (Nat.not_lt_zero _)⟩, ⟨rfl, [], hz, fun i hi => absurd hi (Nat.not_lt_zero _)⟩, Nat.le_refl _, Nat.le_refl _, Nat.le_refl _, Nat.le_refl _, show 1 ≤ 140737488355328 by decide, Nat.zero_le _, Nat.zero_le _, Nat.zero_le _⟩
  · obtain ⟨x, _, rfl⟩ := List.mem_map.1 hcs
    rfl
  · refine hc _ _ ?_
    match i, j with
    | 0, 0 | 0, 1 | 0, 2 => obtain rfl := Option.some.inj hi; exact hv
    | 0, j + 3 => obtain rfl := Option.some.inj hi; simp [Ins.cells] at hv
    | i + 1, _ => simp [p18] at hi
set_option maxHeartbeats 4000000 in
set_option maxRecDepth 100000 in
theorem awake18_any (w : World) (ht : TabOK w.heap.size w) : Calls Tryd.prog 7 #[] w (fun e w' => e = .returned (.bool true) ∧ Below w.heap.size w w') := by
  have HE := Lib.hid (fun W g (h : W.heap[g]? = some (.cells #[.int .u8 1, .int .i64 (-1), .int .i64 0] 33 (0, 0))) (hg : g < W.heap.size) => Encode_any (d18 g) p18 W W.heap.size (p18_at h hg) (Nat.le_refl _))
  have HLN := Lib.hid (fun W g (h : W.heap[g]? = some (.cells #[.int .u8 1, .int .i64 (-1), .int .i64 0] 33 (0, 0))) (hg : g < W.heap.size) (ht : TabOK W.heap.size W) => Lines_any (d18 g) p18 W W.heap.size (p18_at h hg).code (Nat.le_refl _) (fun i hi => by
    obtain rfl : i = ⟨1, -1, 0⟩ := by simpa [p18] using hi
    exact ⟨⟨by decide, by decide⟩, by decide, by decide⟩) (show 1 * 16 ≤ 140737488355328 by decide) ht)
  rw [p18_ck, p18_enc] at HE
  rw [p18_line] at HLN
  obtain ⟨hz2, hc2, hd2, hb2⟩ := two_new w (.cells #[.int .u8 1, .int .i64 (-1), .int .i64 0] 33) (.cells #[.slice (some ⟨w.heap.size, 0, none⟩) 1 1, .slice none 0 0, .slice none 0 0, .slice none 0 0, .int .i64 0, .int .i64 1, .int .i64 0, .int .i64 0] 30)
  go_enter Tryd.func7, Tryd.ntmps7
  go_wp2_with fail
  generalize (w.alloc (.cells #[.int .u8 1, .int .i64 (-1), .int .i64 0] 33)).alloc (.cells #[.slice (some ⟨w.heap.size, 0, none⟩) 1 1, .slice none 0 0, .slice none 0 0, .slice none 0 0, .int .i64 0, .int .i64 1, .int .i64 0, .int .i64 0] 30) = w2 at *
  have HB2 := Lib.hid hb2
  have HC2 := Lib.hid hc2
  have HD2 := Lib.hid hd2
  have HT0 := Lib.hid ht
  clear hb2 hc2 hd2 ht
  refine (HE.out w2 w.heap.size HC2.out (by omega)).mono ?_
  rintro e w3 ⟨hb3, hpost⟩
  rcases hpost with ⟨hne, _⟩ | ⟨_, A, n, c, rfl, hn, ho⟩
  · exact absurd rfl hne
  have HB3 := Lib.hid (HB2.out.trans (hb3.mono (by omega)))
  have HC3 := Lib.hid ((hb3.block w.heap.size (by omega)).trans HC2.out)
  have HD3 := Lib.hid ((hb3.block (w.heap.size + 1) (by omega)).trans HD2.out)
  have HO3 := Lib.hid ho
  have hs3 := hb3.size
  obtain rfl : 29 = n := hn
  clear hb3 ho HE
  have m0 : w3.cell? ⟨w.heap.size + 1, 0, none⟩ = some (.slice (some ⟨w.heap.size, 0, none⟩) 1 1) := by rw [blk_cell HD3.out]; rfl
  have m1 : w3.cell? ⟨w.heap.size + 1, 1, none⟩ = some (.slice none 0 0) := by rw [blk_cell HD3.out]; rfl
  have m2 : w3.cell? ⟨w.heap.size + 1, 2, none⟩ = some (.slice none 0 0) := by rw [blk_cell HD3.out]; rfl
  have m3 : w3.cell? ⟨w.heap.size + 1, 3, none⟩ = some (.slice none 0 0) := by rw [blk_cell HD3.out]; rfl
  have m4 : w3.cell? ⟨w.heap.size + 1, 4, none⟩ = some (.int .i64 0) := by rw [blk_cell HD3.out]; rfl
  have m5 : w3.cell? ⟨w.heap.size + 1, 5, none⟩ = some (.int .i64 1) := by rw [blk_cell HD3.out]; rfl
  have m6 : w3.cell? ⟨w.heap.size + 1, 6, none⟩ = some (.int .i64 0) := by rw [blk_cell HD3.out]; rfl
  have m7 : w3.cell? ⟨w.heap.size + 1, 7, none⟩ = some (.int .i64 0) := by rw [blk_cell HD3.out]; rfl
  go_wp2_with fail
  refine (HLN.out w3 w.heap.size HC3.out (by omega) ((HT0.out.on HB3.out (Nat.le_refl _)).more (by omega))).mono ?_
  rintro e w4 ⟨A4, c4, rfl, ho4, hb4⟩
  have HB4 := Lib.hid (HB3.out.trans (hb4.mono (by omega)))
  obtain ⟨g3, rfl, _, _⟩ := own_at18 HO3.out (by decide)
  obtain ⟨g4, rfl, _, _⟩ := own_at18 ho4 (show 0 < 1 by decide)
  have HO4 := Lib.hid (own_later HO3.out hb4)
  have x0 := HO4.out.cellAt 0 (by decide)
  have x5 := HO4.out.cellAt 5 (by decide)
  have x22 := HO4.out.cellAt 22 (by decide)
  have x26 := HO4.out.cellAt 26 (by decide)
  have y0 := ho4.cellAt 0 (show 0 < 1 * 1 by decide)
  clear m0 m1 m2 m3 m4 m5 m6 m7 hb4 ho4 HO3 HO4 HLN
  rw [show (d18 w.heap.size).n1 = 1 from rfl]
  simp only [b18, bv, List.map_cons, List.getElem?_cons_succ, List.getElem?_cons_zero] at x0 x5 x22 x26 y0
  go_wp2_with fail
  go_ret
  exact ⟨rfl, HB4.out⟩
end Go.Proofs.YtkmcjjoicpgjfaaDoor
/-
  Contracts of shallotref18.SameInts, SameStops, SameSpec at equal rows: true. Conditions: the sizes that slices can have.
-/
namespace Go.Proofs.YtkmcjjoicpgjfaaDoor
open Go Go.RowKit Go.Sh

/-- true is handed back; only draws -/
def OnlyTrue (w : World) (e : Ending) (w' : World) : Prop := e = .returned (.bool true) ∧ ∃ d, w' = w.drewN d
set_option maxHeartbeats 2000000 in
set_option maxRecDepth 100000 in
theorem SameInts_eq (A A' : Option Addr) (n c c' : Nat) (l : List Int) (w : World) (B B' : Nat) (hl : RI w B A n l) (hr : RI w B' A' n l) (hn : n ≤ 140737488355328) :
    Calls Tryd.prog 61 #[.slice A n c, .slice A' n c'] w (OnlyTrue w) := by
  have HL := Lib.hid hl
  have HR := Lib.hid hr
  clear hl hr
  have dnn : ((n : Int) != (n : Int)) = false := by simp
  go_enter Tryd.func61, Tryd.ntmps61
  go_wp2_with fail
  go_loopw [5] (fun i wr => ∃ k d : Nat, k ≤ n ∧ i = .int .i64 (k : Int) ∧ wr = w.drewN d) (fun i _ => n - (intOf i).toNat)
  case atStart => exact ⟨0, 0, by omega, rfl, rfl⟩
  case round =>
    obtain ⟨k, d, hk, rfl, rfl⟩ := hrel
    by_cases hlt : k < n
    · obtain ⟨ad, rfl, _, he, _⟩ := HL.out.at_ hlt
      obtain ⟨ad', rfl, _, he', _⟩ := HR.out.at_ hlt
      have hki : (k : Int) < (n : Int) := by omega
      generalize it l k = x at *
      have hxx : (x != x) = false := by simp
      go_wp2_with fail
      go_quiet (fail)
      go_wp2_with fail
      exact ⟨⟨k + 1, d + nq, by omega, by go_num, by first | rfl | simp⟩, by simp [intOf]; omega⟩
    · go_wp2_with fail
      go_ret
      exact ⟨rfl, d, rfl⟩
set_option maxHeartbeats 2000000 in
set_option maxRecDepth 100000 in
theorem SameStops_eq (A A' : Option Addr) (n c c' : Nat) (l : List Sp) (w : World) (B B' : Nat) (hl : RR w B 3 A n (l.map Sp.cells)) (hr : RR w B' 3 A' n (l.map Sp.cells)) (hn : n ≤ 140737488355328) :
    Calls Tryd.prog 36 #[.slice A n c, .slice A' n c'] w (OnlyTrue w) := by
  have HL := Lib.hid hl
  have HR := Lib.hid hr
  clear hl hr
  have dnn : ((n : Int) != (n : Int)) = false := by simp
  go_enter Tryd.func36, Tryd.ntmps36
  go_wp2_with fail
  go_loopw [5] (fun i wr => ∃ k d : Nat, k ≤ n ∧ i = .int .i64 (k : Int) ∧ wr = w.drewN d) (fun i _ => n - (intOf i).toNat)
  case atStart => exact ⟨0, 0, by omega, rfl, rfl⟩
  case round =>
    obtain ⟨k, d, hk, rfl, rfl⟩ := hrel
    by_cases hlt : k < n
    · obtain ⟨b, o, rfl, _, e0, e1, e2⟩ := stop_at HL.out hlt
      obtain ⟨b', o', rfl, _, f0, f1, f2⟩ := stop_at HR.out hlt
      have hki : (k : Int) < (n : Int) := by omega
      generalize sat l k = st at *
      obtain ⟨nm, dl, fl⟩ := st
      simp only at e0 e1 e2 f0 f1 f2
      go_wp2_with fail
      go_quiet (fail)
      go_wp2_with fail
      exact ⟨⟨k + 1, d + nq, by omega, by go_num, by first | rfl | simp⟩, by simp [intOf]; omega⟩
    · go_wp2_with fail
      go_ret
      exact ⟨rfl, d, rfl⟩
set_option maxHeartbeats 2000000 in
set_option maxRecDepth 100000 in
theorem SameSpec_eq (m b : Int) (A A' : Option Addr) (n c c' : Nat) (l : List Int) (w : World) (B B' : Nat) (hl : RI w B A n l) (hr : RI w B' A' n l) (hB : B ≤ w.heap.size) (hB' : B' ≤ w.heap.size) (hn : n ≤ 140737488355328) :
    Calls Tryd.prog 38 #[.agg #[.int .i64 m, .slice A n c, .int .i64 b], .agg #[.int .i64 m, .slice A' n c', .int .i64 b]] w (fun e w' => e = .returned (.bool true) ∧ Below w.heap.size w w') := by
  have HS := Lib.hid (fun W (h : RI W B A n l) (h' : RI W B' A' n l) => SameInts_eq A A' n c c' l W B B' h h' hn)
  have e1 : (m == m) = true := by simp
  have e2 : (b == b) = true := by simp
  obtain ⟨hz2, hc2, hd2, hb2⟩ := two_new w (.cells #[.int .i64 m, .slice A n c, .int .i64 b] 43) (.cells #[.int .i64 m, .slice A' n c', .int .i64 b] 43)
  have hz1 : (w.alloc (.cells #[.int .i64 m, .slice A n c, .int .i64 b] 43)).heap.size = w.heap.size + 1 := by simp
  have HB := Lib.hid hb2
  have HL := Lib.hid (hl.below (hb2.mono hB))
  have HR := Lib.hid (hr.below (hb2.mono hB'))
  clear hl hr hb2 hc2 hd2
  go_enter Tryd.func38, Tryd.ntmps38
  go_wp2_with fail
  refine (HS.out _ HL.out HR.out).mono ?_
  rintro e w1 ⟨rfl, dd, rfl⟩
  have HB2 := Lib.hid (below_drewN HB.out dd)
  go_wp2_with fail
  go_ret
  exact ⟨rfl, HB2.out⟩
end Go.Proofs.YtkmcjjoicpgjfaaDoor
/-
  Contract of shallotref18.Same at equal programs: true. Conditions: a program in memory twice.
-/
namespace Go.Proofs.YtkmcjjoicpgjfaaDoor
open Go Go.RowKit Go.Sh

theorem EqPost.quiet0 {P : Program} {f : FuncId} {args : Array Value} {w : World} {n : Nat} {b : Bool} (h : Calls P f args (w.drewN n) (EqPost (w.drewN n) b)) :
    Calls P f args (w.drewN n) fun e w'' => e = .returned (.bool b) ∧ ∃ m, w'' = w.drewN m := by
  refine h.mono fun e w'' hh => ?_
  obtain ⟨h1, k, rfl⟩ := hh
  exact ⟨h1, n + k, by rw [World.drewN_drewN]⟩
set_option maxHeartbeats 8000000 in
set_option maxRecDepth 100000 in
theorem Same_eq (d d' : Pad) (p : Prg) (w : World) (B B' : Nat) (hp : PR w B d p) (hp' : PR w B' d' p) (hB : B ≤ w.heap.size) (hB' : B' ≤ w.heap.size) (hs : ∀ l ∈ p.msgs, l.length ≤ 140737488355328) (hr : ∀ r ∈ p.rts, r.length ≤ 140737488355328) (hq : ∀ s ∈ p.snds, s.rts.length ≤ 140737488355328) :
    Calls Tryd.prog 13 #[.agg (pcs d p), .agg (pcs d' p)] w (fun e w' => e = .returned (.bool true) ∧ Below w.heap.size w w') := by
  have hn1 : d'.n1 = d.n1 := by have a := hp.code.len; have b := hp'.code.len; rw [List.length_map] at a b; omega
  have hn2 : d'.n2 = d.n2 := by have a := hp.msgs.len; have b := hp'.msgs.len; omega
  have hn3 : d'.n3 = d.n3 := by have a := hp.rts.len; have b := hp'.rts.len; omega
  have hn4 : d'.n4 = d.n4 := by have a := hp.snds.len; have b := hp'.snds.len; omega
  obtain ⟨A1, n1, c1, A2, n2, c2, A3, n3, c3, A4, n4, c4⟩ := d
  obtain ⟨A1', n1', c1', A2', n2', c2', A3', n3', c3', A4', n4', c4'⟩ := d'
  simp only at hn1 hn2 hn3 hn4
  subst hn1 hn2 hn3 hn4
  have b1 := hp.b1
  have b2 := hp.b2
  have b3 := hp.b3
  have b4 := hp.b4
  simp only at b1 b2 b3 b4
  simp only [pcs]
  have HL3 := Lib.hid hp.rts.len
  have HL4 := Lib.hid hp.snds.len
  obtain ⟨hz2, hc2, hd2, hb2⟩ := two_new w (.cells #[.slice A1 n1' c1, .slice A2 n2' c2, .slice A3 n3' c3, .slice A4 n4' c4, .int .i64 p.vars, .int .i64 p.stack, .int .i64 p.blocks, .int .i64 p.fuel] 30) (.cells #[.slice A1' n1' c1', .slice A2' n2' c2', .slice A3' n3' c3', .slice A4' n4' c4', .int .i64 p.vars, .int .i64 p.stack, .int .i64 p.blocks, .int .i64 p.fuel] 30)
  have hz1 : (w.alloc (.cells #[.slice A1 n1' c1, .slice A2 n2' c2, .slice A3 n3' c3, .slice A4 n4' c4, .int .i64 p.vars, .int .i64 p.stack, .int .i64 p.blocks, .int .i64 p.fuel] 30)).heap.size = w.heap.size + 1 := by simp
  have HB := Lib.hid hb2
  have HC := Lib.hid hc2
  have HD := Lib.hid hd2
  have HP := Lib.hid (hp.below (hb2.mono hB))
  have HP' := Lib.hid (hp'.below (hb2.mono hB'))
  have HEQ := Lib.hid (fun W (h : RBB W B A2 n2' p.msgs) (h' : RBB W B' A2' n2' p.msgs) => Equals_any A2 A2' n2' n2' c2 c2' p.msgs p.msgs W B B' h h' b2 hs)
  have d1 : ((n1' : Int) != (n1' : Int)) = false := by simp
  have d3 : ((n3' : Int) != (n3' : Int)) = false := by simp
  have d4 : ((n4' : Int) != (n4' : Int)) = false := by simp
  have q4 : (p.vars == p.vars) = true := by simp
  have q5 : (p.stack == p.stack) = true := by simp
  have q6 : (p.blocks == p.blocks) = true := by simp
  have q7 : (p.fuel == p.fuel) = true := by simp
  clear hp hp' hb2 hc2 hd2
  go_enter Tryd.func13, Tryd.ntmps13
  go_wp2_with fail
  generalize (w.alloc (.cells #[.slice A1 n1' c1, .slice A2 n2' c2, .slice A3 n3' c3, .slice A4 n4' c4, .int .i64 p.vars, .int .i64 p.stack, .int .i64 p.blocks, .int .i64 p.fuel] 30)).alloc (.cells #[.slice A1' n1' c1', .slice A2' n2' c2', .slice A3' n3' c3', .slice A4' n4' c4', .int .i64 p.vars, .int .i64 p.stack, .int .i64 p.blocks, .int .i64 p.fuel] 30) = w2 at *
  refine (HEQ.out w2 HP.out.msgs HP'.out.msgs).mono ?_
  rintro e w3 ⟨rfl, q3, rfl⟩
  rw [show decide True = true from rfl]
  have HC1 := HC.out
  have HD1 := HD.out
  have HB3 := Lib.hid (below_drewN (Below.refl (w.heap.size + 2) w2) q3)
  go_wp2_with fail
  go_loopw [5] (fun i wr => ∃ k : Nat, k ≤ n1' ∧ i = .int .i64 (k : Int) ∧ Below (w.heap.size + 2) w2 wr) (fun i _ => n1' - (intOf i).toNat)
  case atStart => exact ⟨0, by omega, rfl, HB3.out⟩
  case round =>
    obtain ⟨k, hk, rfl, hb⟩ := hrel
    have HBr := Lib.hid hb
    have x0 : wr.cell? ⟨w.heap.size, 0, none⟩ = some (.slice A1 n1' c1) := by rw [hb.cell (p := ⟨w.heap.size, 0, none⟩) (by show w.heap.size < _; omega), blk_cell HC1]; rfl
    have y0 : wr.cell? ⟨w.heap.size + 1, 0, none⟩ = some (.slice A1' n1' c1') := by rw [hb.cell (p := ⟨w.heap.size + 1, 0, none⟩) (by show w.heap.size + 1 < _; omega), blk_cell HD1]; rfl
    by_cases hlt : k < n1'
    · obtain ⟨b, o, rfl, _, e0, e1, e2⟩ := ins_at (HP.out.code.below (hb.mono (by omega))) hlt
      obtain ⟨b', o', rfl, _, f0, f1, f2⟩ := ins_at (HP'.out.code.below (hb.mono (by omega))) hlt
      have hki : (k : Int) < (n1' : Int) := by omega
      generalize iat p.code k = st at *
      obtain ⟨op, a, bb⟩ := st
      simp only at e0 e1 e2 f0 f1 f2
      clear hb
      go_wp2_with fail
      go_quiet (fail)
      have HBq := Lib.hid (below_drewN HBr.out nq)
      go_wp2_with fail
      exact ⟨⟨k + 1, by omega, by go_num, HBq.out⟩, by simp [intOf]; omega⟩
    · obtain rfl : k = n1' := by omega
      have HBr := Lib.hid hb
      clear hb
      go_wp2_with fail
      go_loopw [6] (fun i wr => ∃ j : Nat, j ≤ n3' ∧ i = .int .i64 (j : Int) ∧ Below (w.heap.size + 2) w2 wr) (fun i _ => n3' - (intOf i).toNat)
      case atStart => exact ⟨0, by omega, rfl, HBr.out⟩
      case round =>
        obtain ⟨k, hk, rfl, hb⟩ := hrel
        have HBr := Lib.hid hb
        have x0 : wr.cell? ⟨w.heap.size, 2, none⟩ = some (.slice A3 n3' c3) := by rw [hb.cell (p := ⟨w.heap.size, 2, none⟩) (by show w.heap.size < _; omega), blk_cell HC1]; rfl
        have y0 : wr.cell? ⟨w.heap.size + 1, 2, none⟩ = some (.slice A3' n3' c3') := by rw [hb.cell (p := ⟨w.heap.size + 1, 2, none⟩) (by show w.heap.size + 1 < _; omega), blk_cell HD1]; rfl
        by_cases hlt : k < n3'
        · obtain ⟨ad, Ai, ni, ci, rfl, _, e0, _, hrr⟩ := (HP.out.rts.below (hb.mono (by omega))).at_ hlt
          obtain ⟨ad', Aj, nj, cj, rfl, _, f0, _, hrr'⟩ := (HP'.out.rts.below (hb.mono (by omega))).at_ hlt
          have hki : (k : Int) < (n3' : Int) := by omega
          have hni : ni ≤ 140737488355328 := by
            have := hrr.len
            rw [List.length_map] at this
            rw [← this]
            exact hr _ (rat_mem (by rw [HL3.out]; exact hlt))
          obtain rfl : nj = ni := by have a := hrr.len; have b := hrr'.len; omega
          have HRR := Lib.hid hrr
          have HRR' := Lib.hid hrr'
          clear hb hrr hrr'
          generalize rat p.rts k = ss at *
          go_wp2_with fail
          go_quiet ((go_at_call 36; exact EqPost.quiet0 (SameStops_eq Ai Aj nj ci cj ss _ B B' (HRR.out.below (below_drewN (Below.refl B wr) _)) (HRR'.out.below (below_drewN (Below.refl B' wr) _)) hni)))
          have HBq := Lib.hid (below_drewN HBr.out nq)
          go_wp2_with fail
          exact ⟨⟨k + 1, by omega, by go_num, HBq.out⟩, by simp [intOf]; omega⟩
        · obtain rfl : k = n3' := by omega
          clear hb
          go_wp2_with fail
          go_loopw [7] (fun i wr => ∃ j : Nat, j ≤ n4' ∧ i = .int .i64 (j : Int) ∧ Below (w.heap.size + 2) w2 wr) (fun i _ => n4' - (intOf i).toNat)
          case atStart => exact ⟨0, by omega, rfl, HBr.out⟩
          case round =>
            obtain ⟨k, hk, rfl, hb⟩ := hrel
            have HBr := Lib.hid hb
            have hsz := hb.size
            have x0 : wr.cell? ⟨w.heap.size, 3, none⟩ = some (.slice A4 n4' c4) := by rw [hb.cell (p := ⟨w.heap.size, 3, none⟩) (by show w.heap.size < _; omega), blk_cell HC1]; rfl
            have y0 : wr.cell? ⟨w.heap.size + 1, 3, none⟩ = some (.slice A4' n4' c4') := by rw [hb.cell (p := ⟨w.heap.size + 1, 3, none⟩) (by show w.heap.size + 1 < _; omega), blk_cell HD1]; rfl
            by_cases hlt : k < n4'
            · obtain ⟨b, o, Ai, ni, ci, rfl, hbb, e0, e1, e2, _, hrr⟩ := (HP.out.snds.below (hb.mono (by omega))).at_ hlt
              obtain ⟨b', o', Aj, nj, cj, rfl, hbb', f0, f1, f2, _, hrr'⟩ := (HP'.out.snds.below (hb.mono (by omega))).at_ hlt
              have hki : (k : Int) < (n4' : Int) := by omega
              obtain rfl : nj = ni := by have a := hrr.len; have b := hrr'.len; omega
              have hni : nj ≤ 140737488355328 := by
                have := hrr.len
                rw [← this]
                exact hq _ (dat_mem (by rw [HL4.out]; exact hlt))
              generalize dat p.snds k = sd at *
              obtain ⟨m, rts, bb⟩ := sd
              simp only at e0 e1 e2 f0 f1 f2 hrr hrr'
              have HSP := Lib.hid (SameSpec_eq m bb Ai Aj nj ci cj rts wr.drew B B' (hrr.below (below_drewN (Below.refl B wr) 1)) (hrr'.below (below_drewN (Below.refl B' wr) 1)) (by show B ≤ wr.heap.size; omega) (by show B' ≤ wr.heap.size; omega) hni)
              have HK := Lib.hid (show ∀ W' : World, Below wr.heap.size wr.drew W' → W'.cell? ⟨w.heap.size, 3, none⟩ = some (.slice (some ⟨b, o, none⟩) n4' c4) ∧ W'.cell? ⟨w.heap.size + 1, 3, none⟩ = some (.slice (some ⟨b', o', none⟩) n4' c4') ∧ W'.cell? ⟨b, o + k * 3, none⟩ = some (.int .i64 m) ∧ W'.cell? ⟨b, o + k * 3 + 1, none⟩ = some (.slice Ai nj ci) ∧ W'.cell? ⟨b, o + k * 3 + 2, none⟩ = some (.int .i64 bb) ∧ W'.cell? ⟨b', o' + k * 3, none⟩ = some (.int .i64 m) ∧ W'.cell? ⟨b', o' + k * 3 + 1, none⟩ = some (.slice Aj nj cj) ∧ W'.cell? ⟨b', o' + k * 3 + 2, none⟩ = some (.int .i64 bb) from fun W' h => ⟨(h.cell (p := ⟨w.heap.size, 3, none⟩) (by show w.heap.size < _; omega)).trans x0, (h.cell (p := ⟨w.heap.size + 1, 3, none⟩) (by show w.heap.size + 1 < _; omega)).trans y0, (h.cell (p := ⟨b, o + k * 3, none⟩) (by show b < _; omega)).trans e0, (h.cell (p := ⟨b, o + k * 3 + 1, none⟩) (by show b < _; omega)).trans e1, (h.cell (p := ⟨b, o + k * 3 + 2, none⟩) (by show b < _; omega)).trans e2, (h.cell (p := ⟨b', o' + k * 3, none⟩) (by show b' < _; omega)).trans f0, (h.cell (p := ⟨b', o' + k * 3 + 1, none⟩) (by show b' < _; omega)).trans f1, (h.cell (p := ⟨b', o' + k * 3 + 2, none⟩) (by show b' < _; omega)).trans f2⟩)
              clear hb hrr hrr'
              go_wp2_with fail
              go_region_held3 (fun W' => W'.cell? ⟨w.heap.size, 3, none⟩ = some (.slice (some ⟨b, o, none⟩) n4' c4) ∧ W'.cell? ⟨w.heap.size + 1, 3, none⟩ = some (.slice (some ⟨b', o', none⟩) n4' c4') ∧ W'.cell? ⟨b, o + k * 3, none⟩ = some (.int .i64 m) ∧ W'.cell? ⟨b, o + k * 3 + 1, none⟩ = some (.slice Ai nj ci) ∧ W'.cell? ⟨b, o + k * 3 + 2, none⟩ = some (.int .i64 bb) ∧ W'.cell? ⟨b', o' + k * 3, none⟩ = some (.int .i64 m) ∧ W'.cell? ⟨b', o' + k * 3 + 1, none⟩ = some (.slice Aj nj cj) ∧ W'.cell? ⟨b', o' + k * 3 + 2, none⟩ = some (.int .i64 bb)) (go_keep) ((go_at_call 38; refine HSP.out.mono ?_; rintro e w5 ⟨rfl, hb5⟩; obtain ⟨t0, t1, t2, t3, t4, t5, t6, t7⟩ := HK.out w5 hb5))
              have HB6 := Lib.hid (HBr.out.trans ((below_drewN (Below.refl (w.heap.size + 2) wr) 1).trans (Below.mono hb5 (show w.heap.size + 2 ≤ wr.heap.size by omega))))
              clear t0 t1 t2 t3 t4 t5 t6 t7 hb5
              go_wp2_with fail
              exact ⟨⟨k + 1, by omega, by go_num, HB6.out⟩, by simp [intOf]; omega⟩
            · obtain rfl : k = n4' := by omega
              have x4 : wr.cell? ⟨w.heap.size, 4, none⟩ = some (.int .i64 p.vars) := by rw [hb.cell (p := ⟨w.heap.size, 4, none⟩) (by show w.heap.size < _; omega), blk_cell HC1]; rfl
              have x5 : wr.cell? ⟨w.heap.size, 5, none⟩ = some (.int .i64 p.stack) := by rw [hb.cell (p := ⟨w.heap.size, 5, none⟩) (by show w.heap.size < _; omega), blk_cell HC1]; rfl
              have x6 : wr.cell? ⟨w.heap.size, 6, none⟩ = some (.int .i64 p.blocks) := by rw [hb.cell (p := ⟨w.heap.size, 6, none⟩) (by show w.heap.size < _; omega), blk_cell HC1]; rfl
              have x7 : wr.cell? ⟨w.heap.size, 7, none⟩ = some (.int .i64 p.fuel) := by rw [hb.cell (p := ⟨w.heap.size, 7, none⟩) (by show w.heap.size < _; omega), blk_cell HC1]; rfl
              have y4 : wr.cell? ⟨w.heap.size + 1, 4, none⟩ = some (.int .i64 p.vars) := by rw [hb.cell (p := ⟨w.heap.size + 1, 4, none⟩) (by show w.heap.size + 1 < _; omega), blk_cell HD1]; rfl
              have y5 : wr.cell? ⟨w.heap.size + 1, 5, none⟩ = some (.int .i64 p.stack) := by rw [hb.cell (p := ⟨w.heap.size + 1, 5, none⟩) (by show w.heap.size + 1 < _; omega), blk_cell HD1]; rfl
              have y6 : wr.cell? ⟨w.heap.size + 1, 6, none⟩ = some (.int .i64 p.blocks) := by rw [hb.cell (p := ⟨w.heap.size + 1, 6, none⟩) (by show w.heap.size + 1 < _; omega), blk_cell HD1]; rfl
              have y7 : wr.cell? ⟨w.heap.size + 1, 7, none⟩ = some (.int .i64 p.fuel) := by rw [hb.cell (p := ⟨w.heap.size + 1, 7, none⟩) (by show w.heap.size + 1 < _; omega), blk_cell HD1]; rfl
              clear hb
              go_wp2_with fail
              go_ret
              exact ⟨rfl, HB.out.trans (HBr.out.mono (by omega))⟩
end Go.Proofs.YtkmcjjoicpgjfaaDoor
/-
  Contracts of shallotref01.mark, shallotref01.Spare and shallotref01.Kept: marked bytes; a copy with marked spare room behind it; whether it is as it was. Conditions: the sizes that slices can have.
-/
namespace Go.Proofs.YtkmcjjoicpgjfaaDoor
open Go Go.RowKit Go.Sh

/-- what list i holds at place j -/
def mk (i j : Nat) : UInt8 := UInt8.ofNat (17 * i + 3 * j + 1)
theorem mk_nat (i j : Nat) : ((mk i j).toNat : Int) = (17 * (i : Int) + 3 * (j : Int) + 1) % 256 := by
  simp [mk]
set_option maxRecDepth 100000 in
theorem mark_any (i j : Nat) (w : World) (hi : i ≤ 1125899906842624) (hj : j ≤ 1125899906842624) :
    Calls Tryd.prog 52 #[.int .i64 (i : Int), .int .i64 (j : Int)] w (fun e w' => e = .returned (.int .u8 ((mk i j).toNat : Int)) ∧ w = w') := by
  have HE := Lib.hid (mk_nat i j)
  go_enter Tryd.func52, Tryd.ntmps52
  go_wp2
  go_ret
  refine ⟨?_, rfl⟩
  rw [HE.out]
  rfl

/-- the marked spare room behind n bytes -/
def spvK (n k : Nat) : UInt8 := UInt8.ofNat (160 + (n + k) % 31)
theorem spv_nat (n k : Nat) : ((spvK n k).toNat : Int) = 160 + ((n : Int) + (k : Int)) % 31 := by
  have : (160 + (n + k) % 31) % 256 = 160 + (n + k) % 31 := by omega
  simp [spvK]
  omega
def spareTo (n k : Nat) : List UInt8 := (List.range k).map (spvK n)
theorem length_spareTo (n k : Nat) : (spareTo n k).length = k := by simp [spareTo]
theorem spareTo_succ (n k : Nat) : spareTo n (k + 1) = spareTo n k ++ [spvK n k] := by simp [spareTo, List.range_succ]
/-- what Spare makes of l -/
def spared (l : List UInt8) : List UInt8 := l ++ spareTo l.length 40
theorem length_spared (l : List UInt8) : (spared l).length = l.length + 40 := by simp [spared, length_spareTo]
theorem fill_succ (l : List UInt8) (k : Nat) (hk : k < 40) : (l ++ (spareTo l.length k ++ zs (40 - k))).set (l.length + k) (spvK l.length k) = l ++ (spareTo l.length (k + 1) ++ zs (40 - (k + 1))) := by
  have hz : zs (40 - k) = 0 :: zs (40 - (k + 1)) := by
    rw [show 40 - k = (40 - (k + 1)) + 1 by omega]
    rfl
  rw [List.set_append_right _ _ (by omega), Nat.add_sub_cancel_left, List.set_append_right _ _ (by rw [length_spareTo]; exact Nat.le_refl _), length_spareTo, Nat.sub_self, hz, List.set_cons_zero, spareTo_succ, List.append_assoc]
  rfl
theorem bv_put' (l : List UInt8) (i : Nat) (x : UInt8) : (bv l).set i (.int .u8 (x.toNat : Int)) = bv (l.set i x) := by simp [bv, List.map_set]

def SparePost (w : World) (n : Nat) (l : List UInt8) (e : Ending) (w' : World) : Prop :=
  ∃ g, e = .returned (.tuple #[.slice (some ⟨g, 0, none⟩) n (n + 40), .slice (some ⟨g, 0, none⟩) (n + 40) (n + 40)]) ∧ w'.ownsRow w.heap.size 5 1 (.slice (some ⟨g, 0, none⟩) (n + 40) (n + 40)) (n + 40) (bv (spared l)) ∧ Below w.heap.size w w'

set_option maxRecDepth 100000 in
theorem Spare_any (A : Option Addr) (n c : Nat) (l : List UInt8) (w : World) (B : Nat) (hr : RB w B A n l) (hB : B ≤ w.heap.size) (hn : n ≤ 140737488355328) :
    Calls Tryd.prog 20 #[.slice A n c] w (SparePost w n l) := by
  have HL := Lib.hid hr.len
  have HR := Lib.hid hr
  clear hr
  go_enter Tryd.func20, Tryd.ntmps20
  go_wp2_with (at_make; refine wl_makeB TB rfl (.tmp 8) (.tmp 8) rfl .i64 .i64 _ _ rfl rfl (n + 40) ?m1 ?m2 ?m3 w.heap.size (Nat.le_refl _) ?m5)
  case m1 => omega
  case m2 => omega
  case m3 => omega
  case m5 =>
    intro w1 hown hg hlt
    have HO := Lib.hid hown
    have HB := Lib.hid (show Below w.heap.size w w1 from (Below.refl _ _).grown hg (Nat.le_refl _) (by simp))
    clear hown hg
    go_wp2_with (with_reducible refine wl_copy TB rfl (.tmp 10) (.tmp 11) rfl _ (n + 40) (n + 40) rfl A n c rfl w.heap.size _ HO.out B (bv l) ?c1 (bv_one l) ?c2)
    case c1 => exact HR.out.below (HB.out.mono hB)
    case c2 =>
      intro w2 hown2 hg2
      have e3 : (bv l).take (n + 40) ++ (bv (zs (n + 40))).drop n = bv (l ++ (spareTo l.length 0 ++ zs (40 - 0))) := by
        rw [List.take_of_length_le (by rw [length_bv, HL.out]; omega), bv_append]
        simp [bv, zs, spareTo]
      rw [e3] at hown2
      have HO2 := Lib.hid hown2
      have HB2 := Lib.hid (HB.out.grown hg2 HB.out.size (by simp [Value.ownBlock]))
      clear hown2 hg2 HO HB e3
      go_wp2
      go_loopw [5] (fun i wr => ∃ k : Nat, k ≤ 40 ∧ i = .int .i64 ((n : Int) + (k : Int)) ∧ wr.ownsRow w.heap.size 5 1 (.slice (some ⟨w.heap.size, 0, none⟩) (n + 40) (n + 40)) (n + 40) (bv (l ++ (spareTo l.length k ++ zs (40 - k)))) ∧ Below w.heap.size w wr) (fun i _ => n + 40 - (intOf i).toNat)
      case atStart => exact ⟨0, by omega, by simp, HO2.out, HB2.out⟩
      case round =>
        obtain ⟨k, hk, rfl, hown, hb⟩ := hrel
        have HO := Lib.hid hown
        have HBr := Lib.hid hb
        clear hown hb HO2 HB2
        by_cases hlt : k < 40
        · have hcx := HO.out.cellAt (n + k) (by omega)
          have hcc : ∃ u, (bv (l ++ (spareTo l.length k ++ zs (40 - k))))[n + k]? = some u := ⟨_, List.getElem?_eq_getElem (by rw [length_bv]; simp [length_spareTo, length_zs, HL.out]; omega)⟩
          obtain ⟨u, hu⟩ := hcc
          rw [hu] at hcx
          have hf := HO.out.frozenAt (n + k)
          have HE := Lib.hid (spv_nat n k)
          have i0 : (0 : Int) ≤ (n : Int) + (k : Int) := by omega
          have i1 : (n : Int) + (k : Int) < (n : Int) + 40 := by omega
          have e2 : ((n : Int) + (k : Int)).toNat = n + k := by omega
          clear hu
          go_wp2
          refine ⟨⟨k + 1, by omega, ?_, ?_, HBr.out.setCell (Nat.le_refl _) _⟩, ?_⟩
          · congr 1
          · have h := (HO.out.stored (n + k) (.int .u8 ((spvK n k).toNat : Int))).1
            have hfs := fill_succ l k hlt
            rw [HL.out] at hfs
            rw [bv_put', HL.out, hfs, HE.out] at h
            rw [HL.out]
            exact h
          · simp [intOf]
            omega
        · obtain rfl : k = 40 := by omega
          have hfin := HO.out
          rw [show l ++ (spareTo l.length 40 ++ zs (40 - 40)) = spared l by simp [spared, zs]] at hfin
          have HF := Lib.hid hfin
          clear hfin HO
          have hrun : ∀ W, (Instr.slice 39 (.slice (some ⟨w.heap.size, 0, none⟩) (n + 40) (n + 40)) none (some (.int .i64 (n : Int))) none).run Tryd.prog W = .ok (.slice (some ⟨w.heap.size, 0, none⟩) n (n + 40)) W := fun W => run_sl_hi TB W _ _ _ .i64 n (by omega)
          go_wp2
          go_ret2
          exact ⟨_, rfl, HF.out, HBr.out⟩

set_option maxRecDepth 100000 in
/-- bytes as Spare made them are told to be kept -/
theorem Kept_any (A A' : Option Addr) (n c c' : Nat) (l : List UInt8) (w : World) (B B' : Nat) (hf : RB w B A (n + 40) (spared l)) (hr : RB w B' A' n l) (hn : n ≤ 140737488355328) :
    Calls Tryd.prog 21 #[.slice A (n + 40) c, .slice A' n c'] w (EqPost w true) := by
  have HL := Lib.hid hr.len
  have HR := Lib.hid hr
  have HF := Lib.hid hf
  have hq : (((n : Int) + 40) != ((n : Int) + 40)) = false := by simp
  have hq' : (((n + 40 : Nat) : Int) != ((n : Int) + 40)) = false := by simp
  clear hr hf
  go_enter Tryd.func21, Tryd.ntmps21
  go_wp2
  go_loopw [5] (fun i wr => ∃ k nd : Nat, k ≤ n + 40 ∧ i = .int .i64 k ∧ wr = w.drewN nd) (fun i _ => n + 40 - (intOf i).toNat)
  case atStart => exact ⟨0, 0, by omega, rfl, rfl⟩
  case round =>
    obtain ⟨k, nd, hk, rfl, rfl⟩ := hrel
    by_cases hlt : k < n + 40
    · obtain ⟨ad, rfl, _, hcx⟩ := HF.out.at_ hlt
      by_cases hkn : k < n
      · obtain ⟨ad', rfl, _, hcy⟩ := HR.out.at_ hkn
        have hbe : bt (spared l) k = bt l k := by
          unfold bt spared
          simp [List.getElem?_append_left (show k < l.length by rw [HL.out]; exact hkn)]
        rw [hbe] at hcx
        have b1 := bt_lo l k
        have b2 := bt_hi l k
        have d1 : decide (k < n) = true := by simpa using hkn
        have d2 : (bt l k != bt l k) = false := by simp
        have d3 : decide (n ≤ k) = false := by simpa using hkn
        clear hbe
        generalize bt l k = x at *
        go_wp2
        go_quiet (fail)
        go_wp2
        exact ⟨⟨k + 1, nd + nq, by omega, by go_num, rfl⟩, by simp [intOf]; omega⟩
      · have hbe : bt (spared l) k = 160 + (k : Int) % 31 := by
          unfold bt spared
          have hk2 : k = l.length + (k - l.length) := by rw [HL.out]; omega
          have := spv_nat l.length (k - l.length)
          simp only [List.getD_eq_getElem?_getD]
          rw [List.getElem?_append_right (by rw [HL.out]; omega)]
          simp only [spareTo, List.getElem?_map]
          rw [List.getElem?_range (by rw [HL.out]; omega)]
          simp only [Option.map_some, Option.getD_some]
          rw [this]
          rw [HL.out]
          congr 2
          omega
        rw [hbe] at hcx
        have i0 : (0 : Int) ≤ (k : Int) := by omega
        have i1 : (k : Int) < ((n + 40 : Nat) : Int) := by omega
        have d1 : decide (k < n) = false := by simpa using hkn
        have d2 : ((160 + (k : Int) % 31) != (160 + (k : Int) % 31)) = false := by simp
        have d3 : decide (n ≤ k) = true := by simp; omega
        have w1 : IntKind.i64.wrap (160 + (k : Int) % 31) = 160 + (k : Int) % 31 := by rw [IntKind.wrap_i64]; omega
        have w2 : IntKind.u8.wrap (160 + (k : Int) % 31) = 160 + (k : Int) % 31 := by rw [IntKind.wrap_u8]; omega
        have w3 : (k : Int).tmod 31 = (k : Int) % 31 := Int.tmod_eq_emod_of_nonneg (by omega)
        clear hbe
        go_wp2
        go_quiet (fail)
        go_wp2
        exact ⟨⟨k + 1, nd + nq, by omega, by go_num, rfl⟩, by simp [intOf]; omega⟩
    · go_wp2
      go_ret
      exact ⟨rfl, nd, rfl⟩
end Go.Proofs.YtkmcjjoicpgjfaaDoor
/-
  Contracts of shallotref01.Over: each byte is turned; the row may go on behind. Conditions: the sizes that slices can have.
-/
namespace Go.Proofs.YtkmcjjoicpgjfaaDoor
open Go Go.RowKit Go.Sh

/-- every byte turned by 0x5A -/
def ovr (l : List UInt8) : List UInt8 := l.map fun x => x ^^^ 90
def ovrK (l : List UInt8) (k : Nat) : List UInt8 := (l.take k).map (fun x => x ^^^ 90) ++ l.drop k
theorem length_ovr (l : List UInt8) : (ovr l).length = l.length := by simp [ovr]
theorem length_ovrK (l : List UInt8) (k : Nat) : (ovrK l k).length = l.length := by simp [ovrK]; omega
theorem bt_ovrK {l r : List UInt8} {k : Nat} (h : k < l.length) : bt (ovrK l k ++ r) k = bt l k := by
  unfold bt ovrK
  simp only [List.getD_eq_getElem?_getD]
  rw [List.getElem?_append_left (by simp; omega), List.getElem?_append_right (by simp; omega)]
  simp
  rw [show k - min k l.length = 0 by omega]
  simp
theorem ovrK_succ {l r : List UInt8} {k : Nat} (h : k < l.length) : ovrK l (k + 1) ++ r = (ovrK l k ++ r).set k (l.getD k 0 ^^^ 90) := by
  rw [List.set_append_left _ _ (by rw [length_ovrK]; exact h)]
  congr 1
  unfold ovrK
  have hl : ((l.take k).map (fun x => x ^^^ 90)).length = k := by simp; omega
  rw [List.set_append_right _ _ (by omega), hl, Nat.sub_self, List.drop_eq_getElem_cons (show k < l.length from h), List.set_cons_zero, List.take_succ_eq_append_getElem h, List.map_append, List.append_assoc]
  simp [h]

set_option maxRecDepth 100000 in
theorem OverAt_any (g n m c c' base : Nat) (l r : List UInt8) (w : World) (h : w.ownsRow base 5 1 (.slice (some ⟨g, 0, none⟩) (n + m) c') (n + m) (bv (l ++ r))) (hl : l.length = n) (hn : n + m ≤ 140737488355328) :
    Calls Tryd.prog 22 #[.slice (some ⟨g, 0, none⟩) n c] w (fun e w' => e = .returned (.tuple #[]) ∧ w'.ownsRow base 5 1 (.slice (some ⟨g, 0, none⟩) (n + m) c') (n + m) (bv (ovr l ++ r)) ∧ w.grownBy w' (some g)) := by
  have HL := Lib.hid hl
  have H0 := Lib.hid h
  clear h hl
  go_enter Tryd.func22, Tryd.ntmps22
  go_wp2
  go_loopw [2] (fun i wr => ∃ k : Nat, k ≤ n ∧ i = .int .i64 k ∧ wr.ownsRow base 5 1 (.slice (some ⟨g, 0, none⟩) (n + m) c') (n + m) (bv (ovrK l k ++ r)) ∧ w.grownBy wr (some g)) (fun i _ => n - (intOf i).toNat)
  case atStart => exact ⟨0, by omega, rfl, by simpa [ovrK] using H0.out, World.grownBy.refl _ _⟩
  case round =>
    obtain ⟨k, hk, rfl, hown, hg⟩ := hrel
    have HO := Lib.hid hown
    have HG := Lib.hid hg
    clear hown hg
    by_cases hlt : k < n
    · have hc := HO.out.cellAt k (by omega)
      rw [bv_at _ _ (by rw [List.length_append, length_ovrK, HL.out]; omega), bt_ovrK (by rw [HL.out]; exact hlt)] at hc
      have hf := HO.out.frozenAt k
      go_wp2
      refine ⟨⟨k + 1, by omega, by go_num, ?_, HG.out.trans (HO.out.stored k _).2⟩, by simp [intOf]; omega⟩
      have h := (HO.out.stored k (.int .u8 ((l.getD k 0 ^^^ 90).toNat : Int))).1
      rw [bv_put', ← ovrK_succ (by rw [HL.out]; exact hlt)] at h
      unfold bt
      have e : bits BinOp.xor IntKind.u8 ((l.getD k 0).toNat : Int) 90 = ((l.getD k 0 ^^^ 90).toNat : Int) := bits_u8_xor (l.getD k 0) 90
      rw [e]
      exact h
    · obtain rfl : k = n := by omega
      have hfin := HO.out
      rw [show ovrK l k = ovr l by simp [ovrK, ovr, List.take_of_length_le (Nat.le_of_eq HL.out), List.drop_eq_nil_of_le (Nat.le_of_eq HL.out)]] at hfin
      have HF := Lib.hid hfin
      clear hfin
      go_wp2
      go_end0
      exact ⟨rfl, HF.out, HG.out⟩

set_option maxRecDepth 100000 in
/-- a row of the call's own, nil or not -/
theorem OverOwn_any (A : Option Addr) (n c base : Nat) (l : List UInt8) (w : World) (h : w.ownsRow base 5 1 (.slice A n c) n (bv l)) (hn : n ≤ 140737488355328) :
    Calls Tryd.prog 22 #[.slice A n c] w (fun e w' => e = .returned (.tuple #[]) ∧ w'.ownsRow base 5 1 (.slice A n c) n (bv (ovr l)) ∧ w.grownBy w' (Value.slice A n c).ownBlock) := by
  have hl : l.length = n := by have := h.1; rw [length_bv] at this; omega
  rcases h.2 with ⟨hv, h0⟩ | ⟨g, cap, cur, hv, _⟩
  · simp only [Value.slice.injEq] at hv
    obtain ⟨rfl, rfl, rfl⟩ := hv
    obtain rfl : l = [] := List.eq_nil_of_length_eq_zero (by omega)
    have HO := Lib.hid h
    clear h h0 hl
    go_enter Tryd.func22, Tryd.ntmps22
    go_wp2
    go_loopw [2] (fun i wr => i = .int .i64 0 ∧ wr = w) (fun _ _ => 0)
    case atStart => exact ⟨rfl, rfl⟩
    case round =>
      obtain ⟨rfl, rfl⟩ := hrel
      go_wp2
      go_end0
      exact ⟨rfl, HO.out, World.grownBy.refl _ _⟩
  · injection hv with hA _ hc
    subst hA
    have h' := OverAt_any g n 0 c c base l [] w (by simpa using h) hl (by omega)
    simp only [List.append_nil, Nat.add_zero] at h'
    exact h'.mono fun e w' hh => hh
end Go.Proofs.YtkmcjjoicpgjfaaDoor
/-
  A sharper law of append onto a row of the call's own (in place: only the cells behind are written; else: what was there stays as it was), and families of rows that hold marks: rows in one block belong to one number. Over any program; no statement of the seat is proved here.
-/
namespace Go.Sh
open Go Go.RowKit

section
variable {P : Program} {t e : TypeId} {z : Value} {size bytes : Nat}
set_option maxRecDepth 100000 in
/-- append: in place, or into a new block -/
theorem run_app2 (T : STy P t e z size bytes) (w : World) (ty : TypeId) (base : Nat)
    (v : Value) (n : Nat) (xs : List Value) (hown : w.ownsRow base e size v n xs)
    (B : Nat) (A : Option Addr) (m c : Nat) (news : List Value) (hr : Reads w B size A m news) (h1 : ∀ u ∈ news, u.oneCell' = true) (hm : 0 < m)
    (hbytes : (n + m) * bytes ≤ 140737488355328) (h63 : n + m ≤ 9223372036854775807) (hbase : base ≤ w.heap.size) :
    ∃ A' c' w', (Builtin.append_ #[t, t] ty #[v, .slice A m c]).run P w = .ok (.slice A' (n + m) c') w' ∧ w'.ownsRow base e size (.slice A' (n + m) c') (n + m) (xs ++ news) ∧
      ((Below w.heap.size w w' ∧ (Value.slice A' (n + m) c').ownBlock = some w.heap.size) ∨
       ∃ g cur, v = .slice (some ⟨g, 0, none⟩) n c' ∧ A' = some ⟨g, 0, none⟩ ∧ w.heap[g]? = some (.cells cur e (0, 0)) ∧ w.grownBy w' (some g) ∧
         w'.heap[g]? = some (.cells (cur.toList.take (n * size) ++ news ++ cur.toList.drop (n * size + news.length)).toArray e (0, 0))) := by
  obtain ⟨i, hi, hz, hsize, hby⟩ := info_parts T.info
  subst hsize
  subst hby
  have hsz := T.pos
  have hnl : 0 < news.length := by rw [hr.1]; exact Nat.mul_pos hm hsz
  obtain ⟨a, rfl, _, hlie⟩ := hr.some_ hnl
  have hl := hr.1
  have hnews : ∀ j u, news[j]? = some u → w.cell? (a.add j) = some u := fun j u hu => hlie.get hu
  have h63' : n + m ≤ maxLen := by simp only [maxLen]; omega
  have hlen : (xs ++ news).length = (n + m) * i.size := by rw [List.length_append, hown.1, hl, Nat.add_mul]
  have grown : ∀ (old : Nat), old < n + m →
      (w.drew.alloc (.cells (xs.toArray ++ news.toArray ++ Builtin.zeroCells z.cells (grownCap w (n + m) old e - (n + m))) e)).ownsRow base e i.size
        (.slice (some ⟨w.heap.size, 0, none⟩) (n + m) (grownCap w (n + m) old e)) (n + m) (xs ++ news) ∧
      Below w.heap.size w (w.drew.alloc (.cells (xs.toArray ++ news.toArray ++ Builtin.zeroCells z.cells (grownCap w (n + m) old e - (n + m))) e)) := by
    intro old ho
    have hge := grownCap_ge w (n + m) old e
    have hcm : grownCap w (n + m) old e ≤ maxLen := grownCap_le_maxLen w (n + m) old e h63'
    refine ⟨⟨hlen, .inr ⟨w.heap.size, _, _, rfl, hbase, heap_alloc_new w.drew _, hge, hcm, ?_, ?_⟩⟩, (Below.refl w.heap.size w).drew.alloc (Nat.le_refl _) _⟩
    · simp only [Array.size_append, List.size_toArray, size_zeroCells, T.zs, hown.1, hl, ← Nat.add_mul]
      congr 1
      omega
    · simp only [Array.toList_append, List.append_assoc]
      rw [← List.append_assoc, ← hlen]
      exact List.take_left
  rcases hown.2 with ⟨rfl, rfl⟩ | ⟨g, cap, cur, rfl, hbg, hg, hnc, hcm, hcs, htake⟩
  · have hx : xs = [] := List.eq_nil_of_length_eq_zero (by simpa using hown.1)
    subst hx
    have hr := run_append_nil (P := P) w t ty e i z T.und hi hz a m c news hl hnews hm (by omega) (by have hb := hbytes; simp only [Nat.zero_add] at hb; omega)
    have hgr := grown 0 (by omega)
    simp only [Nat.zero_add, List.nil_append, Array.empty_append] at hgr ⊢
    exact ⟨_, _, _, hr, hgr.1, .inl ⟨hgr.2, rfl⟩⟩
  · by_cases hroom : n + m ≤ cap
    · have hfit : n * i.size + news.length ≤ cur.size := by rw [hl, hcs, ← Nat.add_mul]; exact Nat.mul_le_mul_right _ hroom
      have hr := run_append_room (P := P) w t ty e i T.und hi g n cap cur hg a m c news hl hnews h1 hroom hfit
      refine ⟨_, _, _, hr, ⟨hlen, .inr ⟨g, cap, _, rfl, hbg, setRow_heap w g cur _ e _ hg, hroom, hcm, ?_, ?_⟩⟩, .inr ⟨g, cur, rfl, rfl, hg, ⟨rfl, rfl, rfl, by simp, fun k _ hk => setRow_other w g k _ (fun e => hk (by simp [e]))⟩, setRow_heap w g cur _ e _ hg⟩⟩
      · simp only [List.size_toArray, List.length_append, List.length_take, List.length_drop, Array.length_toList]
        omega
      · rw [htake, ← hlen]
        exact List.take_left
    · have holds : ∀ j u, xs[j]? = some u → w.cell? ((⟨g, 0, none⟩ : Addr).add j) = some u := hown.cells (g := g) rfl
      have hr := run_append_grow (P := P) w t ty e i z T.und hi hz ⟨g, 0, none⟩ n cap xs hown.1 holds a m c news hl hnews (by omega) (by omega) (growslice_fits (by omega) hbytes)
      have hgr := grown cap (by omega)
      exact ⟨_, _, _, hr, hgr.1, .inl ⟨hgr.2, rfl⟩⟩
end

/-! ### families -/
/-- the marks of list i at the places a, a + 1, .. (n of them) -/
def marksAt (i a n : Nat) : List UInt8 := (List.range n).map fun k => Go.Proofs.YtkmcjjoicpgjfaaDoor.mk i (a + k)
def marks (i n : Nat) : List UInt8 := marksAt i 0 n
theorem length_marksAt (i a n : Nat) : (marksAt i a n).length = n := by simp [marksAt]
theorem length_marks (i n : Nat) : (marks i n).length = n := length_marksAt i 0 n
theorem marksAt_get (i a n k : Nat) (h : k < n) : (marksAt i a n)[k]? = some (Go.Proofs.YtkmcjjoicpgjfaaDoor.mk i (a + k)) := by simp [marksAt, h]
theorem marks_get (i n k : Nat) (h : k < n) : (marks i n)[k]? = some (Go.Proofs.YtkmcjjoicpgjfaaDoor.mk i k) := by simp [marks, marksAt_get i 0 n k h]
theorem marks_app (i n k : Nat) : marks i n ++ marksAt i n k = marks i (n + k) := by
  simp [marks, marksAt, List.range_add]
theorem marksAt_succ (i a k : Nat) : marksAt i a (k + 1) = marksAt i a k ++ [Go.Proofs.YtkmcjjoicpgjfaaDoor.mk i (a + k)] := by simp [marksAt, List.range_succ]
theorem bt_marks (i n k : Nat) (h : k < n) : bt (marks i n) k = ((Go.Proofs.YtkmcjjoicpgjfaaDoor.mk i k).toNat : Int) := by
  simp [bt, marks_get i n k h]

/-- a family: rows that hold marks, each with its number and its length; rows in one block have one number -/
structure Fam (w : World) (base e : Nat) (S : List (Value × Nat × Nat)) : Prop where
  row : ∀ u i n, (u, i, n) ∈ S → w.ownsRow base e 1 u n (bv (marks i n))
  sep : ∀ u i n v j k g, (u, i, n) ∈ S → (v, j, k) ∈ S → u.ownBlock = some g → v.ownBlock = some g → i = j
section
variable {w w' : World} {base e : Nat} {S : List (Value × Nat × Nat)}
theorem Fam.later (h : Fam w base e S) (hb : Below w.heap.size w w') : Fam w' base e S := ⟨fun u i n hu => own_later (h.row u i n hu) hb, h.sep⟩
theorem Fam.drewN (h : Fam w base e S) (k : Nat) : Fam (w.drewN k) base e S := ⟨fun u i n hu => h.row u i n hu, h.sep⟩
/-- what is written elsewhere -/
theorem Fam.kept (h : Fam w base e S) {row : Option Nat} (hg : w.grownBy w' row) (hr : ∀ u i n, (u, i, n) ∈ S → u.ownBlock = none ∨ u.ownBlock ≠ row) : Fam w' base e S := ⟨fun u i n hu => (h.row u i n hu).kept hg (hr u i n hu), h.sep⟩
theorem Fam.sub {S' : List (Value × Nat × Nat)} (h : Fam w base e S) (hs : ∀ x, x ∈ S' → x ∈ S) : Fam w base e S' := ⟨fun u i n hu => h.row u i n (hs _ hu), fun u i n v j k g hu hv => h.sep u i n v j k g (hs _ hu) (hs _ hv)⟩

theorem take_mark (cur : List Value) (i n m N : Nat) (hn : cur.take n = bv (marks i n)) (hN : cur.take N = bv (marks i N)) :
    (cur.take n ++ bv (marksAt i n m) ++ cur.drop (n + m)).take N = bv (marks i N) := by
  rw [hn, ← bv_append, marks_app]
  apply List.ext_getElem?
  intro j
  by_cases hj : j < N
  · rw [List.getElem?_take, if_pos hj, ← hN, List.getElem?_take, if_pos hj]
    by_cases hj2 : j < n + m
    · rw [List.getElem?_append_left (by rw [length_bv, length_marks]; exact hj2)]
      have h3 : (bv (marks i N))[j]? = cur[j]? := by rw [← hN, List.getElem?_take, if_pos hj]
      rw [← h3]
      simp [bv, marks_get i (n + m) j hj2, marks_get i N j hj]
    · rw [List.getElem?_append_right (by rw [length_bv, length_marks]; omega), length_bv, length_marks, List.getElem?_drop]
      congr 1
      omega
  · rw [List.getElem?_eq_none (by rw [List.length_take]; omega), List.getElem?_eq_none (by rw [length_bv, length_marks]; omega)]

set_option maxRecDepth 100000 in
/-- append of the next marks onto a row of a family -/
theorem Fam.app (h : Fam w base e S) {u : Value} {i n m : Nat} (hu : (u, i, n) ∈ S) {A' : Option Addr} {c' : Nat} (ho : w'.ownsRow base e 1 (.slice A' (n + m) c') (n + m) (bv (marks i n) ++ bv (marksAt i n m)))
    (hh : (Below w.heap.size w w' ∧ (Value.slice A' (n + m) c').ownBlock = some w.heap.size) ∨
       ∃ g cur, u = .slice (some ⟨g, 0, none⟩) n c' ∧ A' = some ⟨g, 0, none⟩ ∧ w.heap[g]? = some (.cells cur e (0, 0)) ∧ w.grownBy w' (some g) ∧
         w'.heap[g]? = some (.cells (cur.toList.take (n * 1) ++ bv (marksAt i n m) ++ cur.toList.drop (n * 1 + (bv (marksAt i n m)).length)).toArray e (0, 0))) :
    Fam w' base e ((.slice A' (n + m) c', i, n + m) :: S) := by
  rw [← bv_append, marks_app] at ho
  rcases hh with ⟨hb, hnew⟩ | ⟨g, cur, rfl, rfl, hg, hgr, hg'⟩
  · refine ⟨?_, ?_⟩
    · intro v j k hv
      rcases List.mem_cons.1 hv with he | hv
      · simp only [Prod.mk.injEq] at he
        obtain ⟨rfl, rfl, rfl⟩ := he
        exact ho
      · exact own_later (h.row v j k hv) hb
    · intro v j k x j' k' g hv hx hvg hxg
      rcases List.mem_cons.1 hv with he | hv1 <;> rcases List.mem_cons.1 hx with he' | hx1
      · simp only [Prod.mk.injEq] at he he'
        rw [he.2.1, he'.2.1]
      · simp only [Prod.mk.injEq] at he
        obtain ⟨rfl, rfl, rfl⟩ := he
        rw [hnew] at hvg
        injection hvg with hvg
        have := ((h.row x j' k' hx1).lt g hxg).2
        omega
      · simp only [Prod.mk.injEq] at he'
        obtain ⟨rfl, rfl, rfl⟩ := he'
        rw [hnew] at hxg
        injection hxg with hxg
        have := ((h.row v j k hv1).lt g hvg).2
        omega
      · exact h.sep v j k x j' k' g hv1 hx1 hvg hxg
  · rw [Nat.mul_one, length_bv, length_marksAt] at hg'
    have hrow := h.row _ _ _ hu
    have hcap : n + m ≤ c' := own_cap ho
    have hcs : cur.size = c' ∧ cur.toList.take n = bv (marks i n) := by
      rcases hrow.2 with ⟨hx, _⟩ | ⟨g1, cap1, cur1, hx, _, hg1, _, _, hs1, ht1⟩
      · cases hx
      · injection hx with hx1 _ hx2
        injection hx1 with hx1
        injection hx1 with hx1
        subst hx1
        subst hx2
        rw [hg] at hg1
        injection hg1 with hg1
        injection hg1 with hg1
        subst hg1
        exact ⟨by omega, by rw [Nat.mul_one] at ht1; exact ht1⟩
    refine ⟨?_, ?_⟩
    · intro v j k hv
      rcases List.mem_cons.1 hv with he | hv
      · simp only [Prod.mk.injEq] at he
        obtain ⟨rfl, rfl, rfl⟩ := he
        exact ho
      · by_cases hvb : v.ownBlock = some g
        · obtain rfl : i = j := h.sep _ i n v j k g hu hv rfl hvb
          have hr2 := h.row v i k hv
          refine ⟨hr2.1, ?_⟩
          rcases hr2.2 with hx | ⟨g1, cap1, cur1, rfl, hb1, hg1, hn1, hm1, hs1, ht1⟩
          · exact .inl hx
          · obtain rfl : g1 = g := by simpa [Value.ownBlock] using hvb
            rw [hg] at hg1
            injection hg1 with hg1
            injection hg1 with hg1
            subst hg1
            rw [Nat.mul_one] at ht1
            refine .inr ⟨g1, cap1, _, rfl, hb1, hg', hn1, hm1, ?_, ?_⟩
            · simp only [List.size_toArray, List.length_append, List.length_take, List.length_drop, length_bv, length_marksAt, Array.length_toList]
              omega
            · rw [Nat.mul_one]
              exact take_mark cur.toList i n m k hcs.2 ht1
        · exact (h.row v j k hv).kept hgr (.inr hvb)
    · have key : ∀ x j' k' g', (x, j', k') ∈ S → x.ownBlock = some g' → some g = some g' → i = j' := fun x j' k' g' hx hxg hgg => h.sep _ i n x j' k' g' hu hx (by simpa [Value.ownBlock] using hgg) hxg
      intro v j k x j' k' g' hv hx hvg hxg
      rcases List.mem_cons.1 hv with he | hv1 <;> rcases List.mem_cons.1 hx with he' | hx1
      · simp only [Prod.mk.injEq] at he he'
        rw [he.2.1, he'.2.1]
      · simp only [Prod.mk.injEq] at he
        obtain ⟨rfl, rfl, rfl⟩ := he
        exact key x j' k' g' hx1 hxg hvg
      · simp only [Prod.mk.injEq] at he'
        obtain ⟨rfl, rfl, rfl⟩ := he'
        exact (key v j k g' hv1 hvg hxg).symm
      · exact h.sep v j k x j' k' g' hv1 hx1 hvg hxg
end

section
variable {P : Program} {t e : TypeId} {z : Value} {bytes : Nat}
/-- append of the next marks, as a step of the walk -/
theorem wl_appF (T : STy P t e z 1 bytes) {w : World} {ops : Array Oper} {rest : List Oper} {o : Oper} {a : Act} {Q : Exit → Act → World → Prop} (hw : Region.wanted o (yielded ops a.tmps) = true) (s x : Operand)
    (ho : o.op = .call { callee := .builtin .append, args := #[s, x], argTypes := #[t, t] })
    (u : Value) (hs : a.eval s = u) (A : Option Addr) (m c : Nat) (hx : a.eval x = .slice A m c)
    (base : Nat) (S : List (Value × Nat × Nat)) (i n : Nat) (hf : Fam w base e S) (hu : (u, i, n) ∈ S)
    (B : Nat) (hr : RB w B A m (marksAt i n m)) (hm : 0 < m)
    (hbytes : (n + m) * bytes ≤ 140737488355328) (h63 : n + m ≤ 9223372036854775807) (hbase : base ≤ w.heap.size)
    (h : ∀ A' c' w', Fam w' base e ((.slice A' (n + m) c', i, n + m) :: S) → w.grownBy w' u.ownBlock → wpList P ops Q rest (a.put o.dst (.slice A' (n + m) c')) w') : wpList P ops Q (o :: rest) a w := by
  obtain ⟨A', c', w', hrun, h2, h3⟩ := run_app2 T w o.type base u n _ (hf.row u i n hu) B A m c _ hr (bv_one _) hm hbytes h63 hbase
  refine wl_step hw fun K hK => ?_
  unfold Oper.wp execOp
  simp only [ho, resolve, invoke, builtin, Sem.run_bind, Sem.run_pure, Result.andThen_ok, List.map_toArray, List.map_cons, List.map_nil, hs, hx, hrun]
  refine hK _ _ (h A' c' w' (hf.app hu h2 h3) ?_)
  rcases h3 with ⟨hb, _⟩ | ⟨g, cur, rfl, rfl, hg, hgr, _⟩
  · exact ⟨hb.os, hb.tape, hb.output, hb.size, fun k hk _ => hb.block k hk⟩
  · exact hgr
end
end Go.Sh
/-
  What holds between the loops of shallotref01.Apart, in plain words: lists marked so far, families of marked rows, the row of grown lists. No statement of the seat is proved here.
-/
namespace Go.Sh
open Go Go.RowKit

/-- a slice value's length -/
def slen : Value → Nat
  | .slice _ n _ => n
  | _ => 0
theorem own_other {w w' : World} {base base' e e' size size' n n' : Nat} {u v : Value} {xs ys : List Value} (h : w.ownsRow base e size u n xs) (h' : w.ownsRow base' e' size' v n' ys) (hne : e ≠ e') (hg : w.grownBy w' v.ownBlock) : w'.ownsRow base e size u n xs :=
  h.kept hg (own_ne h h' hne)

/-- the lists ahead of i are marked, and list i up to q -/
def P1 (w : World) (base e : Nat) (vs : List Value) (i q : Nat) : Prop :=
  ∀ (j : Nat) (u : Value), vs[j]? = some u → ∃ l, w.ownsRow base e 1 u (slen u) (bv l) ∧ (j < i → l = marks j (slen u)) ∧ (j = i → l.take q = marks i q)
section
variable {w w' : World} {base e t i q : Nat} {vs : List Value}
theorem P1.start (h : ∀ (j : Nat) (u : Value), vs[j]? = some u → ∃ l, w.ownsRow base e 1 u (slen u) (bv l)) : P1 w base e vs 0 0 := by
  intro j u hu
  obtain ⟨l, hl⟩ := h j u hu
  exact ⟨l, hl, fun h => absurd h (by omega), fun _ => rfl⟩
theorem P1.drewN (h : P1 w base e vs i q) (k : Nat) : P1 (w.drewN k) base e vs i q := h
theorem P1.next {u : Value} (h : P1 w base e vs i (slen u)) (hu : vs[i]? = some u) : P1 w base e vs (i + 1) 0 := by
  intro j v hv
  obtain ⟨l, hl, h1, h2⟩ := h j v hv
  refine ⟨l, hl, fun hj => ?_, fun _ => rfl⟩
  by_cases hji : j < i
  · exact h1 hji
  · obtain rfl : j = i := by omega
    rw [hu] at hv
    obtain rfl := Option.some.inj hv
    have hlen : l.length = slen u := by have := hl.1; rw [length_bv] at this; omega
    rw [← h2 rfl, List.take_of_length_le (by omega)]
theorem P1.row (h : P1 w base e vs i q) {u : Value} (hu : vs[i]? = some u) : ∃ l, w.ownsRow base e 1 u (slen u) (bv l) ∧ l.take q = marks i q := by
  obtain ⟨l, hl, _, h2⟩ := h i u hu
  exact ⟨l, hl, h2 rfl⟩
theorem P1.put (h : P1 w base e vs i q) (hs : Sep vs) {u : Value} (hu : vs[i]? = some u) {l : List UInt8} (hl : w.ownsRow base e 1 u (slen u) (bv l)) (ht : l.take q = marks i q) (hq : q < slen u)
    (hrow : w'.ownsRow base e 1 u (slen u) (bv (l.set q (Go.Proofs.YtkmcjjoicpgjfaaDoor.mk i q)))) (hg : w.grownBy w' u.ownBlock) : P1 w' base e vs i (q + 1) := by
  intro j v hv
  by_cases hji : j = i
  · subst hji
    rw [hu] at hv
    obtain rfl := Option.some.inj hv
    refine ⟨_, hrow, fun h => absurd h (by omega), fun _ => ?_⟩
    have hlen : l.length = slen u := by have := hl.1; rw [length_bv] at this; omega
    rw [List.take_set, List.take_succ_eq_append_getElem (by omega), ht, ← marks_app j q 1, List.set_append_right _ _ (by rw [length_marks]; exact Nat.le_refl _), length_marks, Nat.sub_self]
    simp [marksAt]
  · obtain ⟨l', hl', h1, h2⟩ := h j v hv
    refine ⟨l', hl'.kept hg ?_, h1, fun hj => absurd hj hji⟩
    rcases Nat.lt_or_ge i j with hlt | hge
    · rcases hs i j _ _ hlt hu hv with hh | hh
      · rw [hh]
        cases v.ownBlock <;> simp
      · exact .inr (fun e => hh e.symm)
    · exact hs j i _ _ (by omega) hv hu
theorem P1.fam (h : P1 w base e vs vs.length 0) (hs : Sep vs) : Fam w base e (vs.zipIdx.map fun x => (x.1, x.2, slen x.1)) := by
  have hm : ∀ u i n, (u, i, n) ∈ (vs.zipIdx.map fun x => (x.1, x.2, slen x.1)) → vs[i]? = some u ∧ n = slen u := by
    intro u i n hx
    obtain ⟨⟨a, b⟩, hab, he⟩ := List.mem_map.1 hx
    simp only [Prod.mk.injEq] at he
    obtain ⟨rfl, rfl, rfl⟩ := he
    exact ⟨List.mem_zipIdx_iff_getElem?.1 hab, rfl⟩
  refine ⟨fun u i n hx => ?_, fun u i n v j k g hx hy hug hvg => ?_⟩
  · obtain ⟨hu, rfl⟩ := hm u i n hx
    obtain ⟨l, hl, h1, _⟩ := h i u hu
    rw [h1 (List.getElem?_eq_some_iff.1 hu).1] at hl
    exact hl
  · obtain ⟨hu, _⟩ := hm u i n hx
    obtain ⟨hv, _⟩ := hm v j k hy
    rcases Nat.lt_trichotomy i j with hlt | heq | hgt
    · rcases hs i j _ _ hlt hu hv with hh | hh
      · rw [hh] at hug; cases hug
      · exact absurd (hug.trans hvg.symm) hh
    · exact heq
    · rcases hs j i _ _ hgt hv hu with hh | hh
      · rw [hh] at hvg; cases hvg
      · exact absurd (hvg.trans hug.symm) hh
end

/-- between the loops that append: the list l holds vs, its rows and those of the grown lists gs (in gv) are a family -/
structure P2 (w : World) (base top e t : Nat) (lv : Value) (m : Nat) (vs : List Value) (gv : Value) (k : Nat) (gs : List Value) (S : List (Value × Nat × Nat)) : Prop where
  fam : Fam w base e S
  mem : ∀ (i : Nat) (u : Value), vs[i]? = some u → (u, i, slen u) ∈ S
  lrow : w.ownsRow base t 1 lv m vs
  llt : ∀ g, lv.ownBlock = some g → g < top
  grow : w.ownsRow top t 1 gv k gs
  gmem : ∀ (q : Nat) (u : Value), gs[q]? = some u → ∃ A n c, u = .slice A n c ∧ (u, q % m, n) ∈ S ∧ n ≤ 140737488355328
section
variable {w w' : World} {base top e t m k : Nat} {lv gv : Value} {vs gs : List Value} {S : List (Value × Nat × Nat)}
theorem P2.later (h : P2 w base top e t lv m vs gv k gs S) (hb : Below w.heap.size w w') : P2 w' base top e t lv m vs gv k gs S :=
  ⟨h.fam.later hb, h.mem, own_later h.lrow hb, h.llt, own_later h.grow hb, h.gmem⟩
theorem P2.drewN (h : P2 w base top e t lv m vs gv k gs S) (n : Nat) : P2 (w.drewN n) base top e t lv m vs gv k gs S :=
  ⟨h.fam.drewN n, h.mem, h.lrow, h.llt, h.grow, h.gmem⟩
/-- a row of the family was appended to -/
theorem P2.app (h : P2 w base top e t lv m vs gv k gs S) (hne : e ≠ t) {u x : Value} {i n n' : Nat} (hu : (u, i, n) ∈ S) (hf : Fam w' base e ((x, i, n') :: S)) (hg : w.grownBy w' u.ownBlock) : P2 w' base top e t lv m vs gv k gs ((x, i, n') :: S) :=
  ⟨hf, fun j v hv => List.mem_cons_of_mem _ (h.mem j v hv), own_other h.lrow (h.fam.row u i n hu) (Ne.symm hne) hg, h.llt, own_other h.grow (h.fam.row u i n hu) (Ne.symm hne) hg, fun q v hv => by
    obtain ⟨A, n, c, e1, e2, e3⟩ := h.gmem q v hv
    exact ⟨A, n, c, e1, List.mem_cons_of_mem _ e2, e3⟩⟩
set_option maxRecDepth 100000 in
/-- one list more among the grown ones -/
theorem P2.snoc (h : P2 w base top e t lv m vs gv k gs S) (hne : e ≠ t) {A A' : Option Addr} {n c c' i : Nat} (hx : (.slice A n c, i, n) ∈ S) (hi : k % m = i) (hn : n ≤ 140737488355328) (ho : w'.ownsRow top t 1 (.slice A' (k + 1) c') (k + 1) (gs ++ [.slice A n c])) (hg : w.grownBy w' gv.ownBlock) :
    P2 w' base top e t lv m vs (.slice A' (k + 1) c') (k + 1) (gs ++ [.slice A n c]) S := by
  have hgl : gs.length = k := by have := h.grow.1; omega
  refine ⟨h.fam.kept hg fun u j n hu => own_ne (h.fam.row u j n hu) h.grow hne, h.mem, h.lrow.kept hg ?_, h.llt, ho, fun q u hu => ?_⟩
  · cases hv : lv.ownBlock with
    | none => exact .inl rfl
    | some g =>
      right
      intro he
      have h1 := h.llt g hv
      have h2 := (h.grow.lt g he.symm).1
      omega
  · by_cases hq : q < gs.length
    · rw [List.getElem?_append_left hq] at hu
      exact h.gmem q u hu
    · have hq2 : q < (gs ++ [Value.slice A n c]).length := (List.getElem?_eq_some_iff.1 hu).1
      simp only [List.length_append, List.length_singleton] at hq2
      obtain rfl : q = gs.length := by omega
      rw [List.getElem?_append_right (Nat.le_refl _), Nat.sub_self] at hu
      have he : Value.slice A n c = u := by simpa using hu
      subst he
      refine ⟨A, n, c, rfl, ?_, hn⟩
      rw [hgl, hi]
      exact hx
end
end Go.Sh
/-
  The contract of shallotref01.Apart: lists of bytes that are rows of the call's own, no two in one block, are told to be apart. Conditions: the sizes that slices can have.
-/
namespace Go.Proofs.YtkmcjjoicpgjfaaDoor
open Go Go.RowKit Go.Sh

set_option maxRecDepth 100000 in
theorem TLL : STy Tryd.prog 26 39 (.slice none 0 0) 1 24 := ⟨Tryd.underlying26, by kernel_rfl, rfl, by decide⟩
theorem mark_still (i j : Nat) (w : World) (hi : i ≤ 1125899906842624) (hj : j ≤ 1125899906842624) :
    Calls Tryd.prog 52 #[.int .i64 (i : Int), .int .i64 (j : Int)] w (fun e w' => e = .returned (.int .u8 ((mk i j).toNat : Int)) ∧ w' = w) :=
  (mark_any i j w hi hj).mono fun _ _ ⟨h1, h2⟩ => ⟨h1, h2.symm⟩
theorem mark_quiet (i j : Nat) (w : World) (a n : Nat) (hi : i ≤ 1125899906842624) (hj : j ≤ 1125899906842624) :
    Calls Tryd.prog 52 #[.int .i64 (i : Int), .int .i64 (j : Int)] (w.drewN (a + n)) (fun e w' => e = .returned (.int .u8 ((mk i j).toNat : Int)) ∧ ∃ m, w' = w.drewN (a + m)) :=
  (mark_any i j _ hi hj).mono fun _ _ ⟨h1, h2⟩ => ⟨h1, n, h2.symm⟩
theorem mark_sum (i n q : Nat) (w : World) (hi : i ≤ 1125899906842624) (hj : n + q ≤ 1125899906842624) :
    Calls Tryd.prog 52 #[.int .i64 (i : Int), .int .i64 ((n : Int) + (q : Int))] w (fun e w' => e = .returned (.int .u8 ((mk i (n + q)).toNat : Int)) ∧ w = w') := by
  have := mark_any i (n + q) w hi hj
  rw [Int.natCast_add] at this
  exact this
theorem own_row_at {w : World} {base t m c i : Nat} {A : Option Addr} {vs : List Value} (h : w.ownsRow base t 1 (.slice A m c) m vs) (hi : i < m) : ∃ G, A = some ⟨G, 0, none⟩ ∧ w.cell? ⟨G, i, none⟩ = vs[i]? := by
  rcases h.2 with ⟨_, h0⟩ | ⟨g, cap, cur, hx, _⟩
  · omega
  · injection hx with hx _ _
    subst hx
    exact ⟨g, rfl, h.cellAt i (by omega)⟩
theorem own_at2 {w : World} {base t m c i : Nat} {A : Option Addr} {vs : List Value} (h : w.ownsRow base t 1 (.slice A m c) m vs) (hi : i < m) {u : Value} (hu : vs[i]? = some u) : ∃ G, A = some ⟨G, 0, none⟩ ∧ w.cell? ⟨G, i, none⟩ = some u := by
  obtain ⟨G, h1, h2⟩ := own_row_at h hi
  exact ⟨G, h1, h2.trans hu⟩

set_option maxHeartbeats 2000000 in
set_option maxRecDepth 100000 in
theorem Apart_any (A : Option Addr) (m c : Nat) (ls : List (List UInt8)) (vs : List Value) (w : World) (base : Nat) (h : OBV w base 5 39 (.slice A m c) m ls vs) (hm : m ≤ 1000000000)
    (hs : ∀ l ∈ ls, l.length ≤ 140737488355288) (hbase : base ≤ w.heap.size) : Calls Tryd.prog 25 #[.slice A m c] w (fun e w' => e = .returned (.bool true) ∧ Below base w w') := by
  have HSEP := Lib.hid h.2.2.2
  have HVL := Lib.hid h.len
  have HO := Lib.hid h.2.1
  have HSZ := Lib.hid (show ∀ (j : Nat) (u : Value), vs[j]? = some u → ∃ A n c, u = .slice A n c ∧ n ≤ 140737488355288 by
    intro j u hu
    have hj := (List.getElem?_eq_some_iff.1 hu).1
    obtain ⟨Ai, ni, ci, hv, ho⟩ := h.2.2.1 j (by have := h.len; omega)
    rw [hu] at hv
    obtain rfl := Option.some.inj hv
    refine ⟨Ai, ni, ci, rfl, ?_⟩
    have h1 := ho.1
    rw [length_bv] at h1
    have h2 := hs _ (lat_mem (ls := ls) (k := j) (by have := h.1; have := h.len; omega))
    omega)
  have HP := Lib.hid (show P1 w base 5 vs 0 0 from P1.start (by
    intro j u hu
    have hj := (List.getElem?_eq_some_iff.1 hu).1
    obtain ⟨Ai, ni, ci, hv, ho⟩ := h.2.2.1 j (by have := h.len; omega)
    rw [hu] at hv
    obtain rfl := Option.some.inj hv
    exact ⟨_, ho⟩))
  have HVS := Lib.hid (show ∀ k, k < m → ∃ u, vs[k]? = some u from fun k hk => ⟨_, List.getElem?_eq_getElem (by have := h.len; omega)⟩)
  clear h hs
  go_enter Tryd.func25, Tryd.ntmps25
  go_wp2
  go_loopw [3, 4] (fun i _ wr => ∃ k : Nat, k ≤ m ∧ i = .int .i64 k ∧ P1 wr base 5 vs k 0 ∧ wr.ownsRow base 39 1 (.slice A m c) m vs ∧ Below base w wr) (fun i _ _ => m - (intOf i).toNat)
  case atStart => exact ⟨0, by omega, rfl, HP.out, HO.out, Below.refl _ _⟩
  case round =>
    obtain ⟨k, hk, rfl, hp, ho, hb⟩ := hrel
    have HP1 := Lib.hid hp
    have HO1 := Lib.hid ho
    have HB1 := Lib.hid hb
    clear hp ho hb HP HO
    by_cases hlt : k < m
    · obtain ⟨u, hu⟩ := HVS.out k hlt
      obtain ⟨Ai, n, ci, rfl, hn⟩ := HSZ.out k u hu
      have HU := Lib.hid hu
      clear hu
      go_wp2
      go_loopw [4] (fun j wr => ∃ q : Nat, q ≤ n ∧ j = .int .i64 q ∧ P1 wr base 5 vs k q ∧ wr.ownsRow base 39 1 (.slice A m c) m vs ∧ Below base w wr) (fun j _ => n - (intOf j).toNat)
      case atStart => exact ⟨0, by omega, rfl, HP1.out, HO1.out, HB1.out⟩
      case round =>
        obtain ⟨q, hq, rfl, hp, ho, hb⟩ := hrel
        have HP2 := Lib.hid hp
        have HO2 := Lib.hid ho
        have HB2 := Lib.hid hb
        clear hp ho hb HP1 HO1 HB1
        obtain ⟨G, rfl, hc⟩ := own_at2 HO2.out hlt HU.out
        by_cases hql : q < n
        · obtain ⟨l, hl, ht⟩ := HP2.out.row HU.out
          have HL := Lib.hid (show wr.ownsRow base 5 1 (.slice Ai n ci) n (bv l) from hl)
          have HT := Lib.hid ht
          clear hl ht
          obtain ⟨g, rfl, hcr⟩ := own_row_at HL.out hql
          rw [bv_at _ _ (by have := HL.out.1; rw [length_bv] at this; omega)] at hcr
          have hfr := HL.out.frozenAt q
          have hst := World.ownsRow.stored (w := wr.drew) HL.out q (.int .u8 ((mk k q).toNat : Int))
          have HST := Lib.hid hst
          clear hst
          go_wp2
          go_still_tail 9, (by kernel_rfl)
          still_call (mark_still k q _ (by omega) (by omega))
          repeat still_step
          refine wpStill_nil ?_
          change wpList _ _ _ _ _ (World.drew _)
          go_wp2
          have hg : (wr.drew).grownBy _ (Value.slice (some ⟨g, 0, none⟩) n ci).ownBlock := HST.out.2
          refine ⟨⟨q + 1, by omega, by go_num, ?_, ?_, ?_⟩, by simp [intOf]; omega⟩
          · refine P1.put (w := wr.drew) (HP2.out.drewN 1) HSEP.out HU.out HL.out HT.out hql ?_ hg
            have := HST.out.1
            rw [bv_put'] at this
            exact this
          · exact own_other (w := wr.drew) HO2.out HL.out (by decide) hg
          · exact (HB2.out.drew).setCell (HL.out.lt g rfl).1 _
        · obtain rfl : q = n := by omega
          go_wp2
          refine ⟨⟨k + 1, by omega, by go_num, HP2.out.next HU.out, HO2.out, HB2.out⟩, by simp [intOf]; omega⟩
    · obtain rfl : k = m := by omega
      have hfam := HP1.out
      rw [← HVL.out] at hfam
      have HF := Lib.hid (P1.fam hfam HSEP.out)
      have HT0 := Lib.hid (show ∀ g, (Value.slice A k c).ownBlock = some g → g < wr.heap.size from fun g hg => (HO1.out.lt g hg).2)
      have HQ := Lib.hid (show P2 wr base wr.heap.size 5 39 (.slice A k c) k vs (.slice none 0 0) 0 [] (vs.zipIdx.map fun x => (x.1, x.2, slen x.1)) from
        ⟨HF.out, fun i u hu => List.mem_map.2 ⟨(u, i), List.mem_zipIdx_iff_getElem?.2 hu, rfl⟩, HO1.out, HT0.out, World.ownsRow_nil _ _ _ _, fun q u hu => by simp at hu⟩)
      have hbs : base ≤ wr.heap.size := Nat.le_trans hbase HB1.out.size
      obtain ⟨top, htop⟩ : ∃ top, wr.heap.size = top := ⟨_, rfl⟩
      have HTT := Lib.hid htop
      rw [htop] at HQ hbs
      clear hfam HF HT0 htop HP1 HO1
      go_wp2
      go_loopw [5, 6, 7, 8] (fun gv i _ _ wr => ∃ (q : Nat) (A' : Option Addr) (c' : Nat) (gs : List Value) (S : List (Value × Nat × Nat)), q ≤ k ∧ i = .int .i64 q ∧ gv = .slice A' q c' ∧ P2 wr base top 5 39 (.slice A k c) k vs (.slice A' q c') q gs S ∧ top ≤ wr.heap.size ∧ Below base w wr) (fun _ i _ _ _ => k - (intOf i).toNat)
      case atStart => exact ⟨0, none, 0, [], _, by omega, rfl, rfl, HQ.out, by rw [HTT.out]; exact Nat.le_refl _, HB1.out⟩
      case round =>
        obtain ⟨q, A', c', gs, S, hq, rfl, rfl, hp, htw, hb⟩ := hrel
        have HQ2 := Lib.hid hp
        have HB2 := Lib.hid hb
        clear hp hb HQ HB1 HTT
        by_cases hlt : q < k
        · obtain ⟨u, hu⟩ := HVS.out q hlt
          obtain ⟨Ai, n, ci, rfl, hn⟩ := HSZ.out q u hu
          have HU := Lib.hid hu
          clear hu
          obtain ⟨G, rfl, hc⟩ := own_at2 HQ2.out.lrow hlt HU.out
          go_wp2
          go_loopw [7, 8] (fun gv j wr => ∃ (p : Nat) (A1 : Option Addr) (c1 : Nat) (S1 : List (Value × Nat × Nat)), p ≤ 16 ∧ j = .int .i64 p ∧ gv = .slice A1 (n + p) c1 ∧ (Value.slice A1 (n + p) c1, q, n + p) ∈ S1 ∧ P2 wr base top 5 39 (.slice (some ⟨G, 0, none⟩) k c) k vs (.slice A' q c') q gs S1 ∧ top ≤ wr.heap.size ∧ Below base w wr) (fun _ j _ => 16 - (intOf j).toNat)
          case atStart => exact ⟨0, Ai, ci, S, by omega, rfl, rfl, HQ2.out.mem q _ HU.out, HQ2.out, htw, HB2.out⟩
          case round =>
            clear hc
            obtain ⟨p, A1, c1, S1, hp16, rfl, rfl, hmem, hp, htw2, hb⟩ := hrel
            have HQ3 := Lib.hid hp
            have HB3 := Lib.hid hb
            have HM := Lib.hid hmem
            clear hp hb HQ2 HB2 hmem
            obtain ⟨G', hG, hc⟩ := own_at2 HQ3.out.lrow hlt HU.out
            obtain rfl : G = G' := by injection hG with hG; injection hG
            clear hG
            by_cases hpl : p < 16
            · have HMK := Lib.hid (fun W => mark_sum q n p W (by omega) (by omega))
              go_wp2_with fail
              refine (HMK.out _).mono ?_
              rintro e w2 ⟨rfl, rfl⟩
              have HQ4 := Lib.hid (HQ3.out.later ((Below.refl wr.heap.size wr).alloc (Nat.le_refl _) (.cells #[.int .u8 ((mk q (n + p)).toNat : Int)] 5)))
              have HB4 := Lib.hid (HB3.out.alloc (Nat.le_trans hbase HB3.out.size) (.cells #[.int .u8 ((mk q (n + p)).toNat : Int)] 5))
              clear HQ3 HMK hc
              go_wp2_with (at_builtin; refine wl_appF TB rfl (.tmp 54) (.tmp 64) rfl (.slice A1 (n + p) c1) rfl (some ⟨wr.heap.size, 0, none⟩) 1 1 rfl base S1 q (n + p) HQ4.out.fam HM.out (wr.heap.size + 1) ?f3 (by omega) ?f4 ?f5 ?f6 ?f7)
              case f3 =>
                have := Reads.lit wr 5 [.int .u8 ((mk q (n + p)).toNat : Int)] 1 1 rfl _ rfl
                simpa [RB, marksAt, bv] using this
              case f4 => omega
              case f5 => omega
              case f6 => simp; omega
              case f7 =>
                intro A2 c2 w3 hf hg
                have HQ5 := Lib.hid (HQ4.out.app (by decide) HM.out hf hg)
                have HB5 := Lib.hid (HB4.out.grown hg (by simp; omega) (fun g hgg => ((HQ4.out.fam.row _ _ _ HM.out).lt g hgg).1))
                have hz5 := hg.size
                clear hf hg HQ4 HB4
                go_wp2
                refine ⟨⟨p + 1, A2, c2, _, by omega, by go_num, rfl, List.mem_cons_self, HQ5.out, ?_, HB5.out⟩, by simp [intOf]; omega⟩
                simp at hz5
                omega
            · obtain rfl : p = 16 := by omega
              have HQ4 := Lib.hid (HQ3.out.later ((Below.refl wr.heap.size wr).alloc (Nat.le_refl _) (.cells #[.slice A1 (n + 16) c1] 39)))
              have HB4 := Lib.hid (HB3.out.alloc (Nat.le_trans hbase HB3.out.size) (.cells #[.slice A1 (n + 16) c1] 39))
              clear HQ3
              go_wp2_with (at_builtin; refine wl_app TLL rfl (.tmp 66) (.tmp 68) rfl (.slice A' q c') rfl (some ⟨wr.heap.size, 0, none⟩) 1 1 rfl top q gs HQ4.out.grow (wr.heap.size + 1) [.slice A1 (n + 16) c1] ?g2 ?g3 ?g4 ?g5 ?g6 ?g7)
              case g2 => exact Reads.lit wr _ [.slice A1 (n + 16) c1] 1 1 rfl _ rfl
              case g3 => simp [Value.oneCell']
              case g4 => omega
              case g5 => omega
              case g6 => simp; omega
              case g7 =>
                intro A3 c3 w3 hown3 hg3 hat
                have HQ5 := Lib.hid (HQ4.out.snoc (by decide) HM.out (Nat.mod_eq_of_lt hlt) (by omega) hown3 hg3)
                have HB5 := Lib.hid (HB4.out.grown hg3 (by simp; omega) (fun g hgg => Nat.le_trans hbs ((HQ4.out.grow.lt g hgg).1)))
                have hz5 := hg3.size
                clear hown3 hg3 hat HQ4 HB4
                go_wp2
                refine ⟨⟨q + 1, A3, c3, _, _, by omega, by go_num, rfl, HQ5.out, ?_, HB5.out⟩, by simp [intOf]; omega⟩
                simp at hz5
                omega
        · obtain rfl : q = k := by omega
          go_wp2
          go_loopw [5, 9, 10, 11] (fun gv i _ _ wr => ∃ (p : Nat) (A' : Option Addr) (c' : Nat) (gs : List Value) (S : List (Value × Nat × Nat)), p ≤ q ∧ i = .int .i64 p ∧ gv = .slice A' (q + p) c' ∧ P2 wr base top 5 39 (.slice A q c) q vs (.slice A' (q + p) c') (q + p) gs S ∧ top ≤ wr.heap.size ∧ Below base w wr) (fun _ i _ _ _ => q - (intOf i).toNat)
          case atStart => exact ⟨0, A', c', gs, S, by omega, rfl, rfl, HQ2.out, htw, HB2.out⟩
          case round =>
            obtain ⟨p, A'', c'', gs', S', hpq, rfl, rfl, hp, htw2, hb⟩ := hrel
            have HQ3 := Lib.hid hp
            have HB3 := Lib.hid hb
            clear hp hb HQ2 HB2
            by_cases hlt : p < q
            · obtain ⟨u, hu⟩ := HVS.out p hlt
              obtain ⟨Ai, n, ci, rfl, hn⟩ := HSZ.out p u hu
              have HU := Lib.hid hu
              clear hu
              go_wp2_with (at_make; refine wl_makeB TB rfl (.const (.int .i64 40)) (.const (.int .i64 40)) rfl .i64 .i64 _ _ rfl rfl 40 rfl rfl (by omega) wr.heap.size (Nat.le_refl _) ?m5)
              case m5 =>
                intro w3 hown3 hg3 hlt3
                have HW := Lib.hid (show Below wr.heap.size wr w3 from (Below.refl _ _).grown hg3 (Nat.le_refl _) (by simp))
                have HO3 := Lib.hid hown3
                have HB0 := Lib.hid HB3.out
                have HQ0 := Lib.hid HQ3.out
                clear hown3 hg3 HB3 HQ3
                obtain ⟨b3, hb3⟩ : ∃ b3, wr.heap.size = b3 := ⟨_, rfl⟩
                have HH := Lib.hid hb3
                rw [hb3] at HW HO3 hlt3 htw2
                generalize wr = w0 at *
                go_wp2
                rw [hb3]
                clear hb3
                go_loopw [11] (fun j wr => ∃ r : Nat, r ≤ 40 ∧ j = .int .i64 r ∧ wr.ownsRow b3 5 1 (.slice (some ⟨b3, 0, none⟩) 40 40) 40 (bv (marksAt p n r ++ zs (40 - r))) ∧ Below b3 w0 wr) (fun j _ => 40 - (intOf j).toNat)
                case atStart => exact ⟨0, by omega, rfl, by simpa [marksAt] using HO3.out, HW.out⟩
                case round =>
                  obtain ⟨r, hr, rfl, ho, hb⟩ := hrel
                  have HO4 := Lib.hid ho
                  have HB4 := Lib.hid hb
                  clear ho hb HO3 HW
                  have HQ4 := Lib.hid (HQ0.out.later (by rw [HH.out]; exact HB4.out))
                  obtain ⟨G, rfl, hc⟩ := own_at2 HQ4.out.lrow hlt HU.out
                  by_cases hrl : r < 40
                  · have hcr := HO4.out.cellAt r (by omega)
                    rw [bv_at _ _ (by rw [List.length_append, length_marksAt, length_zs]; omega)] at hcr
                    have hfr := HO4.out.frozenAt r
                    have HST := Lib.hid (HO4.out.stored r (.int .u8 ((mk p (n + r)).toNat : Int)))
                    have HMK := Lib.hid (fun W => mark_sum p n r W (by omega) (by omega))
                    go_wp2_with fail
                    refine (HMK.out _).mono ?_
                    rintro e w5 ⟨rfl, rfl⟩
                    clear HMK
                    go_wp2
                    refine ⟨⟨r + 1, by omega, by go_num, ?_, HB4.out.setCell (Nat.le_refl _) _⟩, by simp [intOf]; omega⟩
                    have h := HST.out.1
                    rw [bv_put', List.set_append_right _ _ (by rw [length_marksAt]; exact Nat.le_refl _), length_marksAt, Nat.sub_self, show zs (40 - r) = 0 :: zs (40 - (r + 1)) by rw [show 40 - r = (40 - (r + 1)) + 1 by omega]; rfl, List.set_cons_zero] at h
                    rw [marksAt_succ, List.append_assoc]
                    exact h
                  · obtain rfl : r = 40 := by omega
                    have hsrc := HO4.out
                    rw [show marksAt p n 40 ++ zs (40 - 40) = marksAt p n 40 by simp [zs]] at hsrc
                    have HSR := Lib.hid (RB.of_own hsrc)
                    have hz4 : b3 ≤ wr.heap.size := by rw [← HH.out]; exact HB4.out.size
                    have hz0 : w0.heap.size = b3 := HH.out
                    have HB5 := Lib.hid (show Below base w wr from HB0.out.trans (HB4.out.mono (by omega)))
                    clear hsrc HO4 HB4 HQ0 HB0
                    go_wp2_with (at_builtin; refine wl_appF TB rfl (.tmp 97) (.tmp 98) rfl (.slice Ai n ci) rfl (some ⟨b3, 0, none⟩) 40 40 rfl base S' p n HQ4.out.fam (HQ4.out.mem p _ HU.out) wr.heap.size HSR.out (by omega) ?f4 ?f5 ?f6 ?f7)
                    case f4 => omega
                    case f5 => omega
                    case f6 => omega
                    case f7 =>
                      intro A2 c2 w6 hf hg
                      have HQ6 := Lib.hid ((HQ4.out.app (by decide) (HQ4.out.mem p _ HU.out) hf hg).later ((Below.refl w6.heap.size w6).alloc (Nat.le_refl _) (.cells #[.slice A2 (n + 40) c2] 39)))
                      have hz6 := hg.size
                      have HB6 := Lib.hid ((HB5.out.grown hg (by omega) (fun g hgg => ((HQ4.out.fam.row _ _ _ (HQ4.out.mem p _ HU.out)).lt g hgg).1)).alloc (by omega) (.cells #[.slice A2 (n + 40) c2] 39))
                      clear hf hg HQ4 HB5 HSR hc
                      go_wp2_with (at_builtin; refine wl_app TLL rfl (.tmp 93) (.tmp 100) rfl (.slice A'' (q + p) c'') rfl (some ⟨w6.heap.size, 0, none⟩) 1 1 rfl top (q + p) gs' HQ6.out.grow (w6.heap.size + 1) [.slice A2 (n + 40) c2] ?g2 ?g3 ?g4 ?g5 ?g6 ?g7)
                      case g2 => exact Reads.lit w6 _ [.slice A2 (n + 40) c2] 1 1 rfl _ rfl
                      case g3 => simp [Value.oneCell']
                      case g4 => omega
                      case g5 => omega
                      case g6 => simp; omega
                      case g7 =>
                        intro A3 c3 w7 hown3 hg3 hat
                        have HQ7 := Lib.hid (HQ6.out.snoc (by decide) List.mem_cons_self (by rw [Nat.add_mod_left]; exact Nat.mod_eq_of_lt hlt) (by omega) hown3 hg3)
                        have HB7 := Lib.hid (HB6.out.grown hg3 (by simp; omega) (fun g hgg => Nat.le_trans hbs ((HQ6.out.grow.lt g hgg).1)))
                        have hz7 := hg3.size
                        simp at hz7
                        clear hown3 hg3 hat HQ6 HB6
                        go_wp2
                        exact ⟨⟨p + 1, A3, c3, _, _, by omega, by go_num, rfl, HQ7.out, by omega, HB7.out⟩, by simp [intOf]; omega⟩
            · obtain rfl : p = q := by omega
              generalize wr = w8 at *
              have HGL := Lib.hid (show gs'.length = p + p by have := HQ3.out.grow.1; omega)
              go_wp2
              go_loopw [12, 13] (fun i _ wr => ∃ k nd : Nat, k ≤ p + p ∧ i = .int .i64 k ∧ wr = w8.drewN nd) (fun i _ _ => p + p - (intOf i).toNat)
              case atStart => exact ⟨0, 0, by omega, rfl, rfl⟩
              case round =>
                obtain ⟨k, nd, hk, rfl, rfl⟩ := hrel
                by_cases hlt : k < p + p
                · obtain ⟨u, hu⟩ : ∃ u, gs'[k]? = some u := ⟨_, List.getElem?_eq_getElem (by rw [HGL.out]; exact hlt)⟩
                  obtain ⟨Ag, n, cg, rfl, hmem, hn⟩ := HQ3.out.gmem k u hu
                  obtain ⟨G, hG, hc⟩ := own_at2 HQ3.out.grow hlt hu
                  have HR := Lib.hid (HQ3.out.fam.row _ _ _ hmem)
                  subst hG
                  clear hu hmem
                  go_wp2
                  go_loopw [13] (fun j wr => ∃ r nd : Nat, r ≤ n ∧ j = .int .i64 r ∧ wr = w8.drewN nd) (fun j _ => n - (intOf j).toNat)
                  case atStart => exact ⟨0, nd, by omega, rfl, rfl⟩
                  case round =>
                    obtain ⟨r, nd2, hr, rfl, rfl⟩ := hrel
                    by_cases hrl : r < n
                    · obtain ⟨g, rfl, hcr⟩ := own_row_at HR.out hrl
                      rw [bv_at _ _ (by rw [length_marks]; exact hrl), bt_marks _ _ _ hrl] at hcr
                      have hmod : (k : Int).tmod (p : Int) = ((k % p : Nat) : Int) := by rw [Int.tmod_eq_emod_of_nonneg (by omega)]; simp
                      have hp0 : ¬ (p : Int) = 0 := by omega
                      have hkp : k % p < p := Nat.mod_lt _ (by omega)
                      have hne : (((mk (k % p) r).toNat : Int) != ((mk (k % p) r).toNat : Int)) = false := by simp
                      have HMK := Lib.hid (fun a n => mark_quiet (k % p) r w8 a n (by omega) (by omega))
                      generalize k % p = kp at *
                      generalize (mk kp r).toNat = mv at *
                      go_wp2
                      go_quiet ((go_at_call 52; exact HMK.out _ _))
                      go_wp2
                      exact ⟨⟨r + 1, nd2 + nq, by omega, by go_num, rfl⟩, by simp [intOf]; omega⟩
                    · obtain rfl : r = n := by omega
                      go_wp2
                      exact ⟨⟨k + 1, nd2, by omega, by go_num, rfl⟩, by simp [intOf]; omega⟩
                · obtain rfl : k = p + p := by omega
                  go_wp2
                  go_loopw [14, 15] (fun i _ wr => ∃ k nd : Nat, k ≤ p ∧ i = .int .i64 k ∧ wr = w8.drewN nd) (fun i _ _ => p - (intOf i).toNat)
                  case atStart => exact ⟨0, nd, by omega, rfl, rfl⟩
                  case round =>
                    obtain ⟨k, nd, hk2, rfl, rfl⟩ := hrel
                    by_cases hlt : k < p
                    · obtain ⟨u, hu⟩ := HVS.out k hlt
                      obtain ⟨Ai, n, ci, rfl, hn⟩ := HSZ.out k u hu
                      have HR := Lib.hid (show w8.ownsRow base 5 1 (.slice Ai n ci) n (bv (marks k n)) from HQ3.out.fam.row _ _ _ (HQ3.out.mem k _ hu))
                      obtain ⟨G, rfl, hc⟩ := own_at2 HQ3.out.lrow hlt hu
                      clear hu
                      go_wp2
                      go_loopw [15] (fun j wr => ∃ r nd : Nat, r ≤ n ∧ j = .int .i64 r ∧ wr = w8.drewN nd) (fun j _ => n - (intOf j).toNat)
                      case atStart => exact ⟨0, nd, by omega, rfl, rfl⟩
                      case round =>
                        obtain ⟨r, nd2, hr, rfl, rfl⟩ := hrel
                        by_cases hrl : r < n
                        · obtain ⟨g, rfl, hcr⟩ := own_row_at HR.out hrl
                          rw [bv_at _ _ (by rw [length_marks]; exact hrl), bt_marks _ _ _ hrl] at hcr
                          have hne : (((mk k r).toNat : Int) != ((mk k r).toNat : Int)) = false := by simp
                          have HMK := Lib.hid (fun a n => mark_quiet k r w8 a n (by omega) (by omega))
                          generalize (mk k r).toNat = mv at *
                          go_wp2
                          go_quiet ((go_at_call 52; exact HMK.out _ _))
                          go_wp2
                          exact ⟨⟨r + 1, nd2 + nq, by omega, by go_num, rfl⟩, by simp [intOf]; omega⟩
                        · obtain rfl : r = n := by omega
                          go_wp2
                          exact ⟨⟨k + 1, nd2, by omega, by go_num, rfl⟩, by simp [intOf]; omega⟩
                    · go_wp2
                      go_ret
                      exact ⟨rfl, below_drewN HB3.out nd⟩
end Go.Proofs.YtkmcjjoicpgjfaaDoor
/-
  A literal list of lists whose rows lie apart, each above the one ahead of it: it is fit for Apart. Over any program; no statement of the seat is proved here.
-/
namespace Go.Sh
open Go Go.RowKit

/-- rows that lie one above the other: each entry is a slice, its list, and bounds of its block -/
structure Rw where
  v : Value
  l : List UInt8
  lo : Nat
  hi : Nat
def Rw.at (r : Rw) (w : World) (base e : Nat) : Prop := (∃ A n c, r.v = .slice A n c ∧ w.ownsRow base e 1 r.v n (bv r.l)) ∧ ∀ k, r.v.ownBlock = some k → r.lo ≤ k ∧ k < r.hi
/-- each lies above those ahead of it -/
def Rising (rs : List Rw) : Prop := ∀ (i j : Nat) (x y : Rw), i < j → rs[i]? = some x → rs[j]? = some y → x.hi ≤ y.lo
theorem Rw.own {w : World} {base e n c lo hi : Nat} {A : Option Addr} {l : List UInt8} (h : w.ownsRow base e 1 (.slice A n c) n (bv l)) (hk : ∀ k, (Value.slice A n c).ownBlock = some k → lo ≤ k ∧ k < hi) : Rw.at ⟨.slice A n c, l, lo, hi⟩ w base e := ⟨⟨A, n, c, rfl, h⟩, hk⟩
theorem Rw.at.later {w w' : World} {base e : Nat} {r : Rw} (h : r.at w base e) (hb : Below w.heap.size w w') : r.at w' base e := by
  obtain ⟨⟨A, n, c, h1, h2⟩, h3⟩ := h
  exact ⟨⟨A, n, c, h1, own_later h2 hb⟩, h3⟩
set_option maxRecDepth 100000 in
theorem OBV.of_rows {w : World} {base e t m : Nat} {v : Value} {rs : List Rw} (hl : rs.length = m) (ho : w.ownsRow base t 1 v m (rs.map Rw.v)) (hr : ∀ r ∈ rs, r.at w base e) (hs : Rising rs) : OBV w base e t v m (rs.map Rw.l) (rs.map Rw.v) := by
  refine ⟨by simpa using hl, ho, fun i hi => ?_, fun i j u x hij hu hx => ?_⟩
  · have hi' : i < rs.length := by omega
    obtain ⟨⟨A, n, c, h1, h2⟩, _⟩ := hr _ (List.getElem_mem hi')
    refine ⟨A, n, c, by rw [List.getElem?_map, List.getElem?_eq_getElem hi', Option.map_some, h1], ?_⟩
    rw [h1] at h2
    have e1 : lat (rs.map Rw.l) i = rs[i].l := by simp [lat, hi']
    rw [e1]
    exact h2
  · rw [List.getElem?_map] at hu hx
    obtain ⟨a, ha, rfl⟩ := Option.map_eq_some_iff.1 hu
    obtain ⟨b, hb, rfl⟩ := Option.map_eq_some_iff.1 hx
    have h1 := (hr a (List.mem_of_getElem? ha)).2
    have h2 := (hr b (List.mem_of_getElem? hb)).2
    have h3 := hs i j a b hij ha hb
    cases hk : a.v.ownBlock with
    | none => exact .inl rfl
    | some k =>
      right
      intro he
      have h4 := h1 k hk
      have h5 := h2 k he.symm
      omega
theorem Rising.nil : Rising [] := fun i j x y _ h => by simp at h
set_option maxRecDepth 100000 in
theorem Rising.cons {r : Rw} {rs : List Rw} (h : ∀ x ∈ rs, r.hi ≤ x.lo) (hs : Rising rs) : Rising (r :: rs) := by
  intro i j x y hij hx hy
  cases j with
  | zero => omega
  | succ j =>
    cases i with
    | zero =>
      obtain rfl : r = x := by simpa using hx
      exact h y (List.mem_of_getElem? (by simpa using hy))
    | succ i => exact hs i j x y (by omega) (by simpa using hx) (by simpa using hy)
theorem Sep.one (u : Value) : Sep [u] := by
  intro i j a b hij ha hb
  have h1 := (List.getElem?_eq_some_iff.1 hb).1
  simp only [List.length_singleton] at h1
  omega
/-- lists that are apart, one behind the other, the second above the first -/
theorem Sep.app {us vs : List Value} (T : Nat) (h1 : Sep us) (h2 : Sep vs) (hu : ∀ u ∈ us, ∀ k, u.ownBlock = some k → k < T) (hv : ∀ v ∈ vs, ∀ k, v.ownBlock = some k → T ≤ k) : Sep (us ++ vs) := by
  intro i j a b hij ha hb
  by_cases hj : j < us.length
  · rw [List.getElem?_append_left hj] at hb
    rw [List.getElem?_append_left (by omega)] at ha
    exact h1 i j a b hij ha hb
  · rw [List.getElem?_append_right (by omega)] at hb
    by_cases hi : i < us.length
    · rw [List.getElem?_append_left hi] at ha
      cases hk : a.ownBlock with
      | none => exact .inl rfl
      | some k =>
        right
        intro he
        have h3 := hu a (List.mem_of_getElem? ha) k hk
        have h4 := hv b (List.mem_of_getElem? hb) k he.symm
        omega
    · rw [List.getElem?_append_right (by omega)] at ha
      exact h2 (i - us.length) (j - us.length) a b (by omega) ha hb
/-- a row of rows out of what each of them is -/
theorem OBV.of_sep {w : World} {base e t m : Nat} {v : Value} {vs : List Value} {ls : List (List UInt8)} (hl : ls.length = m) (ho : w.ownsRow base t 1 v m vs) (hr : ∀ i u, vs[i]? = some u → ∃ A n c, u = .slice A n c ∧ w.ownsRow base e 1 u n (bv (lat ls i))) (hs : Sep vs) : OBV w base e t v m ls vs := by
  refine ⟨hl, ho, fun i hi => ?_, hs⟩
  have hvl : vs.length = m := by have := ho.1; omega
  obtain ⟨A, n, c, h1, h2⟩ := hr i _ (List.getElem?_eq_getElem (by omega))
  exact ⟨A, n, c, by rw [List.getElem?_eq_getElem (by omega), h1], by rw [← h1]; exact h2⟩
end Go.Sh
/-
  Words: what is read in blocks other than the one that turned reads as before; a list of lists of the call's own, joined by append with another. Over any program; no statement of the seat is proved here.
-/
namespace Go.Sh
open Go Go.RowKit

theorem Reads.far {w w' : World} {B size n p : Nat} {A : Option Addr} {xs : List Value} (h : Reads w B size A n xs) (hg : w.grownBy w' (some p)) (hB : B ≤ w.heap.size) (hne : ∀ ad, A = some ad → ad.block ≠ p) : Reads w' B size A n xs := by
  refine ⟨h.1, h.2.imp id ?_⟩
  rintro ⟨ad, e, hb, hc⟩
  refine ⟨ad, e, hb, fun j hj => ?_⟩
  rw [hg.cell_far (ad.add j) (by rw [block_of_add]; omega) (by rw [block_of_add]; intro h; injection h with h; exact hne ad e h)]
  exact hc j hj
theorem grown_of_below' {w w' : World} (h : Below w.heap.size w w') (row : Option Nat) : w.grownBy w' row := ⟨h.os, h.tape, h.output, h.size, fun k hk _ => h.block k hk⟩
theorem OBV.one {w : World} {base e t m : Nat} {v : Value} {ls : List (List UInt8)} {vs : List Value} (h : OBV w base e t v m ls vs) : ∀ u ∈ vs, u.oneCell' = true := by
  intro u hu
  obtain ⟨i, hi, rfl⟩ := List.getElem_of_mem hu
  obtain ⟨A, n, c, h1, _⟩ := h.2.2.1 i (by rw [← h.len]; exact hi)
  rw [List.getElem?_eq_getElem hi] at h1
  rw [Option.some.inj h1]
  rfl
/-- two lists of lists, the second's rows above the first's, appended -/
theorem OBV.join {w w' : World} {base e t m m2 T : Nat} {v v2 v' : Value} {ls ls2 : List (List UInt8)} {vs vs2 : List Value} (h : OBV w base e t v m ls vs) (h2 : OBV w base e t v2 m2 ls2 vs2)
    (hT : ∀ u ∈ vs, ∀ k, u.ownBlock = some k → k < T) (hX : ∀ u ∈ vs2, ∀ k, u.ownBlock = some k → T ≤ k) (hne : e ≠ t) (hg : w.grownBy w' v.ownBlock) (ho : w'.ownsRow base t 1 v' (m + m2) (vs ++ vs2)) :
    OBV w' base e t v' (m + m2) (ls ++ ls2) (vs ++ vs2) := by
  have hl1 := h.len
  have hl2 := h2.len
  refine OBV.of_sep (by rw [List.length_append, h.1, h2.1]) ho ?_ (Sep.app T h.2.2.2 h2.2.2.2 hT hX)
  intro i u hu
  by_cases hi : i < m
  · rw [List.getElem?_append_left (by omega)] at hu
    obtain ⟨A, n, c, h3, h4⟩ := h.2.2.1 i hi
    rw [hu] at h3
    obtain rfl := Option.some.inj h3
    refine ⟨A, n, c, rfl, ?_⟩
    have e1 : lat (ls ++ ls2) i = lat ls i := by simp [lat, List.getElem?_append_left (show i < ls.length by rw [h.1]; exact hi)]
    rw [e1]
    exact h4.kept hg (own_ne h4 h.2.1 hne)
  · rw [List.getElem?_append_right (by omega)] at hu
    have hi2 : i - vs.length < m2 := by have := (List.getElem?_eq_some_iff.1 hu).1; omega
    obtain ⟨A, n, c, h3, h4⟩ := h2.2.2.1 (i - vs.length) hi2
    rw [hu] at h3
    obtain rfl := Option.some.inj h3
    refine ⟨A, n, c, rfl, ?_⟩
    have e1 : lat (ls ++ ls2) i = lat ls2 (i - vs.length) := by
      simp [lat, List.getElem?_append_right (show ls.length ≤ i by rw [h.1]; omega), h.1, hl1]
    rw [e1]
    exact h4.kept hg (own_ne h4 h.2.1 hne)
theorem OBV.kept_t {w w' : World} {base e t m : Nat} {v x : Value} {ls : List (List UInt8)} {vs : List Value} {n size base' : Nat} {xs : List Value} (h : OBV w base e t v m ls vs) (hx : w.ownsRow base' t size x n xs) (hvx : v.ownBlock = none ∨ v.ownBlock ≠ x.ownBlock) (hne : e ≠ t) (hg : w.grownBy w' x.ownBlock) : OBV w' base e t v m ls vs := by
  obtain ⟨h1, ho, hi, hs⟩ := h
  refine ⟨h1, ho.kept hg hvx, fun i hin => ?_, hs⟩
  obtain ⟨A, m, c, h3, h4⟩ := hi i hin
  exact ⟨A, m, c, h3, h4.kept hg (own_ne h4 hx hne)⟩
end Go.Sh
/-
  Words for rows of the call's own that are apart from one another, in any order. Over any program; no statement of the seat is proved here.
-/
namespace Go.Sh
open Go Go.RowKit

/-- these two slices share no block -/
def Dst (u v : Value) : Prop := ∀ q, u.ownBlock = some q → v.ownBlock ≠ some q
theorem Dst.symm {u v : Value} (h : Dst u v) : Dst v u := fun q hq he => h q he hq
theorem Sep.app2 {us vs : List Value} (h1 : Sep us) (h2 : Sep vs) (h : ∀ u ∈ us, ∀ v ∈ vs, Dst u v) : Sep (us ++ vs) := by
  intro i j a b hij ha hb
  by_cases hj : j < us.length
  · rw [List.getElem?_append_left hj] at hb
    rw [List.getElem?_append_left (by omega)] at ha
    exact h1 i j a b hij ha hb
  · rw [List.getElem?_append_right (by omega)] at hb
    by_cases hi : i < us.length
    · rw [List.getElem?_append_left hi] at ha
      cases hk : a.ownBlock with
      | none => exact .inl rfl
      | some k => exact .inr fun he => h a (List.mem_of_getElem? ha) b (List.mem_of_getElem? hb) k hk he.symm
    · rw [List.getElem?_append_right (by omega)] at ha
      exact h2 (i - us.length) (j - us.length) a b (by omega) ha hb
theorem Sep.nil : Sep [] := fun i j u v _ hu => by simp at hu
theorem Sep.cons {u : Value} {vs : List Value} (h : Sep vs) (hu : ∀ v ∈ vs, Dst u v) : Sep (u :: vs) :=
  Sep.app2 (us := [u]) (Sep.one u) h (fun x hx v hv => by rw [List.mem_singleton] at hx; subst hx; exact hu v hv)
/-- this slice's block lies from lo up to below hi, if it has one -/
def Lain (u : Value) (lo hi : Nat) : Prop := ∀ k, u.ownBlock = some k → lo ≤ k ∧ k < hi
theorem Lain.dst {u v : Value} {lo hi lo' hi' : Nat} (hu : Lain u lo hi) (hv : Lain v lo' hi') (h : hi ≤ lo' ∨ hi' ≤ lo) : Dst u v := by
  intro q hq he
  have a1 := hu q hq
  have a2 := hv q he
  omega
theorem own_at {w w' : World} {base e n c p lo hi : Nat} {A : Option Addr} {xs : List Value} (h : w.ownsRow base e 1 (.slice A n c) n xs) (hk : Lain (.slice A n c) lo hi) (hp : hi ≤ p) (hg : w.grownBy w' (some p)) : w'.ownsRow base e 1 (.slice A n c) n xs :=
  h.kept hg (by
    cases hq : (Value.slice A n c).ownBlock with
    | none => exact .inl rfl
    | some g =>
      right
      intro he
      injection he with he
      have := (hk g hq).2
      omega)
theorem OBV.at_p {w w' : World} {base e t m p lo hi m2 c2 : Nat} {A2 : Option Addr} {ls : List (List UInt8)} {vs : List Value} (h : OBV w base e t (.slice A2 m2 c2) m ls vs) (hv : Lain (.slice A2 m2 c2) lo hi) (hk : ∀ u ∈ vs, Lain u lo hi) (hp : hi ≤ p) (hg : w.grownBy w' (some p)) : OBV w' base e t (.slice A2 m2 c2) m ls vs := by
  obtain ⟨h1, h2, h3, h4⟩ := h
  have hf : ∀ v : Value, Lain v lo hi → v.ownBlock = none ∨ v.ownBlock ≠ some p := fun v hv => by
    cases hq : v.ownBlock with
    | none => exact .inl rfl
    | some g =>
      right
      intro he
      injection he with he
      have := (hv g hq).2
      omega
  refine ⟨h1, h2.kept hg (hf _ hv), fun i hi => ?_, h4⟩
  obtain ⟨Ai, ni, ci, h5, h6⟩ := h3 i hi
  exact ⟨Ai, ni, ci, h5, h6.kept hg (hf _ (hk _ (List.mem_of_getElem? h5)))⟩
/-- two lists of lists, apart from one another, appended -/
theorem OBV.joinD {w w' : World} {base e t m m2 : Nat} {v v2 v' : Value} {ls ls2 : List (List UInt8)} {vs vs2 : List Value} (h : OBV w base e t v m ls vs) (h2 : OBV w base e t v2 m2 ls2 vs2)
    (hD : ∀ u ∈ vs, ∀ v ∈ vs2, Dst u v) (hne : e ≠ t) (hg : w.grownBy w' v.ownBlock) (ho : w'.ownsRow base t 1 v' (m + m2) (vs ++ vs2)) :
    OBV w' base e t v' (m + m2) (ls ++ ls2) (vs ++ vs2) := by
  have hl1 := h.len
  have hl2 := h2.len
  refine OBV.of_sep (by rw [List.length_append, h.1, h2.1]) ho ?_ (Sep.app2 h.2.2.2 h2.2.2.2 hD)
  intro i u hu
  by_cases hi : i < m
  · rw [List.getElem?_append_left (by omega)] at hu
    obtain ⟨A, n, c, h3, h4⟩ := h.2.2.1 i hi
    rw [hu] at h3
    obtain rfl := Option.some.inj h3
    refine ⟨A, n, c, rfl, ?_⟩
    have e1 : lat (ls ++ ls2) i = lat ls i := by simp [lat, List.getElem?_append_left (show i < ls.length by rw [h.1]; exact hi)]
    rw [e1]
    exact h4.kept hg (own_ne h4 h.2.1 hne)
  · rw [List.getElem?_append_right (by omega)] at hu
    have hi2 : i - vs.length < m2 := by have := (List.getElem?_eq_some_iff.1 hu).1; omega
    obtain ⟨A, n, c, h3, h4⟩ := h2.2.2.1 (i - vs.length) hi2
    rw [hu] at h3
    obtain rfl := Option.some.inj h3
    refine ⟨A, n, c, rfl, ?_⟩
    have e1 : lat (ls ++ ls2) i = lat ls2 (i - vs.length) := by
      simp [lat, List.getElem?_append_right (show ls.length ≤ i by rw [h.1]; omega), h.1, hl1]
    rw [e1]
    exact h4.kept hg (own_ne h4 h.2.1 hne)
end Go.Sh
/-
  Words for cells that are written anew, of some types and in some blocks alone: all else lies as it did. No statement of the seat is proved here.
-/
namespace Go.Proofs.YtkmcjjoicpgjfaaDoor
open Go Go.RowKit Go.Sh

/-- cells of the types T, in blocks from lo to below hi, may hold others now -/
structure Tn (lo hi : Nat) (T : TypeId → Prop) (w0 wr : World) : Prop where
  bl : Below lo w0 wr
  sz : wr.heap.size = w0.heap.size
  up : ∀ b, hi ≤ b → wr.heap[b]? = w0.heap[b]?
  ot : ∀ (b : Nat) (cs : Array Value) (e : TypeId) (fr : Nat × Nat), ¬ T e → w0.heap[b]? = some (.cells cs e fr) → wr.heap[b]? = some (.cells cs e fr)
  tt : ∀ (b : Nat) (cs : Array Value) (e : TypeId), w0.heap[b]? = some (.cells cs e (0, 0)) → ∃ cs', wr.heap[b]? = some (.cells cs' e (0, 0)) ∧ cs'.size = cs.size
theorem Tn.refl (lo hi : Nat) (T : TypeId → Prop) (w : World) : Tn lo hi T w w := ⟨Below.refl _ _, rfl, fun _ _ => rfl, fun _ _ _ _ _ h => h, fun _ cs _ h => ⟨cs, h, rfl⟩⟩
set_option maxRecDepth 100000 in
theorem Tn.set {lo hi : Nat} {T : TypeId → Prop} {w0 wr : World} (h : Tn lo hi T w0 wr) {g : Nat} {cs : Array Value} {t : TypeId} (h1 : lo ≤ g) (h2 : g < hi) (hg : wr.heap[g]? = some (.cells cs t (0, 0))) (ht : T t) (k : Nat) (v : Value) : Tn lo hi T w0 (wr.setCell ⟨g, k, none⟩ v) := by
  have hg' : wr.heap[g]? = some (.cells cs.toList.toArray t (0, 0)) := by simpa using hg
  have hs := set_blk (k := k) (v := v) hg'
  refine ⟨h.bl.setCell (p := ⟨g, k, none⟩) h1 v, by rw [← h.sz]; simp [World.setCell], fun b hb => by rw [far_blk (by omega)]; exact h.up b hb, fun b cs0 e fr he hb => ?_, fun b cs0 e hb => ?_⟩
  · have := h.ot b cs0 e fr he hb
    by_cases hbg : b = g
    · subst hbg
      rw [hg] at this
      injection this with this
      injection this with _ this _
      subst this
      exact absurd ht he
    · rw [far_blk hbg]; exact this
  · obtain ⟨cs1, e1, e2⟩ := h.tt b cs0 e hb
    by_cases hbg : b = g
    · subst hbg
      rw [hg] at e1
      injection e1 with e1
      injection e1 with e1 e3 _
      subst e1 e3
      exact ⟨_, hs, by simp [e2]⟩
    · rw [far_blk hbg]; exact ⟨cs1, e1, e2⟩
section
variable {lo hi base e size n : Nat} {T : TypeId → Prop} {w0 wr : World} {v : Value} {xs : List Value}
theorem Tn.own (h : Tn lo hi T w0 wr) (ho : w0.ownsRow base e size v n xs) (he : ¬ T e) : wr.ownsRow base e size v n xs := by
  refine ⟨ho.1, ?_⟩
  rcases ho.2 with hn | ⟨g, cap, cur, rfl, hb, hg, rest⟩
  · exact .inl hn
  · exact .inr ⟨g, cap, cur, rfl, hb, h.ot g cur e _ he hg, rest⟩
theorem Tn.obv {t m : Nat} {ls : List (List UInt8)} {vs : List Value} (h : Tn lo hi T w0 wr) (ho : OBV w0 base e t v m ls vs) (he : ¬ T e) (ht : ¬ T t) : OBV wr base e t v m ls vs := by
  obtain ⟨h1, h2, h3, h4⟩ := ho
  refine ⟨h1, h.own h2 ht, fun i hi => ?_, h4⟩
  obtain ⟨A, n, c, h5, h6⟩ := h3 i hi
  exact ⟨A, n, c, h5, h.own h6 he⟩
/-- a row that is written in: its block, and that a place within it may be written -/
theorem Tn.row {A : Option Addr} {c k : Nat} (h : Tn lo hi T w0 wr) (ho : w0.ownsRow base e size (.slice A n c) n xs) (hk : k < n * size) :
    ∃ g cs, A = some ⟨g, 0, none⟩ ∧ base ≤ g ∧ g < w0.heap.size ∧ wr.heap[g]? = some (.cells cs e (0, 0)) ∧ k < cs.size := by
  rcases ho.2 with ⟨_, h0⟩ | ⟨g, cap, cur, hv, hb, hg, hn, _, hc, _⟩
  · rw [h0] at hk; omega
  · injection hv with hv
    obtain ⟨cs, h1, h2⟩ := h.tt g cur e hg
    have : n * size ≤ cap * size := Nat.mul_le_mul_right _ hn
    exact ⟨g, cs, hv, hb, (Array.getElem?_eq_some_iff.1 hg).1, h1, by omega⟩
end
/-- a row that lay in an elder world and lies still -/
theorem own_mid {w0 w1 : World} {lo e size n : Nat} {v : Value} {xs : List Value} (h : w0.ownsRow lo e size v n xs) (hq : ∀ b, lo ≤ b → b < w0.heap.size → w1.heap[b]? = w0.heap[b]?) : w1.ownsRow lo e size v n xs := by
  refine ⟨h.1, ?_⟩
  rcases h.2 with hn | ⟨g, cap, cur, rfl, hb, hg, rest⟩
  · exact .inl hn
  · exact .inr ⟨g, cap, cur, rfl, hb, (hq g hb (Array.getElem?_eq_some_iff.1 hg).1).trans hg, rest⟩
theorem Tn.mid {w0 w1 wr : World} {lo hi e size n c k : Nat} {T : TypeId → Prop} {A : Option Addr} {xs : List Value} (h : Tn lo hi T w1 wr) (ho : w0.ownsRow lo e size (.slice A n c) n xs)
    (hq : ∀ b, lo ≤ b → b < w0.heap.size → w1.heap[b]? = w0.heap[b]?) (hk : k < n * size) : ∃ g cs, A = some ⟨g, 0, none⟩ ∧ lo ≤ g ∧ g < w0.heap.size ∧ wr.heap[g]? = some (.cells cs e (0, 0)) ∧ k < cs.size := by
  obtain ⟨g, cs, e1, h1, _, h3, h4⟩ := h.row (own_mid ho hq) hk
  refine ⟨g, cs, e1, h1, ?_, h3, h4⟩
  subst e1
  exact (ho.lt g rfl).2
theorem cell_in {w : World} {g k : Nat} {cs : Array Value} {t : TypeId} {fr : Nat × Nat} (h : w.heap[g]? = some (.cells cs t fr)) (hk : k < cs.size) : ∃ v, w.cell? ⟨g, k, none⟩ = some v := by
  rw [blk_cell h]
  exact ⟨_, Array.getElem?_eq_getElem hk⟩
/-- the types that CodeKeeps writes in -/
def TK (e : TypeId) : Prop := e = 33 ∨ e = 66 ∨ e = 3
theorem tk_u8 : ¬ TK 5 := by unfold TK; decide
theorem tk_bb : ¬ TK 39 := by unfold TK; decide
theorem tk_rt : ¬ TK 40 := by unfold TK; decide
theorem tk_sp : ¬ TK 43 := by unfold TK; decide
end Go.Proofs.YtkmcjjoicpgjfaaDoor
/-
  The walk of shallotlaw18.CodeKeeps: it returns true; nothing that was there has turned. Conditions: the sizes that slices can have, numbers that fit, and the table that strconv.Itoa reads.
-/
namespace Go.Proofs.YtkmcjjoicpgjfaaDoor
open Go Go.RowKit Go.Sh

/-- what Encode answers: bytes, none where the program is not in form -/
noncomputable def enE (p : Prg) : List UInt8 := if ckP p = 0 then encP p else []
theorem enc_one (d : Pad) (p : Prg) (w : World) (B : Nat) (hp : PR w B d p) (hB : B ≤ w.heap.size) :
    Calls Tryd.prog 17 #[.agg (pcs d p)] w (fun e w' => ∃ A n c, e = .returned (.tuple #[.slice A n c, .int .i64 (ckP p)]) ∧ (enE p).length = n ∧ w'.ownsRow w.heap.size 5 1 (.slice A n c) n (bv (enE p)) ∧ Below w.heap.size w w') := by
  refine (Encode_any d p w B hp hB).mono ?_
  rintro e w' ⟨hb, ⟨h, rfl⟩ | ⟨h, A, n, c, rfl, hl, ho⟩⟩
  · unfold enE
    rw [if_neg h]
    exact ⟨none, 0, 0, rfl, rfl, World.ownsRow_nil _ _ _ _, hb⟩
  · unfold enE
    rw [if_pos h, h]
    exact ⟨A, n, c, rfl, hl, ho, hb⟩
theorem enE_len (p : Prg) : (enE p).length ≤ 1000000 := by
  unfold enE
  split
  · rename_i h; exact encP_len h
  · exact Nat.zero_le _

/-- a row elsewhere stands as it was -/
theorem own_at' {w w' : World} {base e n c p lo hi : Nat} {A : Option Addr} {xs : List Value} (h : w.ownsRow base e 1 (.slice A n c) n xs) (hk : Lain (.slice A n c) lo hi) (hp : hi ≤ p) (hg : w.grownBy w' (some p)) : w'.ownsRow base e 1 (.slice A n c) n xs := own_at h hk hp hg
theorem PO.above {w w' : World} {base p0 : Nat} {d : Pad} {p : Prg} {vm : List Value} (h : PO w base d p vm) (hg : w.grownBy w' (some p0)) (hp : p0 < base) : PO w' base d p vm := by
  obtain ⟨h1, h2, h3, ⟨vr, k1, k2, k3⟩, ⟨css, g1, g2, g3, g4, g5⟩, h6, h7, h8, h9⟩ := h
  refine ⟨h1.kept hg (far_own h1 hp), h2, h3.kept hg hp, ⟨vr, k1, k2.kept hg (far_own k2 hp), fun i hi => ?_⟩, ⟨css, g1, g2, g3, g4.kept hg (far_own g4 hp), fun i hi => ?_⟩, h6, h7, h8, h9⟩
  · obtain ⟨Ai, ni, ci, h5, h6, h7⟩ := k3 i hi
    exact ⟨Ai, ni, ci, h5, h6.kept hg (far_own h6 hp), h7⟩
  · obtain ⟨Ai, ni, ci, h5, h6, h7⟩ := g5 i hi
    exact ⟨Ai, ni, ci, h5, h6.kept hg (far_own h6 hp), h7⟩

set_option maxHeartbeats 8000000 in
set_option maxRecDepth 100000 in
theorem CodeKeeps_walk (d : Pad) (p : Prg) (w : World) (hp : PR w w.heap.size d p) (hf : Fit p) (hok : ∀ i ∈ p.code, i.OK) (ht : TabOK w.heap.size w) :
    Calls Tryd.prog 6 #[.agg (pcs d p)] w (fun e w' => e = .returned (.bool true) ∧ Below w.heap.size w w') := by
  have HF := Lib.hid hf
  have HOK := Lib.hid hok
  have hz1 : (w.alloc (.cells (pcs d p) 30)).heap.size = w.heap.size + 1 := by simp
  have hb1 := (Below.refl w.heap.size w).alloc (Nat.le_refl _) (.cells (pcs d p) 30)
  have HB1 := Lib.hid hb1
  have HT0 := Lib.hid ht
  have HT1 := Lib.hid (ht.on hb1 (Nat.le_refl _))
  have HP1 := Lib.hid (hp.below hb1)
  have HC1 := Lib.hid (show (w.alloc (.cells (pcs d p) 30)).heap[w.heap.size]? = some (.cells (pcs d p).toList.toArray 30 (0, 0)) from heap_alloc_new w _)
  have HI := Lib.hid (show (Tryd.prog.info? 30).map (·.size) = some (pcs d p).toList.length by
    obtain ⟨A1, n1, k1, A2, n2, k2, A3, n3, k3, A4, n4, k4⟩ := d
    obtain ⟨_, _, _, _, v, st, k, f⟩ := p
    kernel_rfl)
  have HPL := Lib.hid (show (pcs d p).toList.toArray = pcs d p from rfl)
  have HAW := Lib.hid (fun W h => awake18_any W h)
  have HTW := Lib.hid (fun (W : World) (B : Nat) (h : PR W B d p) (hB : B ≤ W.heap.size) => Twin_any d p W B h hB hf)
  have HSA := Lib.hid (fun (W : World) (d' : Pad) (B : Nat) (h1 : PR W B d' p) (h2 : PR W w.heap.size d p) (hB : B ≤ W.heap.size) (hB' : w.heap.size ≤ W.heap.size) => Same_eq d' d p W B w.heap.size h1 h2 hB hB' hf.ms (fun r hr => by have := hf.rs r hr; omega) (fun r hr => by have := hf.ss r hr; omega))
  have HP2' := Lib.hid (fun (W : World) (h : Below w.heap.size w W) => hp.below h)
  have HLC := Lib.hid (show (pcs d p).toList[1]? = some (.slice d.A2 d.n2 d.c2) from rfl)
  have hps : (pcs d p).size = 8 := rfl
  clear hp hb1 hf hok ht
  obtain ⟨X, hX⟩ : ∃ X, pcs d p = X := ⟨_, rfl⟩
  rw [hX] at HB1 HP1 HC1 HI HPL HTW HSA HT1 HLC hps hz1 ⊢
  have hxe : ¬ X = #[] := by intro h; rw [h] at hps; cases hps
  generalize X.toList = L at *
  have HX := Lib.hid hX
  clear hX
  go_enter Tryd.func6, Tryd.ntmps6
  go_wp2_with fail
  generalize w.alloc (.cells X 30) = w1 at *
  refine (HAW.out w1 (HT1.out.more (by omega))).mono ?_
  rintro e w2 ⟨rfl, hb2⟩
  rw [hz1] at hb2
  have HB2 := Lib.hid (HB1.out.trans (hb2.mono (Nat.le_succ _)))
  have HC2 := Lib.hid ((hb2.block w.heap.size (Nat.lt_succ_self _)).trans HC1.out)
  have HR2 := Lib.hid (blk_range HC2.out)
  have HP2 := Lib.hid (HP1.out.below (hb2.mono (Nat.le_succ _)))
  have hs2 := hb2.size
  clear hb2 HAW HT1 HC1 HP1 HB1
  go_wp2_with (refine wl_load_mid (by rfl) 30 _ (by rfl) w.heap.size 0 (by rfl) L _ HR2.out Tryd.underlying30 rfl HI.out ?_; rw [HPL.out])
  refine (HTW.out w2 w.heap.size HP2.out (by omega)).mono ?_
  rintro e w3 ⟨d', rfl, hp3, hb3⟩
  have hs3 := hb3.size
  have HB3 := Lib.hid (HB2.out.trans (hb3.mono (by omega)))
  have HP3 := Lib.hid hp3
  have HC3 := Lib.hid ((hb3.block w.heap.size (by omega)).trans HC2.out)
  have HD := Lib.hid (show pcs d' p = #[.slice d'.A1 d'.n1 d'.c1, .slice d'.A2 d'.n2 d'.c2, .slice d'.A3 d'.n3 d'.c3, .slice d'.A4 d'.n4 d'.c4, .int .i64 p.vars, .int .i64 p.stack, .int .i64 p.blocks, .int .i64 p.fuel] from rfl)
  have hn1 : d'.n1 * 16 ≤ 140737488355328 := by have a := hp3.code.len; rw [List.length_map] at a; have := HF.out.n1; omega
  rw [HD.out]
  have hb5 := (Below.refl w3.heap.size w3).alloc (Nat.le_refl _) (.cells #[.slice d'.A1 d'.n1 d'.c1, .slice d'.A2 d'.n2 d'.c2, .slice d'.A3 d'.n3 d'.c3, .slice d'.A4 d'.n4 d'.c4, .int .i64 p.vars, .int .i64 p.stack, .int .i64 p.blocks, .int .i64 p.fuel] 30)
  have hz5 : (w3.alloc (.cells #[.slice d'.A1 d'.n1 d'.c1, .slice d'.A2 d'.n2 d'.c2, .slice d'.A3 d'.n3 d'.c3, .slice d'.A4 d'.n4 d'.c4, .int .i64 p.vars, .int .i64 p.stack, .int .i64 p.blocks, .int .i64 p.fuel] 30)).heap.size = w3.heap.size + 1 := by simp
  have HG5 := Lib.hid (heap_alloc_new w3 (.cells #[.slice d'.A1 d'.n1 d'.c1, .slice d'.A2 d'.n2 d'.c2, .slice d'.A3 d'.n3 d'.c3, .slice d'.A4 d'.n4 d'.c4, .int .i64 p.vars, .int .i64 p.stack, .int .i64 p.blocks, .int .i64 p.fuel] 30))
  have HP5 := Lib.hid (hp3.below hb5)
  have HB5 := Lib.hid (HB3.out.trans (hb5.mono (by omega)))
  have HC5 := Lib.hid ((hb5.block w.heap.size (by omega)).trans HC3.out)
  have HEN := Lib.hid (fun (W : World) (h : PR W w3.heap.size d' p) (hB : w3.heap.size ≤ W.heap.size) => by have := enc_one d' p W _ h hB; rw [HD.out] at this; exact this)
  have HLI := Lib.hid (fun (W : World) (h : PR W w3.heap.size d' p) (hB : w3.heap.size ≤ W.heap.size) (ht : TabOK W.heap.size W) => by have := Lines_any d' p W _ h.code hB HOK.out hn1 ht; rw [HD.out] at this; exact this)
  have HSG := Lib.hid (fun (W : World) (h : PR W w3.heap.size d' p) (h2 : PR W w.heap.size d p) (hB : w3.heap.size ≤ W.heap.size) => by have := HSA.out W d' w3.heap.size h h2 hB (by omega); rw [HD.out] at this; exact this)
  have HEL := Lib.hid (enE_len p)
  have hw3 : w.heap.size < w3.heap.size := by omega
  clear hp3 hb5 hb3 hz1 HC2 HP2 HB2 HR2 HTW HC3 HP3 HB3
  go_wp2_with fail
  generalize w3.alloc (.cells #[.slice d'.A1 d'.n1 d'.c1, .slice d'.A2 d'.n2 d'.c2, .slice d'.A3 d'.n3 d'.c3, .slice d'.A4 d'.n4 d'.c4, .int .i64 p.vars, .int .i64 p.stack, .int .i64 p.blocks, .int .i64 p.fuel] 30) = w5 at *
  obtain ⟨er, her⟩ : ∃ er, ckP p = er := ⟨_, rfl⟩
  obtain ⟨E, hE⟩ : ∃ E, enE p = E := ⟨_, rfl⟩
  rw [her, hE] at HEN
  rw [hE] at HEL
  have HER := Lib.hid her
  have HEE := Lib.hid hE
  clear her hE
  refine (HEN.out w5 HP5.out (by omega)).mono ?_
  rintro e w6 ⟨A6, n6, c6, rfl, hl6, ho6, hb6⟩
  have hs6 := hb6.size
  have HL6 := Lib.hid hl6
  have HO6 := Lib.hid ho6
  have HLA := Lib.hid (show Lain (.slice A6 n6 c6) w5.heap.size w6.heap.size from fun k hk => ho6.lt k hk)
  have HP6 := Lib.hid (HP5.out.below (hb6.mono (by omega)))
  have HB6 := Lib.hid (HB5.out.trans (hb6.mono (by omega)))
  have HC6 := Lib.hid ((hb6.block w.heap.size (by omega)).trans HC5.out)
  have HG6 := Lib.hid ((hb6.block w3.heap.size (by omega)).trans HG5.out)
  have HI2 := Lib.hid (show (Tryd.prog.info? 30).map (·.size) = some ([.slice d'.A1 d'.n1 d'.c1, .slice d'.A2 d'.n2 d'.c2, .slice d'.A3 d'.n3 d'.c3, .slice d'.A4 d'.n4 d'.c4, .int .i64 p.vars, .int .i64 p.stack, .int .i64 p.blocks, .int .i64 p.fuel] : List Value).length by kernel_rfl)
  have HRG := Lib.hid (blk_range HG6.out)
  clear hl6 ho6 hb6 HP5 HB5 HC5 HG5
  go_wp2_with (refine wl_load_mid (by rfl) 30 _ (by rfl) w3.heap.size 0 (by rfl) [.slice d'.A1 d'.n1 d'.c1, .slice d'.A2 d'.n2 d'.c2, .slice d'.A3 d'.n3 d'.c3, .slice d'.A4 d'.n4 d'.c4, .int .i64 p.vars, .int .i64 p.stack, .int .i64 p.blocks, .int .i64 p.fuel] _ HRG.out Tryd.underlying30 rfl HI2.out ?_)
  refine (HEN.out w6 HP6.out (by omega)).mono ?_
  rintro e w7 ⟨A7, n7, c7, rfl, hl7, ho7, hb7⟩
  have hs7 := hb7.size
  obtain rfl : n6 = n7 := by have := HL6.out; omega
  have HO7 := Lib.hid ho7
  have HLB := Lib.hid (show Lain (.slice A7 n6 c7) w6.heap.size w7.heap.size from fun k hk => ho7.lt k hk)
  have HO67 := Lib.hid (own_later HO6.out hb7)
  have HP7 := Lib.hid (HP6.out.below (hb7.mono (by omega)))
  have HB7 := Lib.hid (HB6.out.trans (hb7.mono (by omega)))
  have HC7 := Lib.hid ((hb7.block w.heap.size (by omega)).trans HC6.out)
  have HG7 := Lib.hid ((hb7.block w3.heap.size (by omega)).trans HG6.out)
  have HT7 := Lib.hid ((HT0.out.on HB7.out (Nat.le_refl _)).more (by have := HB7.out.size; omega) : TabOK w7.heap.size w7)
  have HRG := Lib.hid (blk_range HG7.out)
  clear hl7 ho7 hb7 HP6 HB6 HC6 HG6 HO6
  go_wp2_with (refine wl_load_mid (by rfl) 30 _ (by rfl) w3.heap.size 0 (by rfl) [.slice d'.A1 d'.n1 d'.c1, .slice d'.A2 d'.n2 d'.c2, .slice d'.A3 d'.n3 d'.c3, .slice d'.A4 d'.n4 d'.c4, .int .i64 p.vars, .int .i64 p.stack, .int .i64 p.blocks, .int .i64 p.fuel] _ HRG.out Tryd.underlying30 rfl HI2.out ?_)
  refine (HLI.out w7 HP7.out (by omega) HT7.out).mono ?_
  rintro e w8 ⟨A8, c8, rfl, _, hb8⟩
  have hs8 := hb8.size
  have HO8 := Lib.hid (own_later HO7.out hb8)
  have HO68 := Lib.hid (own_later HO67.out hb8)
  have HP8 := Lib.hid (HP7.out.below (hb8.mono (by omega)))
  have HB8 := Lib.hid (HB7.out.trans (hb8.mono (by omega)))
  have HC8 := Lib.hid ((hb8.block w.heap.size (by omega)).trans HC7.out)
  have HG8 := Lib.hid ((hb8.block w3.heap.size (by omega)).trans HG7.out)
  have HRG := Lib.hid (blk_range HG8.out)
  have HRC := Lib.hid (blk_range HC8.out)
  clear hb8 HP7 HB7 HC7 HG7 HO7 HO67 HT7 HLI
  go_wp2_with (first | (refine wl_load_mid (by rfl) 30 _ (by rfl) w3.heap.size 0 (by rfl) [.slice d'.A1 d'.n1 d'.c1, .slice d'.A2 d'.n2 d'.c2, .slice d'.A3 d'.n3 d'.c3, .slice d'.A4 d'.n4 d'.c4, .int .i64 p.vars, .int .i64 p.stack, .int .i64 p.blocks, .int .i64 p.fuel] _ HRG.out Tryd.underlying30 rfl HI2.out ?_) | (refine wl_load_mid (by rfl) 30 _ (by rfl) w.heap.size 0 (by rfl) L _ HRC.out Tryd.underlying30 rfl HI.out ?_; rw [HPL.out]))
  refine (HSG.out w8 HP8.out (HP2'.out w8 HB8.out) (by omega)).mono ?_
  rintro e w9 ⟨rfl, hb9⟩
  have hs9 := hb9.size
  have HO9 := Lib.hid (own_later HO8.out hb9)
  have HO69 := Lib.hid (own_later HO68.out hb9)
  have HB9 := Lib.hid (HB8.out.trans (hb9.mono (by omega)))
  have HC9 := Lib.hid ((hb9.block w.heap.size (by omega)).trans HC8.out)
  clear hb9 HP8 HB8 HC8 HG8 HO8 HO68 HRG HRC HSG HEN HD HI2
  by_cases he : er = 0
  · subst he
    have HFM := Lib.hid (fm_of HER.out)
    have hdc : dcP E = (p, 0) := by rw [← HEE.out]; unfold enE; rw [if_pos HER.out]; exact dec_of_enc HER.out
    have HDC := Lib.hid hdc
    have hnE : n6 ≤ 1000000 := by rw [← HL6.out]; exact HEL.out
    have HLA6 := Lib.hid (show Lain (.slice A6 n6 c6) w5.heap.size w6.heap.size from HLA.out)
    have HLA7 := Lib.hid (show Lain (.slice A7 n6 c7) w6.heap.size w7.heap.size from HLB.out)
    clear hdc HEL HER HEE HLA HLB
    go_wp2_with fail
    refine (Spare_any A6 n6 c6 E w9 w9.heap.size (RB.of_own HO69.out) (Nat.le_refl _) (by omega)).mono ?_
    rintro e w10 ⟨gx, rfl, hx10, hb10⟩
    have hs10 := hb10.size
    have hgx := hx10.lt gx rfl
    have HX10 := Lib.hid hx10
    have HO10 := Lib.hid (own_later HO9.out hb10)
    have HO610 := Lib.hid (own_later HO69.out hb10)
    have HB10 := Lib.hid (HB9.out.trans (hb10.mono (by omega)))
    have HC10 := Lib.hid ((hb10.block w.heap.size (by omega)).trans HC9.out)
    have hpre : ∀ (W : World), W.ownsRow w9.heap.size 5 1 (.slice (some ⟨gx, 0, none⟩) (n6 + 40) (n6 + 40)) (n6 + 40) (bv (spared E)) → RB W W.heap.size (some ⟨gx, 0, none⟩) n6 E := by
      intro W ho
      have h := (RB.of_own ho).take (k := n6) (by omega)
      rw [show (spared E).take n6 = E by rw [← HL6.out]; simp [spared]] at h
      exact h
    have HPRE := Lib.hid hpre
    have HDE := Lib.hid (fun (W : World) (h : W.ownsRow w9.heap.size 5 1 (.slice (some ⟨gx, 0, none⟩) (n6 + 40) (n6 + 40)) (n6 + 40) (bv (spared E))) => by
      have := Decode_any (some ⟨gx, 0, none⟩) n6 (n6 + 40) E W W.heap.size (hpre W h) (Nat.le_refl _) (by omega) (by omega)
      rw [HDC.out] at this
      exact (this : Calls Tryd.prog 14 #[.slice (some ⟨gx, 0, none⟩) n6 (n6 + 40)] W (decPost W (p, 0))))
    clear hx10 hb10 HO9 HO69 HB9 HC9 hpre
    go_wp2_with fail
    refine (HDE.out w10 HX10.out).mono ?_
    rintro e w11 ⟨d1, vm1, rfl, hpo1, hb11⟩
    obtain ⟨A1, n1, c1, A2, n2, c2, A3, n3, c3, A4, n4, c4⟩ := d1
    have hs11 := hb11.size
    have hag1 : pcs ⟨A1, n1, c1, A2, n2, c2, A3, n3, c3, A4, n4, c4⟩ p = #[.slice A1 n1 c1, .slice A2 n2 c2, .slice A3 n3 c3, .slice A4 n4 c4, .int .i64 p.vars, .int .i64 p.stack, .int .i64 p.blocks, .int .i64 p.fuel] := rfl
    have HAG1 := Lib.hid hag1
    have HLM1 := Lib.hid (fun u hu k hk => hpo1.msgs.lt u hu k hk)
    have hb12 := (Below.refl w11.heap.size w11).alloc (Nat.le_refl _) (.cells #[.slice A1 n1 c1, .slice A2 n2 c2, .slice A3 n3 c3, .slice A4 n4 c4, .int .i64 p.vars, .int .i64 p.stack, .int .i64 p.blocks, .int .i64 p.fuel] 30)
    have hb12' := hb11.trans (hb12.mono (by omega))
    have hz12 : (w11.alloc (.cells #[.slice A1 n1 c1, .slice A2 n2 c2, .slice A3 n3 c3, .slice A4 n4 c4, .int .i64 p.vars, .int .i64 p.stack, .int .i64 p.blocks, .int .i64 p.fuel] 30)).heap.size = w11.heap.size + 1 := by simp
    have HGA12 := Lib.hid (heap_alloc_new w11 (.cells #[.slice A1 n1 c1, .slice A2 n2 c2, .slice A3 n3 c3, .slice A4 n4 c4, .int .i64 p.vars, .int .i64 p.stack, .int .i64 p.blocks, .int .i64 p.fuel] 30))
    have HPA12 := Lib.hid (hpo1.later hb12)
    have HPO1 := Lib.hid hpo1
    have HQ12 := Lib.hid hb12
    have HX12 := Lib.hid (own_later HX10.out hb12')
    have HO12 := Lib.hid (own_later HO10.out hb12')
    have HO612 := Lib.hid (own_later HO610.out hb12')
    have HB12 := Lib.hid (HB10.out.trans (hb12'.mono (by omega)))
    have HC12 := Lib.hid ((hb12'.block w.heap.size (by omega)).trans HC10.out)
    rw [show (p, (0 : Int)).1 = p from rfl, show (p, (0 : Int)).2 = 0 from rfl, hag1]
    clear hag1 hpo1 hb11 hb12 hb12' HX10 HO10 HO610 HB10 HC10
    go_wp2_with fail
    generalize w11.alloc (.cells #[.slice A1 n1 c1, .slice A2 n2 c2, .slice A3 n3 c3, .slice A4 n4 c4, .int .i64 p.vars, .int .i64 p.stack, .int .i64 p.blocks, .int .i64 p.fuel] 30) = w12 at *
    refine (HDE.out w12 HX12.out).mono ?_
    rintro e w13 ⟨d2, vm2, rfl, hpo2, hb13⟩
    obtain ⟨B1, m1, e1, B2, m2, e2, B3, m3, e3, B4, m4, e4⟩ := d2
    have hs13 := hb13.size
    have hag2 : pcs ⟨B1, m1, e1, B2, m2, e2, B3, m3, e3, B4, m4, e4⟩ p = #[.slice B1 m1 e1, .slice B2 m2 e2, .slice B3 m3 e3, .slice B4 m4 e4, .int .i64 p.vars, .int .i64 p.stack, .int .i64 p.blocks, .int .i64 p.fuel] := rfl
    have HAG2 := Lib.hid hag2
    have HLM2 := Lib.hid (fun u hu k hk => hpo2.msgs.lt u hu k hk)
    have hb14 := (Below.refl w13.heap.size w13).alloc (Nat.le_refl _) (.cells #[.slice B1 m1 e1, .slice B2 m2 e2, .slice B3 m3 e3, .slice B4 m4 e4, .int .i64 p.vars, .int .i64 p.stack, .int .i64 p.blocks, .int .i64 p.fuel] 30)
    have hb14' := hb13.trans (hb14.mono (by omega))
    have hz14 : (w13.alloc (.cells #[.slice B1 m1 e1, .slice B2 m2 e2, .slice B3 m3 e3, .slice B4 m4 e4, .int .i64 p.vars, .int .i64 p.stack, .int .i64 p.blocks, .int .i64 p.fuel] 30)).heap.size = w13.heap.size + 1 := by simp
    have HGB14 := Lib.hid (heap_alloc_new w13 (.cells #[.slice B1 m1 e1, .slice B2 m2 e2, .slice B3 m3 e3, .slice B4 m4 e4, .int .i64 p.vars, .int .i64 p.stack, .int .i64 p.blocks, .int .i64 p.fuel] 30))
    have HGA14 := Lib.hid ((hb14'.block w11.heap.size (by omega)).trans HGA12.out)
    have HPB14 := Lib.hid (hpo2.later hb14)
    have HPA14 := Lib.hid (HPA12.out.later hb14')
    have HQ14 := Lib.hid (HQ12.out.trans (hb14'.mono (by omega)))
    have HX14 := Lib.hid (own_later HX12.out hb14')
    have HO14 := Lib.hid (own_later HO12.out hb14')
    have HO614 := Lib.hid (own_later HO612.out hb14')
    have HB14 := Lib.hid (HB12.out.trans (hb14'.mono (by omega)))
    have HC14 := Lib.hid ((hb14'.block w.heap.size (by omega)).trans HC12.out)
    rw [show (p, (0 : Int)).1 = p from rfl, show (p, (0 : Int)).2 = 0 from rfl, hag2]
    clear hag2 hpo2 hb13 hb14 hb14' HX12 HO12 HO612 HB12 HC12 HGA12 HPA12 HDE
    go_wp2_with fail
    generalize w13.alloc (.cells #[.slice B1 m1 e1, .slice B2 m2 e2, .slice B3 m3 e3, .slice B4 m4 e4, .int .i64 p.vars, .int .i64 p.stack, .int .i64 p.blocks, .int .i64 p.fuel] 30) = w14 at *
    refine (Kept_any (some ⟨gx, 0, none⟩) A6 n6 (n6 + 40) c6 E w14 w14.heap.size w14.heap.size (RB.of_own HX14.out) (RB.of_own HO614.out) (by omega)).mono ?_
    rintro e w15 ⟨rfl, k15, rfl⟩
    have HGB15 := Lib.hid (show (w14.drewN k15).heap[w13.heap.size]? = _ from HGB14.out)
    have HGA15 := Lib.hid (show (w14.drewN k15).heap[w11.heap.size]? = _ from HGA14.out)
    have HC15 := Lib.hid (show (w14.drewN k15).heap[w.heap.size]? = _ from HC14.out)
    have HPB15 := Lib.hid (show PO (w14.drewN k15) w12.heap.size ⟨B1, m1, e1, B2, m2, e2, B3, m3, e3, B4, m4, e4⟩ p vm2 from HPB14.out.far fun _ _ => rfl)
    have HPA15 := Lib.hid (show PO (w14.drewN k15) w10.heap.size ⟨A1, n1, c1, A2, n2, c2, A3, n3, c3, A4, n4, c4⟩ p vm1 from HPA14.out.far fun _ _ => rfl)
    have HX15 := Lib.hid (own_drewN HX14.out k15)
    have HO15 := Lib.hid (own_drewN HO14.out k15)
    have HO615 := Lib.hid (own_drewN HO614.out k15)
    have HB15 := Lib.hid (below_drewN HB14.out k15)
    have HQ15 := Lib.hid (below_drewN HQ14.out k15)
    have hz15 : (w14.drewN k15).heap.size = w14.heap.size := rfl
    clear HGB14 HGA14 HC14 HPB14 HPA14 HX14 HO14 HO614 HB14
    generalize w14.drewN k15 = w15 at *
    have hsame := HSA.out w15 ⟨A1, n1, c1, A2, n2, c2, A3, n3, c3, A4, n4, c4⟩ _ HPA15.out.pr (HP2'.out w15 HB15.out) (Nat.le_refl _) (by omega)
    rw [HAG1.out] at hsame
    have HSE := Lib.hid hsame
    have HI3 := Lib.hid (show (Tryd.prog.info? 30).map (·.size) = some ([.slice A1 n1 c1, .slice A2 n2 c2, .slice A3 n3 c3, .slice A4 n4 c4, .int .i64 p.vars, .int .i64 p.stack, .int .i64 p.blocks, .int .i64 p.fuel] : List Value).length by kernel_rfl)
    have HRA := Lib.hid (blk_range HGA15.out)
    have HRC := Lib.hid (blk_range HC15.out)
    clear hsame
    go_wp2_with (first | (refine wl_load_mid (by rfl) 30 _ (by rfl) w11.heap.size 0 (by rfl) [.slice A1 n1 c1, .slice A2 n2 c2, .slice A3 n3 c3, .slice A4 n4 c4, .int .i64 p.vars, .int .i64 p.stack, .int .i64 p.blocks, .int .i64 p.fuel] _ HRA.out Tryd.underlying30 rfl HI3.out ?_) | (refine wl_load_mid (by rfl) 30 _ (by rfl) w.heap.size 0 (by rfl) L _ HRC.out Tryd.underlying30 rfl HI.out ?_; rw [HPL.out]))
    refine HSE.out.mono ?_
    rintro e w16 ⟨rfl, hb16⟩
    have hs16 := hb16.size
    have HGB16 := Lib.hid ((hb16.block _ (by omega)).trans HGB15.out)
    have HGA16 := Lib.hid ((hb16.block _ (by omega)).trans HGA15.out)
    have HC16 := Lib.hid ((hb16.block _ (by omega)).trans HC15.out)
    have HPB16 := Lib.hid (HPB15.out.later hb16)
    have HQ16 := Lib.hid (HQ15.out.trans (hb16.mono (by omega)))
    have HPA16 := Lib.hid (HPA15.out.later hb16)
    have HX16 := Lib.hid (own_later HX15.out hb16)
    have HO16 := Lib.hid (own_later HO15.out hb16)
    have HO616 := Lib.hid (own_later HO615.out hb16)
    have HB16 := Lib.hid (HB15.out.trans (hb16.mono (by omega)))
    clear hb16 HGB15 HGA15 HC15 HPB15 HPA15 HX15 HO15 HO615 HB15 HSE HRA HRC
    go_wp2_with fail
    refine (OverAt_any gx n6 40 (n6 + 40) (n6 + 40) _ E _ w16 HX16.out HL6.out (by omega)).mono ?_
    rintro e w17 ⟨rfl, hx17, hg17⟩
    have hz17 := hg17.size
    have HX17 := Lib.hid hx17
    have HO17 := Lib.hid (own_at' HO16.out HLA7.out (by omega) hg17)
    have HO617 := Lib.hid (own_at' HO616.out HLA6.out (by omega) hg17)
    have HPB17 := Lib.hid (HPB16.out.above hg17 (by omega))
    have HPA17 := Lib.hid (HPA16.out.above hg17 (by omega))
    have HGB17 := Lib.hid ((hg17.block _ (by have := (Array.getElem?_eq_some_iff.1 HGB16.out).1; exact this) (by simp only [ne_eq, Option.some.injEq]; omega)).trans HGB16.out)
    have HGA17 := Lib.hid ((hg17.block _ (by have := (Array.getElem?_eq_some_iff.1 HGA16.out).1; exact this) (by simp only [ne_eq, Option.some.injEq]; omega)).trans HGA16.out)
    have HC17 := Lib.hid ((hg17.block _ (by have := (Array.getElem?_eq_some_iff.1 HC16.out).1; exact this) (by simp only [ne_eq, Option.some.injEq]; omega)).trans HC16.out)
    have HEQ := Lib.hid (show ∀ b, w10.heap.size ≤ b → b < w11.heap.size → w17.heap[b]? = w11.heap[b]? from fun b h1 h2 => (hg17.block b (by omega) (by simp only [ne_eq, Option.some.injEq]; omega)).trans (HQ16.out.block b h2))
    have HB17 := Lib.hid (HB16.out.grown hg17 (by omega) (fun q hq => by injection hq with hq; omega))
    clear HQ12 HQ14 HQ15 HQ16 hx17 hg17 HX16 HO16 HO616 HPB16 HPA16 HGB16 HGA16 HC16 HB16
    have a0 : w17.cell? ⟨w11.heap.size, 0, none⟩ = some (.slice A1 n1 c1) := by rw [blk_cell HGA17.out]; rfl
    go_wp2_with fail
    have hq1 : n1 ≤ 65535 := HPA17.out.b1
    have hq3 : n3 ≤ 65535 := HPA17.out.b3
    have hq4 : n4 ≤ 65535 := HPA17.out.b4
    go_loopw [14, 87] (fun _ i wr => ∃ k : Nat, k ≤ n1 ∧ i = .int .i64 (k : Int) ∧ Tn w10.heap.size w11.heap.size TK w17 wr) (fun _ i _ => n1 - (intOf i).toNat)
    case' atStart => exact ⟨0, by omega, rfl, Tn.refl _ _ _ _⟩
    case' round =>
      obtain ⟨k, hk, rfl, ht⟩ := hrel
      have HT := Lib.hid ht
      clear ht a0
      have a0 : wr.cell? ⟨w11.heap.size, 0, none⟩ = some (.slice A1 n1 c1) := by rw [blk_cell ((HT.out.up _ (Nat.le_refl _)).trans HGA17.out)]; rfl
      by_cases hlt : k < n1
      · obtain ⟨g, cs, hg0, hg1, hg2, hg3, hg4⟩ := HT.out.mid (k := k * 3 + 1) HPO1.out.code HEQ.out (show k * 3 + 1 < n1 * 3 by omega)
        obtain ⟨v, hv⟩ := cell_in hg3 hg4
        have hfz := frozen_of_row _ _ (k * 3 + 1) _ _ hg3
        have HG3 := Lib.hid hg3
        simp only at hg0
        subst hg0
        clear hg3 hg4
        go_wp2_with fail
        exact ⟨⟨k + 1, by omega, by go_num, HT.out.set hg1 hg2 HG3.out (.inl rfl) _ _⟩, by simp [intOf]; omega⟩
      · obtain rfl : k = n1 := by omega
        have a2 : wr.cell? ⟨w11.heap.size, 2, none⟩ = some (.slice A3 n3 c3) := by rw [blk_cell ((HT.out.up _ (Nat.le_refl _)).trans HGA17.out)]; rfl
        clear a0 hlt hk
        go_wp2_with fail
        obtain ⟨wq, hwq⟩ : ∃ wq, wr = wq := ⟨_, rfl⟩
        rw [hwq] at HT a2 ⊢
        clear hwq wr
        obtain ⟨vr1, hrt1⟩ := HPO1.out.rts
        have HRT := Lib.hid hrt1
        clear hrt1
        go_loopw [15, 99] (fun _ i wr => ∃ k : Nat, k ≤ n3 ∧ i = .int .i64 (k : Int) ∧ Tn w10.heap.size w11.heap.size TK w17 wr) (fun _ i _ => n3 - (intOf i).toNat)
        case' atStart => exact ⟨0, by omega, rfl, HT.out⟩
        case' round =>
          obtain ⟨k, hk, rfl, ht⟩ := hrel
          have HT2 := Lib.hid ht
          clear ht a2
          have a2 : wr.cell? ⟨w11.heap.size, 2, none⟩ = some (.slice A3 n3 c3) := by rw [blk_cell ((HT2.out.up _ (Nat.le_refl _)).trans HGA17.out)]; rfl
          by_cases hlt : k < n3
          · obtain ⟨Ai, ni, ci, hv, hrow, hni⟩ := HRT.out.2.2 k hlt
            obtain ⟨ad, u, hA, _, hu, hcell⟩ := (Reads.of_own (HT2.out.own (own_mid HRT.out.2.1 HEQ.out) tk_rt)).at_ hlt
            rw [hv] at hu
            obtain rfl := Option.some.inj hu
            have hn1' : 1 ≤ ni := by have := (HFM.out.rts _ (rat_mem (l := p.rts) (k := k) (by have : p.rts.length = n3 := HRT.out.1; omega))).1; omega
            obtain ⟨g, cs, hg0, hg1, hg2, hg3, hg4⟩ := HT2.out.mid (k := 1) hrow HEQ.out (show 1 < ni * 3 by omega)
            obtain ⟨v, hvv⟩ := cell_in hg3 hg4
            have hfz := frozen_of_row _ _ 1 _ _ hg3
            have HG3 := Lib.hid hg3
            simp only at hg0 hA
            subst hg0 hA
            clear hg3 hg4 hrow hv hni
            go_wp2_with fail
            exact ⟨⟨k + 1, by omega, by go_num, HT2.out.set hg1 hg2 HG3.out (.inr (.inl rfl)) _ _⟩, by simp [intOf]; omega⟩
          · obtain rfl : k = n3 := by omega
            have a3 : wr.cell? ⟨w11.heap.size, 3, none⟩ = some (.slice A4 n4 c4) := by rw [blk_cell ((HT2.out.up _ (Nat.le_refl _)).trans HGA17.out)]; rfl
            clear a2 hlt hk HT
            go_wp2_with fail
            obtain ⟨wq2, hwq⟩ : ∃ wq2, wr = wq2 := ⟨_, rfl⟩
            rw [hwq] at HT2 a3 ⊢
            clear hwq wr
            obtain ⟨css1, hsn1⟩ := HPO1.out.snds
            have HSN := Lib.hid hsn1
            clear hsn1
            go_loopw [16, 113] (fun _ i wr => ∃ k : Nat, k ≤ n4 ∧ i = .int .i64 (k : Int) ∧ Tn w10.heap.size w11.heap.size TK w17 wr) (fun _ i _ => n4 - (intOf i).toNat)
            case' atStart => exact ⟨0, by omega, rfl, HT2.out⟩
            case' round =>
              obtain ⟨k, hk, rfl, ht⟩ := hrel
              have HT3 := Lib.hid ht
              clear ht a3
              have a3 : wr.cell? ⟨w11.heap.size, 3, none⟩ = some (.slice A4 n4 c4) := by rw [blk_cell ((HT3.out.up _ (Nat.le_refl _)).trans HGA17.out)]; rfl
              by_cases hlt : k < n4
              · obtain ⟨Ai, ni, ci, hv, hrow, _⟩ := HSN.out.2.2.2.2 k hlt
                have hrr := RR.of_own (HT3.out.own (own_mid HSN.out.2.2.2.1 HEQ.out) tk_sp) HSN.out.2.1 HSN.out.2.2.1
                obtain ⟨b, off, cs0, hA, _, hcs, _, hgc⟩ := hrr.at_ hlt
                rw [hv] at hcs
                obtain rfl := Option.some.inj hcs
                have hcell : wr.cell? ⟨b, off + k * 3 + 1, none⟩ = some (.slice Ai ni ci) := hgc 1 _ rfl
                have hn1' : 1 ≤ ni := by
                  have h1 := (HFM.out.snds _ (dat_mem (l := p.snds) (k := k) (by have : p.snds.length = n4 := HSN.out.1; omega))).1
                  have h2 := hrow.1
                  rw [length_iv] at h2
                  omega
                obtain ⟨g, cs, hg0, hg1, hg2, hg3, hg4⟩ := HT3.out.mid (k := 0) hrow HEQ.out (show 0 < ni * 1 by omega)
                obtain ⟨v, hvv⟩ := cell_in hg3 hg4
                have hfz := frozen_of_row _ _ 0 _ _ hg3
                have HG3 := Lib.hid hg3
                simp only at hg0 hA
                subst hg0 hA
                clear hg3 hg4 hrow hv hgc hrr
                go_wp2_with fail
                exact ⟨⟨k + 1, by omega, by go_num, HT3.out.set hg1 hg2 HG3.out (.inr (.inr rfl)) _ _⟩, by simp [intOf]; omega⟩
              · obtain rfl : k = n4 := by omega
                clear a3 hlt hk HT2
                obtain ⟨w18, hwq⟩ : ∃ w18, wr = w18 := ⟨_, rfl⟩
                rw [hwq] at HT3 ⊢
                clear hwq wr
                have hs18 : w17.heap.size ≤ w18.heap.size := Nat.le_of_eq HT3.out.sz.symm
                have HX18 := Lib.hid (HT3.out.own HX17.out tk_u8)
                have HO18 := Lib.hid (HT3.out.own HO17.out tk_u8)
                have HO618 := Lib.hid (HT3.out.own HO617.out tk_u8)
                have HMA18 := Lib.hid (HT3.out.obv HPA17.out.msgs tk_u8 tk_bb)
                have HPB18 := Lib.hid (HPB17.out.far fun b hb => HT3.out.up b (by omega))
                have HGB18 := Lib.hid ((HT3.out.up w13.heap.size (by omega)).trans HGB17.out)
                have HGA18 := Lib.hid ((HT3.out.up w11.heap.size (by omega)).trans HGA17.out)
                have HC18 := Lib.hid ((HT3.out.bl.block w.heap.size (by omega)).trans HC17.out)
                have HB18 := Lib.hid (HB17.out.trans (HT3.out.bl.mono (by omega)))
                have a1 : w18.cell? ⟨w11.heap.size, 1, none⟩ = some (.slice A2 n2 c2) := by rw [blk_cell HGA18.out]; rfl
                have hq2 : n2 ≤ 65535 := HPA17.out.b2
                have hr2 : m2 ≤ 65535 := HPB17.out.b2
                have hz18 : w10.heap.size < w18.heap.size := by omega
                have hz13 : w13.heap.size < w18.heap.size := by omega
                have HLX := Lib.hid (show Lain (.slice (some ⟨gx, 0, none⟩) (n6 + 40) (n6 + 40)) w9.heap.size w10.heap.size from fun k hk => by
                  have : gx = k := by simpa [Value.ownBlock] using hk
                  omega)
                clear HX17 HO17 HO617 HPA17 HPB17 HGB17 HGA17 HC17 HB17 HT3 HRT HSN HPO1 HEQ
                obtain ⟨w19, h19⟩ : ∃ w19, w18.alloc (.cells #[.slice (some ⟨gx, 0, none⟩) (n6 + 40) (n6 + 40), .slice A6 n6 c6, .slice A7 n6 c7] 39) = w19 := ⟨_, rfl⟩
                have hb19 : Below w18.heap.size w18 w19 := by rw [← h19]; exact (Below.refl _ _).alloc (Nat.le_refl _) _
                have hs19 : w19.heap.size = w18.heap.size + 1 := by rw [← h19]; simp
                have hlit : OBV w19 w.heap.size 5 39 (.slice (some ⟨w18.heap.size, 0, none⟩) 3 3) 3 [ovr E ++ spareTo E.length 40, E, E] [.slice (some ⟨gx, 0, none⟩) (n6 + 40) (n6 + 40), .slice A6 n6 c6, .slice A7 n6 c7] := by
                  refine OBV.of_sep rfl (by rw [← h19]; exact World.ownsRow_lit w18 #[.slice (some ⟨gx, 0, none⟩) (n6 + 40) (n6 + 40), .slice A6 n6 c6, .slice A7 n6 c7] 3 (by omega) (by decide) rfl) (fun i u hu => ?_)
                    (Sep.cons (Sep.cons (Sep.one _) fun v hv => ?_) fun v hv => ?_)
                  · match i, hu with
                    | 0, hu => obtain rfl := Option.some.inj hu; exact ⟨_, _, _, rfl, own_later (own_base HX18.out (by omega)) hb19⟩
                    | 1, hu => obtain rfl := Option.some.inj hu; exact ⟨_, _, _, rfl, own_later (own_base HO618.out (by omega)) hb19⟩
                    | 2, hu => obtain rfl := Option.some.inj hu; exact ⟨_, _, _, rfl, own_later (own_base HO18.out (by omega)) hb19⟩
                    | _ + 3, hu => exact absurd hu (by simp)
                  · obtain rfl : v = .slice A7 n6 c7 := by simpa using hv
                    exact HLA6.out.dst HLA7.out (.inl (Nat.le_refl _))
                  · rcases (show v = .slice A6 n6 c6 ∨ v = .slice A7 n6 c7 by simpa using hv) with rfl | rfl
                    · exact HLX.out.dst HLA6.out (.inr (by omega))
                    · exact HLX.out.dst HLA7.out (.inr (by omega))
                have HLIT := Lib.hid hlit
                have HLT := Lib.hid (show ∀ u ∈ [Value.slice (some ⟨gx, 0, none⟩) (n6 + 40) (n6 + 40), .slice A6 n6 c6, .slice A7 n6 c7], Lain u w5.heap.size w10.heap.size from fun u hu k hk => by
                  simp only [List.mem_cons, List.not_mem_nil, or_false] at hu
                  rcases hu with rfl | rfl | rfl
                  · have := HLX.out k hk; omega
                  · have := HLA6.out k hk; omega
                  · have := HLA7.out k hk; omega)
                have HMA19 := Lib.hid ((HMA18.out.later hb19).base_le (show w.heap.size ≤ _ by omega))
                have H19 := Lib.hid h19
                have a1' : (w18.alloc (.cells #[.slice (some ⟨gx, 0, none⟩) (n6 + 40) (n6 + 40), .slice A6 n6 c6, .slice A7 n6 c7] 39)).cell? ⟨w11.heap.size, 1, none⟩ = some (.slice A2 n2 c2) := by rw [h19, blk_cell ((hb19.block w11.heap.size (by omega)).trans HGA18.out)]; rfl
                have HB19 := Lib.hid hb19
                clear hlit hb19 h19 HMA18 HX18 HO18 HO618 a1
                go_wp2_with (at_builtin; rw [H19.out]; refine wl_app TBB rfl (.tmp 127) (.tmp 129) rfl (.slice (some ⟨w18.heap.size, 0, none⟩) 3 3) rfl A2 n2 c2 rfl w.heap.size 3 _ HLIT.out.2.1 w19.heap.size vm1 (Reads.of_own HMA19.out.2.1) HMA19.out.one (by omega) (by omega) (by omega) ?q6)
                case q6 =>
                  intro A20 k20 w20 hown hgr hat
                  have HL20 := Lib.hid (HLIT.out.joinD HMA19.out (fun u hu v hv => (HLT.out u hu).dst (show Lain v w10.heap.size w11.heap.size from fun k hk => HLM1.out v hv k hk) (.inl (Nat.le_refl _))) (by decide) hgr hown)
                  have hb20 : Below w18.heap.size w18 w20 := HB19.out.grown hgr (by omega) (fun q hq => by
                    have h2 : w18.heap.size = q := by simpa [Value.ownBlock] using hq
                    omega)
                  have HA20 := Lib.hid (show ∀ k, (Value.slice A20 (3 + n2) k20).ownBlock = some k → w18.heap.size ≤ k from fun k hk => by
                    rcases hat with h | h
                    · rw [h] at hk
                      have h2 : w18.heap.size = k := by simpa [Value.ownBlock] using hk
                      omega
                    · rw [h] at hk
                      injection hk with hk
                      omega)
                  have HT20 := Lib.hid (show ∀ u ∈ [Value.slice (some ⟨gx, 0, none⟩) (n6 + 40) (n6 + 40), .slice A6 n6 c6, .slice A7 n6 c7] ++ vm1, Lain u w5.heap.size w11.heap.size from fun u hu k hk => by
                    rcases List.mem_append.1 hu with hu | hu
                    · have := HLT.out u hu k hk; omega
                    · have := HLM1.out u hu k hk; omega)
                  have hs20 := hb20.size
                  have HPB20 := Lib.hid (HPB18.out.later hb20)
                  have HGB20 := Lib.hid ((hb20.block w13.heap.size (by omega)).trans HGB18.out)
                  have HC20 := Lib.hid ((hb20.block w.heap.size (by omega)).trans HC18.out)
                  have HB20 := Lib.hid (HB18.out.trans (hb20.mono (by omega)))
                  have b1 : w20.cell? ⟨w13.heap.size, 1, none⟩ = some (.slice B2 m2 e2) := by rw [blk_cell HGB20.out]; rfl
                  clear hown hgr hat hb20 HLIT HLT HMA19 HB19 H19 HPB18 HGB18 HC18 HB18 a1' HGA18
                  generalize [Value.slice (some ⟨gx, 0, none⟩) (n6 + 40) (n6 + 40), .slice A6 n6 c6, .slice A7 n6 c7] ++ vm1 = us20 at *
                  go_wp2_with fail
                  refine (Copies_any B2 m2 e2 p.msgs w20 w20.heap.size (RBB.of_own HPB20.out.msgs.obb) (Nat.le_refl _) (by omega) HF.out.ms).mono ?_
                  rintro e w21 ⟨g21, k21, rfl, hw21, hb21⟩
                  have hs21 := hb21.size
                  have HW21 := Lib.hid hw21
                  have HL21 := Lib.hid (HL20.out.later hb21)
                  have HPB21 := Lib.hid (HPB20.out.later hb21)
                  have HGB21 := Lib.hid ((hb21.block w13.heap.size (by omega)).trans HGB20.out)
                  have HC21 := Lib.hid ((hb21.block w.heap.size (by omega)).trans HC20.out)
                  have HB21 := Lib.hid (HB20.out.trans (hb21.mono (by omega)))
                  have hsame := HSA.out w21 ⟨B1, m1, e1, B2, m2, e2, B3, m3, e3, B4, m4, e4⟩ _ HPB21.out.pr (HP2'.out w21 HB21.out) (Nat.le_refl _) (by omega)
                  rw [HAG2.out] at hsame
                  have HSE := Lib.hid hsame
                  have HI4 := Lib.hid (show (Tryd.prog.info? 30).map (·.size) = some ([.slice B1 m1 e1, .slice B2 m2 e2, .slice B3 m3 e3, .slice B4 m4 e4, .int .i64 p.vars, .int .i64 p.stack, .int .i64 p.blocks, .int .i64 p.fuel] : List Value).length by kernel_rfl)
                  have HRB := Lib.hid (blk_range HGB21.out)
                  have HRC := Lib.hid (blk_range HC21.out)
                  clear hsame hw21 hb21 HL20 HPB20 HGB20 HC20 HB20 b1
                  go_wp2_with (first | (refine wl_load_mid (by rfl) 30 _ (by rfl) w13.heap.size 0 (by rfl) [.slice B1 m1 e1, .slice B2 m2 e2, .slice B3 m3 e3, .slice B4 m4 e4, .int .i64 p.vars, .int .i64 p.stack, .int .i64 p.blocks, .int .i64 p.fuel] _ HRB.out Tryd.underlying30 rfl HI4.out ?_) | (refine wl_load_mid (by rfl) 30 _ (by rfl) w.heap.size 0 (by rfl) L _ HRC.out Tryd.underlying30 rfl HI.out ?_; rw [HPL.out]))
                  refine HSE.out.mono ?_
                  rintro e w22 ⟨rfl, hb22⟩
                  have hs22 := hb22.size
                  have HW22 := Lib.hid (HW21.out.later hb22)
                  have HL22 := Lib.hid (HL21.out.later hb22)
                  have HPB22 := Lib.hid (HPB21.out.later hb22)
                  have HGB22 := Lib.hid ((hb22.block w13.heap.size (by omega)).trans HGB21.out)
                  have HC22 := Lib.hid ((hb22.block w.heap.size (by omega)).trans HC21.out)
                  have HB22 := Lib.hid (HB21.out.trans (hb22.mono (by omega)))
                  have p1 : w22.cell? ⟨w.heap.size, 1, none⟩ = some (.slice d.A2 d.n2 d.c2) := by rw [blk_cell HC22.out, List.getElem?_toArray]; exact HLC.out
                  clear hb22 HSE HRB HRC HW21 HL21 HPB21 HGB21 HC21 HB21
                  have HPM := Lib.hid (HP2'.out w22 HB22.out).msgs
                  go_wp2_with fail
                  refine (Equals_any (some ⟨g21, 0, none⟩) d.A2 m2 d.n2 k21 d.c2 p.msgs p.msgs w22 _ _ (RBB.of_own HW22.out) HPM.out (by omega) HF.out.ms).mono ?_
                  rintro e w23 ⟨rfl, q23, rfl⟩
                  rw [show decide (p.msgs = p.msgs) = true by simp]
                  have HL23 := Lib.hid (HL22.out.drewN q23)
                  have HMB23 := Lib.hid ((HPB22.out.msgs.drewN q23).base_le (show w.heap.size ≤ _ by omega))
                  have HB23 := Lib.hid (below_drewN HB22.out q23)
                  have b1 : (w22.drewN q23).cell? ⟨w13.heap.size, 1, none⟩ = some (.slice B2 m2 e2) := (show w22.cell? _ = _ by rw [blk_cell HGB22.out]; rfl)
                  have hs23 : (w22.drewN q23).heap.size = w22.heap.size := rfl
                  clear HW22 HL22 HPB22 HGB22 HC22 HB22 p1 HPM
                  generalize w22.drewN q23 = w23 at *
                  go_wp2_with (at_builtin; refine wl_app TBB rfl (.tmp 145) (.tmp 147) rfl (.slice A20 (3 + n2) k20) rfl B2 m2 e2 rfl w.heap.size (3 + n2) _ HL23.out.2.1 w23.heap.size vm2 (Reads.of_own HMB23.out.2.1) HMB23.out.one (by omega) (by omega) (by omega) ?q7)
                  case q7 =>
                    intro A24 k24 w24 hown hgr hat
                    have HL24 := Lib.hid (HL23.out.joinD HMB23.out (fun u hu v hv => (HT20.out u hu).dst (show Lain v w12.heap.size w13.heap.size from fun k hk => HLM2.out v hv k hk) (.inl (by omega))) (by decide) hgr hown)
                    have HB24 := Lib.hid (HB23.out.grown hgr (by omega) (fun q hq => by have := HA20.out q hq; omega))
                    have hs24 := hgr.size
                    have HALL := Lib.hid (show ∀ x ∈ [ovr E ++ spareTo E.length 40, E, E] ++ p.msgs ++ p.msgs, x.length ≤ 140737488355288 from fun x hx => by
                      have e1 := HL6.out
                      simp only [List.mem_append, List.mem_cons, List.not_mem_nil, or_false] at hx
                      rcases hx with ((rfl | rfl | rfl) | hx) | hx
                      · rw [List.length_append, length_ovr, length_spareTo]; omega
                      · omega
                      · omega
                      · have := HFM.out.msgs x hx; omega
                      · have := HFM.out.msgs x hx; omega)
                    clear hown hgr hat HL23 HMB23 HB23 b1
                    generalize [ovr E ++ spareTo E.length 40, E, E] ++ p.msgs ++ p.msgs = all at *
                    generalize us20 ++ vm2 = us24 at *
                    go_wp2_with fail
                    refine (Apart_any A24 (3 + n2 + m2) k24 all us24 w24 w.heap.size HL24.out (by omega) HALL.out (by omega)).mono ?_
                    rintro e w25 ⟨rfl, hb⟩
                    have HB25 := Lib.hid (HB24.out.trans hb)
                    clear hb
                    go_wp2_with fail
                    go_ret
                    exact ⟨rfl, HB25.out⟩
  · have heb : (er != 0) = true := by rw [bne_iff_ne]; exact he
    have hE0 : E = [] := by rw [← HEE.out]; unfold enE; rw [HER.out, if_neg he]
    have hn0 : n6 = 0 := by rw [← HL6.out, hE0]; rfl
    clear he
    subst hn0
    go_wp2_with fail
    go_ret
    exact ⟨rfl, HB9.out⟩
end Go.Proofs.YtkmcjjoicpgjfaaDoor
/-
  Sizes of slices that came in: so many elements, each so many bytes. No statement of the seat is proved here.
-/
namespace Go.Sh
open Go Go.ChangeShapes Go.WideShapes Go.ChangeAt Go.RowKit

/-- n elements of k bytes each are within what a program can reach -/
theorem sizedBy {H : Type} {P : Program} {ts : List TypeId} {ds : List (DataW H)} (hsz : ((DataW.weightsEach P ts ds).all fun x => decide (x ≤ reachBytes)) = true) {j : Nat} {t e : TypeId} {d : DataW H} {n k : Nat}
    (h1 : ts[j]? = some t) (h2 : ds[j]? = some d) (ht : P.underlying t = some (.slice e)) (hb : k ≤ P.bytesOf e) (hd : HasLen d n) : n * k ≤ 140737488351232 := by
  rcases hd with ⟨_, rfl⟩ | ⟨es, sp, rfl, hl⟩
  · omega
  · have := sized_slice hsz h1 h2 ht
    have h3 : n * k ≤ (es.length + sp.length) * P.bytesOf e := Nat.mul_le_mul (by omega) hb
    simp only [reachBytes] at this
    omega
end Go.Sh
/-
  Nodes and stops among the arguments. No statement of the seat is proved here.
-/
namespace Go.Proofs.YtkmcjjoicpgjfaaDoor
open Go Go.RowKit Go.Sh Go.ChangeShapes Go.WideShapes Go.ChangeAt

set_option maxRecDepth 100000 in
/-- nodes that came in -/
theorem openNodes {H : Type} {enc : TypeId × Value → H} {W : World} {b0 : Nat} {r : Reach} {v : Value} {d : DataW H} {p : List MemPlace}
    (hok : Value.okWide Tryd.prog W r b0 150 v) (h : DataW.Trod enc Tryd.prog W 0 (fun _ => true) true 150 v d p) : ∃ (A : Option Addr) (n c : Nat) (hs : List Hp), v = .slice A n c ∧ (∀ h ∈ hs, h.OK) ∧ RR W W.heap.size 66 A n (hs.map Hp.node) ∧ n ≤ c ∧ HasLen d n := by
  obtain ⟨A, n, c, rfl⟩ := okWide_slice Tryd.underlying150 hok
  obtain ⟨fuel, hf⟩ := h
  rcases Go.Deep.open_slice Tryd.underlying150 hf with ⟨hcs, hx⟩ | ⟨a, n', c', m, q, D, Pl, hcs, _, hl, _, hm, hx, hi⟩
  · simp [Value.cells] at hcs
    obtain ⟨rfl, rfl, rfl⟩ := hcs
    injection hx with hd _
    exact ⟨none, 0, 0, [], rfl, (fun _ h => by cases h), ⟨rfl, (fun _ h => by cases h), .inl rfl⟩, Nat.le_refl _, .inl ⟨hd, rfl⟩⟩
  · simp [Value.cells] at hcs
    obtain ⟨rfl, rfl, rfl⟩ := hcs
    injection hx with hd _
    simp only [if_true] at hm
    subst hm
    have key : ∀ i, i < n → ∃ h : Hp, h.OK ∧ ∀ j v, h.node[j]? = some v → W.cell? (a.add (i * 66 + j)) = some v := by
      intro i hin
      obtain ⟨cs', hc, ht'⟩ := hi i (by omega)
      obtain ⟨nm, id, ks, rfl, hid, hkl, ho, _⟩ := trod_node ht'
      obtain ⟨h, hh⟩ : ∃ h : Hp, h = ⟨nm, id, ks, 0, 0⟩ := ⟨_, rfl⟩
      have hok : h.OK := by rw [hh]; exact ⟨hid, hkl, ho, by show (-9223372036854775808 : Int) ≤ 0 ∧ (0 : Int) ≤ 9223372036854775807; decide, by show (-9223372036854775808 : Int) ≤ 0 ∧ (0 : Int) ≤ 9223372036854775807; decide⟩
      have hnd : h.node = .string nm :: .int .u64 id :: ks := by rw [hh]; rfl
      rw [← hnd] at hc
      refine ⟨h, hok, fun j v hv => ?_⟩
      obtain ⟨_, hcl, hat⟩ := World.cells?_some hc
      have hj : j < 66 := by have := (List.getElem?_eq_some_iff.1 hv).1; rw [Hp.node_len hok] at this; exact this
      rw [cellsNode] at hat
      have := hat j hj
      rw [Go.Deep.add_add, hv] at this
      exact this
    have : Inhabited Hp := ⟨⟨⟨#[]⟩, 0, [], 0, 0⟩⟩
    obtain ⟨f, hfn⟩ := Go.Deep.choose_lt key
    refine ⟨some a, n, m, (List.range n).map f, rfl, fun h hh => ?_, ⟨by simp, fun cs hcs => ?_, ?_⟩, hl, .inr ⟨_, _, hd, by simp⟩⟩
    · obtain ⟨i, hin, rfl⟩ := List.mem_map.1 hh
      exact (hfn i (List.mem_range.1 hin)).1
    · obtain ⟨h, hh, rfl⟩ := List.mem_map.1 hcs
      obtain ⟨i, hin, rfl⟩ := List.mem_map.1 hh
      exact Hp.node_len (hfn i (List.mem_range.1 hin)).1
    · rcases Nat.eq_zero_or_pos n with h0 | h0
      · left
        rw [h0]
        rfl
      · right
        have hx0 := (hfn 0 h0).2 0 _ rfl
        obtain ⟨b, off, spot⟩ := a
        have hspot : spot = none := by simpa [Addr.add] using World.cell?_spot hx0
        subst hspot
        have hlt : b < W.heap.size := by
          have := World.block_lt_of_cell? W _ hx0
          rw [block_of_add] at this
          exact this
        refine ⟨b, off, rfl, hlt, fun i cs hc j v hv => ?_⟩
        have hin : i < n := by have := (List.getElem?_eq_some_iff.1 hc).1; simpa using this
        have e : cs = (f i).node := by simpa [hin] using hc.symm
        rw [e] at hv
        have := (hfn i hin).2 j v hv
        rw [add_mk] at this
        rw [Nat.add_assoc]
        exact this

set_option maxRecDepth 100000 in
theorem cellsStop : Tryd.prog.cellsOf 66 = 3 := by kernel_rfl
set_option maxRecDepth 100000 in
theorem trod_stop {H : Type} {enc : TypeId × Value → H} {W : World} {base : Nat} {spare : Nat → Bool} {held : Bool} {fuel : Nat} {x : DataW H × List MemPlace} {cs : List Value} (h : DataW.trod enc Tryd.prog W base spare held fuel 66 cs = some x) : ∃ s : Sp, s.OK ∧ cs = s.cells := by
  obtain ⟨xs, q, _, _, hl, hxl, hf⟩ := DataW.trod_struct Tryd.underlying66 h
  rw [cellsStop] at hl
  match cs, hl with
  | [a, b, c], _ =>
    have h0 : DataW.trod enc Tryd.prog W base spare held q 9 (List.take (Tryd.prog.cellsOf 9) (List.drop 0 [a, b, c])) = xs[0]? := hf 0 _ rfl
    have h1 : DataW.trod enc Tryd.prog W base spare held q 3 (List.take (Tryd.prog.cellsOf 3) (List.drop 1 [a, b, c])) = xs[1]? := hf 1 _ rfl
    have h2 : DataW.trod enc Tryd.prog W base spare held q 3 (List.take (Tryd.prog.cellsOf 3) (List.drop 2 [a, b, c])) = xs[2]? := hf 2 _ rfl
    have hxs : xs.length = 3 := hxl
    simp only [cellsS, cellsI, List.drop_zero, List.drop_succ_cons, List.take_succ_cons, List.take_zero] at h0 h1 h2
    rw [List.getElem?_eq_getElem (by omega)] at h0 h1 h2
    obtain ⟨nm, e0, _, _⟩ := DataW.trod_string Tryd.underlying9 h0
    obtain ⟨dl, e1, _, w1⟩ := DataW.trod_int Tryd.underlying3 h1
    obtain ⟨fl, e2, _, w2⟩ := DataW.trod_int Tryd.underlying3 h2
    obtain rfl : a = .string nm := by simpa using e0
    obtain rfl : b = .int .i64 dl := by simpa using e1
    obtain rfl : c = .int .i64 fl := by simpa using e2
    exact ⟨⟨nm, dl, fl⟩, ⟨bounds_i64 w1, bounds_i64 w2⟩, rfl⟩
set_option maxRecDepth 100000 in
/-- stops that came in -/
theorem openStops {H : Type} {enc : TypeId × Value → H} {W : World} {b0 : Nat} {r : Reach} {v : Value} {d : DataW H} {p : List MemPlace}
    (hok : Value.okWide Tryd.prog W r b0 40 v) (h : DataW.Trod enc Tryd.prog W 0 (fun _ => true) true 40 v d p) : ∃ (A : Option Addr) (n c : Nat) (hs : List Sp), v = .slice A n c ∧ (∀ h ∈ hs, h.OK) ∧ RR W W.heap.size 3 A n (hs.map Sp.cells) ∧ n ≤ c ∧ HasLen d n := by
  obtain ⟨A, n, c, rfl⟩ := okWide_slice Tryd.underlying40 hok
  obtain ⟨fuel, hf⟩ := h
  rcases Go.Deep.open_slice Tryd.underlying40 hf with ⟨hcs, hx⟩ | ⟨a, n', c', m, q, D, Pl, hcs, _, hl, _, hm, hx, hi⟩
  · simp [Value.cells] at hcs
    obtain ⟨rfl, rfl, rfl⟩ := hcs
    injection hx with hd _
    exact ⟨none, 0, 0, [], rfl, (fun _ h => by cases h), ⟨rfl, (fun _ h => by cases h), .inl rfl⟩, Nat.le_refl _, .inl ⟨hd, rfl⟩⟩
  · simp [Value.cells] at hcs
    obtain ⟨rfl, rfl, rfl⟩ := hcs
    injection hx with hd _
    simp only [if_true] at hm
    subst hm
    have key : ∀ i, i < n → ∃ h : Sp, h.OK ∧ ∀ j v, h.cells[j]? = some v → W.cell? (a.add (i * 3 + j)) = some v := by
      intro i hin
      obtain ⟨cs', hc, ht'⟩ := hi i (by omega)
      obtain ⟨h, hok, rfl⟩ := trod_stop ht'
      refine ⟨h, hok, fun j v hv => ?_⟩
      obtain ⟨_, hcl, hat⟩ := World.cells?_some hc
      have hj : j < 3 := by have := (List.getElem?_eq_some_iff.1 hv).1; exact this
      rw [cellsStop] at hat
      have := hat j hj
      rw [Go.Deep.add_add, hv] at this
      exact this
    have : Inhabited Sp := ⟨⟨⟨#[]⟩, 0, 0⟩⟩
    obtain ⟨f, hfn⟩ := Go.Deep.choose_lt key
    refine ⟨some a, n, m, (List.range n).map f, rfl, fun h hh => ?_, ⟨by simp, fun cs hcs => ?_, ?_⟩, hl, .inr ⟨_, _, hd, by simp⟩⟩
    · obtain ⟨i, hin, rfl⟩ := List.mem_map.1 hh
      exact (hfn i (List.mem_range.1 hin)).1
    · obtain ⟨h, hh, rfl⟩ := List.mem_map.1 hcs
      obtain ⟨i, hin, rfl⟩ := List.mem_map.1 hh
      exact rfl
    · rcases Nat.eq_zero_or_pos n with h0 | h0
      · left
        rw [h0]
        rfl
      · right
        have hx0 := (hfn 0 h0).2 0 _ rfl
        obtain ⟨b, off, spot⟩ := a
        have hspot : spot = none := by simpa [Addr.add] using World.cell?_spot hx0
        subst hspot
        have hlt : b < W.heap.size := by
          have := World.block_lt_of_cell? W _ hx0
          rw [block_of_add] at this
          exact this
        refine ⟨b, off, rfl, hlt, fun i cs hc j v hv => ?_⟩
        have hin : i < n := by have := (List.getElem?_eq_some_iff.1 hc).1; simpa using this
        have e : cs = (f i).cells := by simpa [hin] using hc.symm
        rw [e] at hv
        have := (hfn i hin).2 j v hv
        rw [add_mk] at this
        rw [Nat.add_assoc]
        exact this

end Go.Proofs.YtkmcjjoicpgjfaaDoor
/-
  A slice that came in, of whatever elements: its rows, and what the reader says of each. No statement of the seat is proved here.
-/
namespace Go.Proofs.YtkmcjjoicpgjfaaDoor
open Go Go.RowKit Go.Sh Go.ChangeShapes Go.WideShapes Go.ChangeAt

section
variable {H : Type} {enc : TypeId × Value → H} {W : World}
/-- what the data of a slice of n elements of type e says: each element's cells were read -/
def Rowed (enc : TypeId × Value → H) (W : World) (e : TypeId) (d : DataW H) (n : Nat) (css : List (List Value)) : Prop :=
  (d = .nil ∧ n = 0) ∨ ∃ es sp : List (DataW H), d = .slice es sp ∧ es.length = n ∧ ∀ (i : Nat) (cs : List Value), css[i]? = some cs → ∃ (q : Nat) (y : DataW H × List MemPlace), DataW.trod enc Tryd.prog W 0 (fun _ => true) true q e cs = some y ∧ es[i]? = some y.1
theorem Rowed.has {e : TypeId} {d : DataW H} {n : Nat} {css : List (List Value)} (h : Rowed enc W e d n css) : HasLen d n := by
  rcases h with h | ⟨es, sp, h1, h2, _⟩
  · exact .inl h
  · exact .inr ⟨es, sp, h1, h2⟩
set_option maxRecDepth 100000 in
theorem open_rows {t e : TypeId} {size fuel : Nat} {v : Value} {y : DataW H × List MemPlace} (ht : Tryd.prog.underlying t = some (.slice e)) (hs : Tryd.prog.cellsOf e = size) (h0 : 0 < size)
    (hf : DataW.trod enc Tryd.prog W 0 (fun _ => true) true fuel t [v] = some y) :
    ∃ A n c css, v = .slice A n c ∧ RR W W.heap.size size A n css ∧ n ≤ c ∧ Rowed enc W e y.1 n css := by
  rcases Go.Deep.open_slice ht hf with ⟨hcs, hx⟩ | ⟨a, n, c, m, q, D, Pl, hcs, _, hl, _, hm, hx, hi⟩
  · obtain rfl : v = .slice none 0 0 := by simpa using hcs
    subst hx
    exact ⟨none, 0, 0, [], rfl, ⟨rfl, (fun _ h => by cases h), .inl rfl⟩, Nat.le_refl _, .inl ⟨rfl, rfl⟩⟩
  · obtain rfl : v = .slice (some a) n c := by simpa using hcs
    subst hx
    simp only [if_true] at hm
    subst hm
    have key : ∀ i, i < n → ∃ cs : List Value, cs.length = size ∧ (∀ j v, cs[j]? = some v → W.cell? (a.add (i * size + j)) = some v) ∧ DataW.trod enc Tryd.prog W 0 (fun _ => true) true q e cs = some (D i, Pl i) := by
      intro i hin
      obtain ⟨cs', hc, ht'⟩ := hi i (by omega)
      rw [hs] at hc
      obtain ⟨_, hcl, hat⟩ := World.cells?_some hc
      refine ⟨cs', hcl, fun j v hv => ?_, ht'⟩
      have hj : j < size := by have := (List.getElem?_eq_some_iff.1 hv).1; omega
      have := hat j hj
      rw [Go.Deep.add_add, hv] at this
      exact this
    obtain ⟨f, hfn⟩ := Go.Deep.choose_lt key
    refine ⟨some a, n, m, (List.range n).map f, rfl, ⟨by simp, fun cs hcs => ?_, ?_⟩, hl, .inr ⟨_, _, rfl, by simp, fun i cs hc => ?_⟩⟩
    · obtain ⟨i, hin, rfl⟩ := List.mem_map.1 hcs
      exact (hfn i (List.mem_range.1 hin)).1
    · rcases Nat.eq_zero_or_pos n with hn | hn
      · left
        rw [hn]
        rfl
      · right
        obtain ⟨hl0, hx0, _⟩ := hfn 0 hn
        have hx0 := hx0 0 _ (List.getElem?_eq_getElem (by omega))
        obtain ⟨b, off, spot⟩ := a
        have hspot : spot = none := by simpa [Addr.add] using World.cell?_spot hx0
        subst hspot
        have hlt : b < W.heap.size := by
          have := World.block_lt_of_cell? W _ hx0
          rw [block_of_add] at this
          exact this
        refine ⟨b, off, rfl, hlt, fun i cs hc j v hv => ?_⟩
        have hin : i < n := by have := (List.getElem?_eq_some_iff.1 hc).1; simpa using this
        have e : cs = f i := by simpa [hin] using hc.symm
        rw [e] at hv
        have := (hfn i hin).2.1 j v hv
        rw [add_mk] at this
        rw [Nat.add_assoc]
        exact this
    · have hin : i < n := by have := (List.getElem?_eq_some_iff.1 hc).1; simpa using this
      have e : cs = f i := by simpa [hin] using hc.symm
      exact ⟨q, (D i, Pl i), by rw [e]; exact (hfn i hin).2.2, by simp [hin]⟩
end
end Go.Proofs.YtkmcjjoicpgjfaaDoor
/-
  The elements of a program that came in: instructions, lists of bytes, routes, sends. No statement of the seat is proved here.
-/
namespace Go.Proofs.YtkmcjjoicpgjfaaDoor
open Go Go.RowKit Go.Sh Go.ChangeShapes Go.WideShapes Go.ChangeAt

theorem rows_map {α : Type} (f : α → List Value) : ∀ css : List (List Value), (∀ cs ∈ css, ∃ x, cs = f x) → ∃ xs : List α, css = xs.map f
  | [], _ => ⟨[], rfl⟩
  | c :: css, h => by
    obtain ⟨x, hx⟩ := h c (by simp)
    obtain ⟨xs, hxs⟩ := rows_map f css fun cs hcs => h cs (by simp [hcs])
    exact ⟨x :: xs, by rw [List.map_cons, ← hx, ← hxs]⟩
section
variable {H : Type} {enc : TypeId × Value → H} {W : World} {base : Nat} {spare : Nat → Bool} {held : Bool} {fuel : Nat} {x : DataW H × List MemPlace}
set_option maxRecDepth 100000 in
theorem cellsIns : Tryd.prog.cellsOf 33 = 3 := by kernel_rfl
set_option maxRecDepth 100000 in
theorem cellsSpec : Tryd.prog.cellsOf 43 = 3 := by kernel_rfl
set_option maxRecDepth 100000 in
theorem cellsLs : Tryd.prog.cellsOf 41 = 1 := by kernel_rfl
set_option maxRecDepth 100000 in
theorem trod_ins {cs : List Value} (h : DataW.trod enc Tryd.prog W base spare held fuel 33 cs = some x) : ∃ i : Ins, cs = i.cells := by
  obtain ⟨xs, q, _, _, hl, hxl, hf⟩ := DataW.trod_struct Tryd.underlying33 h
  rw [cellsIns] at hl
  match cs, hl with
  | [a, b, c], _ =>
    have h0 : DataW.trod enc Tryd.prog W base spare held q 5 (List.take (Tryd.prog.cellsOf 5) (List.drop 0 [a, b, c])) = xs[0]? := hf 0 _ rfl
    have h1 : DataW.trod enc Tryd.prog W base spare held q 3 (List.take (Tryd.prog.cellsOf 3) (List.drop 1 [a, b, c])) = xs[1]? := hf 1 _ rfl
    have h2 : DataW.trod enc Tryd.prog W base spare held q 3 (List.take (Tryd.prog.cellsOf 3) (List.drop 2 [a, b, c])) = xs[2]? := hf 2 _ rfl
    have hxs : xs.length = 3 := hxl
    simp only [cells1b, cellsI, List.drop_zero, List.drop_succ_cons, List.take_succ_cons, List.take_zero] at h0 h1 h2
    rw [List.getElem?_eq_getElem (by omega)] at h0 h1 h2
    obtain ⟨op, e0, o1, o2⟩ := trod_u8 h0
    obtain ⟨dl, e1, _, w1⟩ := DataW.trod_int Tryd.underlying3 h1
    obtain ⟨fl, e2, _, w2⟩ := DataW.trod_int Tryd.underlying3 h2
    obtain rfl : b = .int .i64 dl := by simpa using e1
    obtain rfl : c = .int .i64 fl := by simpa using e2
    refine ⟨⟨UInt8.ofNat op.toNat, dl, fl⟩, ?_⟩
    rw [e0, Ins.cells]
    have : (((UInt8.ofNat op.toNat).toNat : Nat) : Int) = op := by
      rw [UInt8.toNat_ofNat']
      omega
    rw [this]
/-- numbers in a cell -/
theorem openIc {fuel : Nat} {v : Value} {y : DataW H × List MemPlace} (hf : DataW.trod enc Tryd.prog W 0 (fun _ => true) true fuel 41 [v] = some y) :
    ∃ A n c l, v = .slice A n c ∧ RI W W.heap.size A n l ∧ n ≤ c ∧ HasLen y.1 n := by
  obtain ⟨A, n, c, css, rfl, hr, hc, hd⟩ := open_rows (size := 1) Tryd.underlying41 cellsI (by decide) hf
  have hel : ∀ cs ∈ css, ∃ z : Int, cs = [.int .i64 z] ∧ -9223372036854775808 ≤ z ∧ z ≤ 9223372036854775807 := fun cs hcs => by
    obtain ⟨i, hi, rfl⟩ := List.mem_iff_getElem.1 hcs
    rcases hd with ⟨_, h0⟩ | ⟨es, sp, _, _, hel⟩
    · have := hr.len
      omega
    · obtain ⟨q, y2, ht, _⟩ := hel i _ (List.getElem?_eq_getElem hi)
      obtain ⟨z, e, _, w⟩ := DataW.trod_int Tryd.underlying3 ht
      exact ⟨z, e, bounds_i64 w⟩
  obtain ⟨zs, hzs⟩ := rows_map (fun z : Int => [Value.int .i64 z]) css fun cs hcs => by obtain ⟨z, e, _⟩ := hel cs hcs; exact ⟨z, e⟩
  have hflat : css.flatten = iv zs := by
    rw [hzs]
    clear hzs
    induction zs with
    | nil => rfl
    | cons z zs ih => simp [iv] at ih ⊢; exact ih
  have hrd := RR.reads hr (by decide)
  rw [hflat] at hrd
  refine ⟨A, n, c, zs, rfl, ⟨hrd, fun z hz => ?_⟩, hc, hd.has⟩
  obtain ⟨z', e, hb⟩ := hel [.int .i64 z] (by rw [hzs]; exact List.mem_map.2 ⟨z, hz, rfl⟩)
  injection e with e _
  injection e with _ e
  rw [e]
  exact hb
/-- stops in a cell -/
theorem openSc {fuel : Nat} {v : Value} {y : DataW H × List MemPlace} (hf : DataW.trod enc Tryd.prog W 0 (fun _ => true) true fuel 40 [v] = some y) :
    ∃ (A : Option Addr) (n c : Nat) (ss : List Sp), v = .slice A n c ∧ RR W W.heap.size 3 A n (ss.map Sp.cells) ∧ n ≤ c ∧ HasLen y.1 n := by
  obtain ⟨A, n, c, css, rfl, hr, hc, hd⟩ := open_rows (size := 3) Tryd.underlying40 cellsStop (by decide) hf
  have hel : ∀ cs ∈ css, ∃ s : Sp, cs = s.cells := fun cs hcs => by
    obtain ⟨i, hi, rfl⟩ := List.mem_iff_getElem.1 hcs
    rcases hd with ⟨_, h0⟩ | ⟨es, sp, _, _, hel⟩
    · have := hr.len
      omega
    · obtain ⟨q, y2, ht, _⟩ := hel i _ (List.getElem?_eq_getElem hi)
      obtain ⟨s, _, e⟩ := trod_stop ht
      exact ⟨s, e⟩
  obtain ⟨ss, rfl⟩ := rows_map Sp.cells css hel
  exact ⟨A, n, c, ss, rfl, hr, hc, hd.has⟩
/-- the data of rows of rows: how long each is -/
def HasRows (d : DataW H) (ls : List Nat) : Prop := (d = .nil ∧ ls = []) ∨ ∃ es sp : List (DataW H), d = .slice es sp ∧ es.length = ls.length ∧ ∀ i, i < ls.length → ∃ di, es[i]? = some di ∧ HasLen di (ls.getD i 0)
set_option maxRecDepth 100000 in
theorem openRts {fuel : Nat} {v : Value} {y : DataW H × List MemPlace} (hf : DataW.trod enc Tryd.prog W 0 (fun _ => true) true fuel 27 [v] = some y) :
    ∃ (A : Option Addr) (n c : Nat) (rs : List (List Sp)), v = .slice A n c ∧ RRt W W.heap.size A n rs ∧ n ≤ c ∧ HasRows y.1 (rs.map List.length) := by
  obtain ⟨A, n, c, css, rfl, hr, hc, hd⟩ := open_rows (size := 1) Tryd.underlying27 (by kernel_rfl) (by decide) hf
  rcases hd with ⟨hd, rfl⟩ | ⟨es, sp, hd, hel, hi⟩
  · have : css = [] := List.eq_nil_of_length_eq_zero hr.len
    subst this
    exact ⟨A, 0, c, [], rfl, ⟨rfl, [], RR.reads hr (by decide), fun i hi => absurd hi (Nat.not_lt_zero _)⟩, hc, .inl ⟨hd, rfl⟩⟩
  · have hcl := hr.len
    have key : ∀ i, i < n → ∃ x : (Option Addr × Nat × Nat) × List Sp, css[i]? = some [.slice x.1.1 x.1.2.1 x.1.2.2] ∧ x.1.2.1 ≤ x.1.2.2 ∧ RR W W.heap.size 3 x.1.1 x.1.2.1 (x.2.map Sp.cells) ∧ ∃ di, es[i]? = some di ∧ HasLen di x.2.length := by
      intro i hin
      have hci := List.getElem?_eq_getElem (l := css) (i := i) (by omega)
      obtain ⟨q, y2, ht, he⟩ := hi i _ hci
      have hl1 := hr.2.1 _ (List.mem_of_getElem? hci)
      match hcs : css[i]'(by omega), hl1 with
      | [u], _ =>
        rw [hcs] at ht
        obtain ⟨Ai, ni, ci, ss, rfl, h1, h2, h3⟩ := openSc ht
        have hsl : ss.length = ni := by have := h1.len; rw [List.length_map] at this; exact this
        exact ⟨⟨⟨Ai, ni, ci⟩, ss⟩, by rw [hci, hcs], h2, h1, _, he, by rw [hsl]; exact h3⟩
    have : Inhabited ((Option Addr × Nat × Nat) × List Sp) := ⟨⟨⟨none, 0, 0⟩, []⟩⟩
    obtain ⟨f, hfn⟩ := Go.Deep.choose_lt key
    have hrat : ∀ i, i < n → rat ((List.range n).map fun i => (f i).2) i = (f i).2 := fun i hin => by simp [rat, hin]
    have hflat : ∀ (l : List (List Value)), (∀ cs ∈ l, cs.length = 1) → ∀ i u, l[i]? = some [u] → l.flatten[i]? = some u := fun l hl i u hu => by
      have := flat_at hl i [u] hu 0 u rfl
      simpa using this
    refine ⟨A, n, c, (List.range n).map fun i => (f i).2, rfl, ⟨by simp, css.flatten, RR.reads hr (by decide), fun i hin => ?_⟩, hc, .inr ⟨es, sp, hd, by simp [hel], fun i hin => ?_⟩⟩
    · obtain ⟨h1, h2, h3, _⟩ := hfn i hin
      rw [hrat i hin]
      exact ⟨_, _, _, hflat css hr.2.1 i _ h1, h2, h3⟩
    · have hin' : i < n := by simpa using hin
      obtain ⟨_, _, _, di, h4, h5⟩ := hfn i hin'
      refine ⟨di, h4, ?_⟩
      simpa [hin'] using h5
/-- the data of a send: how long its routes are -/
def HasSnd (d : DataW H) (n : Nat) : Prop := ∃ d0 d1 d2, d = .agg [d0, d1, d2] ∧ HasLen d1 n
set_option maxRecDepth 100000 in
theorem trod_spec {fuel : Nat} {cs : List Value} {y : DataW H × List MemPlace} (h : DataW.trod enc Tryd.prog W 0 (fun _ => true) true fuel 43 cs = some y) :
    ∃ (m : Int) (A : Option Addr) (n c : Nat) (l : List Int) (b : Int), cs = [.int .i64 m, .slice A n c, .int .i64 b] ∧ RI W W.heap.size A n l ∧ n ≤ c ∧ HasSnd y.1 n := by
  obtain ⟨ys, q, _, hag, hl, hyl, hf⟩ := DataW.trod_struct Tryd.underlying43 h
  rw [cellsSpec] at hl
  have hys : ys.length = 3 := hyl
  match cs, hl, ys, hys with
  | [v0, v1, v2], _, [y0, y1, y2], _ =>
    have t0 : DataW.trod enc Tryd.prog W 0 (fun _ => true) true q 3 [v0] = some y0 := by
      have h := hf 0 _ rfl
      simpa [cellsI] using h
    have t1 : DataW.trod enc Tryd.prog W 0 (fun _ => true) true q 41 [v1] = some y1 := by
      have h := hf 1 _ rfl
      simpa [cellsLs] using h
    have t2 : DataW.trod enc Tryd.prog W 0 (fun _ => true) true q 3 [v2] = some y2 := by
      have h := hf 2 _ rfl
      simpa [cellsI] using h
    obtain ⟨m, e0, _, _⟩ := DataW.trod_int Tryd.underlying3 t0
    obtain ⟨A, n, c, l, rfl, h1, h2, h3⟩ := openIc t1
    obtain ⟨b, e2, _, _⟩ := DataW.trod_int Tryd.underlying3 t2
    obtain rfl : v0 = .int .i64 m := by simpa using e0
    obtain rfl : v2 = .int .i64 b := by simpa using e2
    exact ⟨m, A, n, c, l, b, rfl, h1, h2, y0.1, y1.1, y2.1, by rw [hag]; rfl, h3⟩
def HasSnds (d : DataW H) (ls : List Nat) : Prop := (d = .nil ∧ ls = []) ∨ ∃ es sp : List (DataW H), d = .slice es sp ∧ es.length = ls.length ∧ ∀ i, i < ls.length → ∃ di, es[i]? = some di ∧ HasSnd di (ls.getD i 0)
set_option maxRecDepth 100000 in
theorem openSnds {fuel : Nat} {v : Value} {y : DataW H × List MemPlace} (hf : DataW.trod enc Tryd.prog W 0 (fun _ => true) true fuel 28 [v] = some y) :
    ∃ (A : Option Addr) (n c : Nat) (ss : List Snd), v = .slice A n c ∧ RSn W W.heap.size A n ss ∧ n ≤ c ∧ HasSnds y.1 (ss.map fun s => s.rts.length) := by
  obtain ⟨A, n, c, css, rfl, hr, hc, hd⟩ := open_rows (size := 3) Tryd.underlying28 cellsSpec (by decide) hf
  rcases hd with ⟨hd, rfl⟩ | ⟨es, sp, hd, hel, hi⟩
  · have : css = [] := List.eq_nil_of_length_eq_zero hr.len
    subst this
    exact ⟨A, 0, c, [], rfl, ⟨rfl, [], hr, fun i hi => absurd hi (Nat.not_lt_zero _)⟩, hc, .inl ⟨hd, rfl⟩⟩
  · have hcl := hr.len
    have key : ∀ i, i < n → ∃ x : (Option Addr × Nat × Nat) × Snd, css[i]? = some [.int .i64 x.2.msg, .slice x.1.1 x.1.2.1 x.1.2.2, .int .i64 x.2.blk] ∧ x.1.2.1 ≤ x.1.2.2 ∧ RI W W.heap.size x.1.1 x.1.2.1 x.2.rts ∧ ∃ di, es[i]? = some di ∧ HasSnd di x.2.rts.length := by
      intro i hin
      have hci := List.getElem?_eq_getElem (l := css) (i := i) (by omega)
      obtain ⟨q, y2, ht, he⟩ := hi i _ hci
      obtain ⟨m, Ai, ni, ci, l, b, hcs, h1, h2, h3⟩ := trod_spec ht
      exact ⟨⟨⟨Ai, ni, ci⟩, ⟨m, l, b⟩⟩, by rw [hci, hcs], h2, h1, _, he, by rw [h1.len]; exact h3⟩
    have : Inhabited ((Option Addr × Nat × Nat) × Snd) := ⟨⟨⟨none, 0, 0⟩, ⟨0, [], 0⟩⟩⟩
    obtain ⟨f, hfn⟩ := Go.Deep.choose_lt key
    have hdat : ∀ i, i < n → dat ((List.range n).map fun i => (f i).2) i = (f i).2 := fun i hin => by simp [dat, hin]
    refine ⟨A, n, c, (List.range n).map fun i => (f i).2, rfl, ⟨by simp, css, hr, fun i hin => ?_⟩, hc, .inr ⟨es, sp, hd, by simp [hel], fun i hin => ?_⟩⟩
    · obtain ⟨h1, h2, h3, _⟩ := hfn i hin
      rw [hdat i hin]
      exact ⟨_, _, _, h1, h2, h3⟩
    · have hin' : i < n := by simpa using hin
      obtain ⟨_, _, _, di, h4, h5⟩ := hfn i hin'
      refine ⟨di, h4, ?_⟩
      simpa [hin'] using h5
set_option maxRecDepth 100000 in
/-- bytes in a cell -/
theorem openBc {H : Type} {enc : TypeId × Value → H} {P : Program} {W : World} {fuel : Nat} {t e : TypeId} {v : Value} {y : DataW H × List MemPlace} (he : P.underlying t = some (.slice e)) (hu : P.underlying e = some (.int .u8)) (hcu : P.cellsOf e = 1)
    (hf : DataW.trod enc P W 0 (fun _ => true) true fuel t [v] = some y) :
    ∃ A n c l, v = .slice A n c ∧ RB W W.heap.size A n l ∧ n ≤ c ∧ HasLen y.1 n := by
  rcases open_ints he hu hcu hf with ⟨hcs, hx⟩ | ⟨x, l, cc, zs, hcs, _, hll, hmm, hz, hx, hcell, hwz⟩
  · obtain rfl : v = .slice none 0 0 := by simpa using hcs
    subst hx
    exact ⟨none, 0, 0, [], rfl, RB.none_, Nat.le_refl _, .inl ⟨rfl, rfl⟩⟩
  · obtain rfl : v = .slice (some x) l cc := by simpa using hcs
    subst hx
    simp only [if_true] at hz
    have hlen : (toB (zs.take l)).length = l := by simp [toB]; omega
    refine ⟨some x, l, cc, toB (zs.take l), rfl, ⟨by rw [length_bv, hlen]; omega, ?_⟩, hll, .inr ⟨_, _, rfl, by simp [lits]; omega⟩⟩
    rcases Nat.eq_zero_or_pos l with h0 | h0
    · left
      apply List.eq_nil_of_length_eq_zero
      rw [length_bv, hlen, h0]
    refine .inr ⟨x, rfl, ?_, fun j hj => ?_⟩
    · have := hcell 0 (by omega)
      have hb := World.block_lt_of_cell? W _ this
      rw [block_of_add] at hb
      exact hb
    · rw [length_bv, hlen] at hj
      rw [bv_at _ _ (by rw [hlen]; exact hj), hcell j (by omega), bt_toB _ _ (by rw [List.length_take]; omega) (fun q hq => hwz q (List.mem_of_mem_take hq))]
      congr 2
      simp [hj]
set_option maxRecDepth 100000 in
/-- lists of bytes in a cell -/
theorem openMs {fuel : Nat} {v : Value} {y : DataW H × List MemPlace} (hf : DataW.trod enc Tryd.prog W 0 (fun _ => true) true fuel 26 [v] = some y) :
    ∃ (A : Option Addr) (n c : Nat) (ls : List (List UInt8)), v = .slice A n c ∧ RBB W W.heap.size A n ls ∧ n ≤ c ∧ HasRows y.1 (ls.map List.length) := by
  obtain ⟨A, n, c, css, rfl, hr, hc, hd⟩ := open_rows (size := 1) Tryd.underlying26 (by kernel_rfl) (by decide) hf
  rcases hd with ⟨hd, rfl⟩ | ⟨es, sp, hd, hel, hi⟩
  · have : css = [] := List.eq_nil_of_length_eq_zero hr.len
    subst this
    exact ⟨A, 0, c, [], rfl, ⟨rfl, [], RR.reads hr (by decide), fun i hi => absurd hi (Nat.not_lt_zero _)⟩, hc, .inl ⟨hd, rfl⟩⟩
  · have hcl := hr.len
    have key : ∀ i, i < n → ∃ x : (Option Addr × Nat × Nat) × List UInt8, css[i]? = some [.slice x.1.1 x.1.2.1 x.1.2.2] ∧ x.1.2.1 ≤ x.1.2.2 ∧ RB W W.heap.size x.1.1 x.1.2.1 x.2 ∧ ∃ di, es[i]? = some di ∧ HasLen di x.2.length := by
      intro i hin
      have hci := List.getElem?_eq_getElem (l := css) (i := i) (by omega)
      obtain ⟨q, y2, ht, he⟩ := hi i _ hci
      have hl1 := hr.2.1 _ (List.mem_of_getElem? hci)
      match hcs : css[i]'(by omega), hl1 with
      | [u], _ =>
        rw [hcs] at ht
        obtain ⟨Ai, ni, ci, l, rfl, h1, h2, h3⟩ := openBc Tryd.underlying39 Tryd.underlying5 cells1b ht
        exact ⟨⟨⟨Ai, ni, ci⟩, l⟩, by rw [hci, hcs], h2, h1, _, he, by rw [h1.len]; exact h3⟩
    have : Inhabited ((Option Addr × Nat × Nat) × List UInt8) := ⟨⟨⟨none, 0, 0⟩, []⟩⟩
    obtain ⟨f, hfn⟩ := Go.Deep.choose_lt key
    have hlat : ∀ i, i < n → lat ((List.range n).map fun i => (f i).2) i = (f i).2 := fun i hin => by simp [lat, hin]
    have hflat : ∀ (l : List (List Value)), (∀ cs ∈ l, cs.length = 1) → ∀ i u, l[i]? = some [u] → l.flatten[i]? = some u := fun l hl i u hu => by
      have := flat_at hl i [u] hu 0 u rfl
      simpa using this
    refine ⟨A, n, c, (List.range n).map fun i => (f i).2, rfl, ⟨by simp, css.flatten, RR.reads hr (by decide), fun i hin => ?_⟩, hc, .inr ⟨es, sp, hd, by simp [hel], fun i hin => ?_⟩⟩
    · obtain ⟨h1, h2, h3, _⟩ := hfn i hin
      rw [hlat i hin]
      exact ⟨_, _, _, hflat css hr.2.1 i _ h1, h2, h3⟩
    · have hin' : i < n := by simpa using hin
      obtain ⟨_, _, _, di, h4, h5⟩ := hfn i hin'
      refine ⟨di, h4, ?_⟩
      simpa [hin'] using h5
end
end Go.Proofs.YtkmcjjoicpgjfaaDoor
/-
  A program among the arguments. No statement of the seat is proved here.
-/
namespace Go.Proofs.YtkmcjjoicpgjfaaDoor
open Go Go.RowKit Go.Sh Go.ChangeShapes Go.WideShapes Go.ChangeAt

/-- the data of a program: how long its slices are -/
def HasPrg {H : Type} (d : DataW H) (p : Prg) : Prop := ∃ d0 d1 d2 d3 d4 d5 d6 d7, d = .agg [d0, d1, d2, d3, d4, d5, d6, d7] ∧ HasLen d0 p.code.length ∧ HasRows d1 (p.msgs.map List.length) ∧ HasRows d2 (p.rts.map List.length) ∧ HasSnds d3 (p.snds.map fun s => s.rts.length)
/-- a program in memory, but for what its sizes say -/
structure PR0 (w : World) (B : Nat) (d : Pad) (p : Prg) : Prop where
  code : RR w B 3 d.A1 d.n1 (p.code.map Ins.cells)
  msgs : RBB w B d.A2 d.n2 p.msgs
  rts : RRt w B d.A3 d.n3 p.rts
  snds : RSn w B d.A4 d.n4 p.snds
  k1 : d.n1 ≤ d.c1
  k2 : d.n2 ≤ d.c2
  k3 : d.n3 ≤ d.c3
  k4 : d.n4 ≤ d.c4
set_option maxRecDepth 100000 in
theorem cellsPrg : Tryd.prog.cellsOf 30 = 8 := by kernel_rfl
section
variable {H : Type} {enc : TypeId × Value → H} {W : World}
theorem openCode {fuel : Nat} {v : Value} {y : DataW H × List MemPlace} (hf : DataW.trod enc Tryd.prog W 0 (fun _ => true) true fuel 22 [v] = some y) :
    ∃ (A : Option Addr) (n c : Nat) (l : List Ins), v = .slice A n c ∧ RR W W.heap.size 3 A n (l.map Ins.cells) ∧ n ≤ c ∧ HasLen y.1 l.length := by
  obtain ⟨A, n, c, css, rfl, hr, hc, hd⟩ := open_rows (size := 3) Tryd.underlying22 cellsIns (by decide) hf
  have hel : ∀ cs ∈ css, ∃ s : Ins, cs = s.cells := fun cs hcs => by
    obtain ⟨i, hi, rfl⟩ := List.mem_iff_getElem.1 hcs
    rcases hd with ⟨_, h0⟩ | ⟨es, sp, _, _, hel⟩
    · have := hr.len
      omega
    · obtain ⟨q, y2, ht, _⟩ := hel i _ (List.getElem?_eq_getElem hi)
      exact trod_ins ht
  obtain ⟨l, rfl⟩ := rows_map Ins.cells css hel
  have hl : l.length = n := by have := hr.len; rw [List.length_map] at this; exact this
  exact ⟨A, n, c, l, rfl, hr, hc, by rw [hl]; exact hd.has⟩
set_option maxRecDepth 100000 in
theorem openPrg {b0 : Nat} {r : Reach} {v : Value} {d : DataW H} {p : List MemPlace} (hok : Value.okWide Tryd.prog W r b0 30 v) (h : DataW.Trod enc Tryd.prog W 0 (fun _ => true) true 30 v d p) :
    ∃ (d' : Pad) (p' : Prg), v = .agg (pcs d' p') ∧ PR0 W W.heap.size d' p' ∧ HasPrg d p' := by
  obtain ⟨cs, rfl, hsz, _⟩ : ∃ cs, v = .agg cs ∧ cs.size = Tryd.prog.cellsOf 30 ∧ Row.okWide Tryd.prog W r b0 30 cs := by
    simpa [Value.okWide, Tryd.underlying30] using hok
  obtain ⟨fuel, hf⟩ := h
  obtain ⟨ys, q, _, hag, hlen, hyl, hfield⟩ := DataW.trod_struct Tryd.underlying30 hf
  have hys : ys.length = 8 := hyl
  rw [cellsPrg] at hlen
  obtain ⟨l, hl⟩ : ∃ l, (Value.agg cs).cells.toList = l := ⟨_, rfl⟩
  rw [hl] at hlen hfield
  match l, hlen, ys, hys with
  | [v0, v1, v2, v3, v4, v5, v6, v7], _, [y0, y1, y2, y3, y4, y5, y6, y7], _ =>
    have t0 : DataW.trod enc Tryd.prog W 0 (fun _ => true) true q 22 [v0] = some y0 := by
      have h := hfield 0 _ rfl
      simpa [show Tryd.prog.cellsOf 22 = 1 by kernel_rfl] using h
    have t1 : DataW.trod enc Tryd.prog W 0 (fun _ => true) true q 26 [v1] = some y1 := by
      have h := hfield 1 _ rfl
      simpa [show Tryd.prog.cellsOf 26 = 1 by kernel_rfl] using h
    have t2 : DataW.trod enc Tryd.prog W 0 (fun _ => true) true q 27 [v2] = some y2 := by
      have h := hfield 2 _ rfl
      simpa [show Tryd.prog.cellsOf 27 = 1 by kernel_rfl] using h
    have t3 : DataW.trod enc Tryd.prog W 0 (fun _ => true) true q 28 [v3] = some y3 := by
      have h := hfield 3 _ rfl
      simpa [show Tryd.prog.cellsOf 28 = 1 by kernel_rfl] using h
    have t4 : DataW.trod enc Tryd.prog W 0 (fun _ => true) true q 3 [v4] = some y4 := by
      have h := hfield 4 _ rfl
      simpa [cellsI] using h
    have t5 : DataW.trod enc Tryd.prog W 0 (fun _ => true) true q 3 [v5] = some y5 := by
      have h := hfield 5 _ rfl
      simpa [cellsI] using h
    have t6 : DataW.trod enc Tryd.prog W 0 (fun _ => true) true q 3 [v6] = some y6 := by
      have h := hfield 6 _ rfl
      simpa [cellsI] using h
    have t7 : DataW.trod enc Tryd.prog W 0 (fun _ => true) true q 3 [v7] = some y7 := by
      have h := hfield 7 _ rfl
      simpa [cellsI] using h
    obtain ⟨A1, n1, c1, l1, rfl, a1, a2, a3⟩ := openCode t0
    obtain ⟨A2, n2, c2, l2, rfl, b1, b2, b3⟩ := openMs t1
    obtain ⟨A3, n3, c3, l3, rfl, g1, g2, g3⟩ := openRts t2
    obtain ⟨A4, n4, c4, l4, rfl, h1, h2, h3⟩ := openSnds t3
    obtain ⟨z4, e4, _, _⟩ := DataW.trod_int Tryd.underlying3 t4
    obtain ⟨z5, e5, _, _⟩ := DataW.trod_int Tryd.underlying3 t5
    obtain ⟨z6, e6, _, _⟩ := DataW.trod_int Tryd.underlying3 t6
    obtain ⟨z7, e7, _, _⟩ := DataW.trod_int Tryd.underlying3 t7
    simp only [List.cons.injEq, and_true] at e4 e5 e6 e7
    subst e4 e5 e6 e7
    refine ⟨⟨A1, n1, c1, A2, n2, c2, A3, n3, c3, A4, n4, c4⟩, ⟨l1, l2, l3, l4, z4, z5, z6, z7⟩, ?_, ⟨a1, b1, g1, h1, a2, b2, g2, h2⟩, y0.1, y1.1, y2.1, y3.1, y4.1, y5.1, y6.1, y7.1, ?_, a3, b3, g3, h3⟩
    · have e' : cs.toList = [.slice A1 n1 c1, .slice A2 n2 c2, .slice A3 n3 c3, .slice A4 n4 c4, .int .i64 z4, .int .i64 z5, .int .i64 z6, .int .i64 z7] := by simpa [Value.cells] using hl
      have : cs = #[.slice A1 n1 c1, .slice A2 n2 c2, .slice A3 n3 c3, .slice A4 n4 c4, .int .i64 z4, .int .i64 z5, .int .i64 z6, .int .i64 z7] := by rw [← e']
      rw [this]
      rfl
    · have := congrArg Prod.fst hag
      exact this
end
end Go.Proofs.YtkmcjjoicpgjfaaDoor
/-
  A slice of instructions among the arguments. No statement of the seat is proved here.
-/
namespace Go.Proofs.YtkmcjjoicpgjfaaDoor
open Go Go.RowKit Go.Sh Go.ChangeShapes Go.WideShapes Go.ChangeAt

set_option maxRecDepth 100000 in
theorem trod_insOK {H : Type} {enc : TypeId × Value → H} {W : World} {base : Nat} {spare : Nat → Bool} {held : Bool} {fuel : Nat} {x : DataW H × List MemPlace} {cs : List Value} (h : DataW.trod enc Tryd.prog W base spare held fuel 33 cs = some x) : ∃ i : Ins, cs = i.cells ∧ i.OK := by
  obtain ⟨xs, q, _, _, hl, hxl, hf⟩ := DataW.trod_struct Tryd.underlying33 h
  rw [cellsIns] at hl
  match cs, hl with
  | [a, b, c], _ =>
    have h0 : DataW.trod enc Tryd.prog W base spare held q 5 (List.take (Tryd.prog.cellsOf 5) (List.drop 0 [a, b, c])) = xs[0]? := hf 0 _ rfl
    have h1 : DataW.trod enc Tryd.prog W base spare held q 3 (List.take (Tryd.prog.cellsOf 3) (List.drop 1 [a, b, c])) = xs[1]? := hf 1 _ rfl
    have h2 : DataW.trod enc Tryd.prog W base spare held q 3 (List.take (Tryd.prog.cellsOf 3) (List.drop 2 [a, b, c])) = xs[2]? := hf 2 _ rfl
    have hxs : xs.length = 3 := hxl
    simp only [cells1b, cellsI, List.drop_zero, List.drop_succ_cons, List.take_succ_cons, List.take_zero] at h0 h1 h2
    rw [List.getElem?_eq_getElem (by omega)] at h0 h1 h2
    obtain ⟨op, e0, o1, o2⟩ := trod_u8 h0
    obtain ⟨dl, e1, _, w1⟩ := DataW.trod_int Tryd.underlying3 h1
    obtain ⟨fl, e2, _, w2⟩ := DataW.trod_int Tryd.underlying3 h2
    obtain rfl : b = .int .i64 dl := by simpa using e1
    obtain rfl : c = .int .i64 fl := by simpa using e2
    refine ⟨⟨UInt8.ofNat op.toNat, dl, fl⟩, ?_, bounds_i64 w1, bounds_i64 w2⟩
    rw [e0, Ins.cells]
    have : (((UInt8.ofNat op.toNat).toNat : Nat) : Int) = op := by
      rw [UInt8.toNat_ofNat']
      omega
    rw [this]
set_option maxRecDepth 100000 in
theorem openInsL {H : Type} {enc : TypeId × Value → H} {W : World} {b0 : Nat} {r : Reach} {v : Value} {d : DataW H} {p : List MemPlace}
    (hok : Value.okWide Tryd.prog W r b0 22 v) (h : DataW.Trod enc Tryd.prog W 0 (fun _ => true) true 22 v d p) : ∃ (A : Option Addr) (n c : Nat) (l : List Ins), v = .slice A n c ∧ (∀ i ∈ l, i.OK) ∧ RR W W.heap.size 3 A n (l.map Ins.cells) ∧ n ≤ c ∧ HasLen d n := by
  obtain ⟨A, n, c, rfl⟩ := okWide_slice Tryd.underlying22 hok
  obtain ⟨fuel, hf⟩ := h
  have hf' : DataW.trod enc Tryd.prog W 0 (fun _ => true) true fuel 22 [.slice A n c] = some (d, p) := hf
  obtain ⟨A', n', c', css, e, hr, hc, hd⟩ := open_rows (size := 3) Tryd.underlying22 cellsIns (by decide) hf'
  injection e with e1 e2 e3
  subst e1 e2 e3
  have hel : ∀ cs ∈ css, ∃ i : Ins, cs = i.cells ∧ i.OK := fun cs hcs => by
    obtain ⟨i, hi, rfl⟩ := List.mem_iff_getElem.1 hcs
    rcases hd with ⟨_, h0⟩ | ⟨es, sp, _, _, hel⟩
    · have := hr.len
      omega
    · obtain ⟨q, y2, ht, _⟩ := hel i _ (List.getElem?_eq_getElem hi)
      exact trod_insOK ht
  obtain ⟨l, hl⟩ := rows_map Ins.cells css fun cs hcs => by obtain ⟨i, e, _⟩ := hel cs hcs; exact ⟨i, e⟩
  refine ⟨A, n, c, l, rfl, fun i hi => ?_, by rw [← hl]; exact hr, hc, hd.has⟩
  obtain ⟨j, e, ho⟩ := hel i.cells (by rw [hl]; exact List.mem_map_of_mem hi)
  simp only [Ins.cells, List.cons.injEq, Value.int.injEq, and_true, true_and] at e
  obtain ⟨_, e2, e3⟩ := e
  exact ⟨by rw [e2]; exact ho.a, by rw [e3]; exact ho.b⟩
end Go.Proofs.YtkmcjjoicpgjfaaDoor
/-
  A program among the arguments, its instructions' numbers within range. No statement of the seat is proved here.
-/
namespace Go.Proofs.YtkmcjjoicpgjfaaDoor
open Go Go.RowKit Go.Sh Go.ChangeShapes Go.WideShapes Go.ChangeAt

section
variable {H : Type} {enc : TypeId × Value → H} {W : World}
theorem openCodeOK {fuel : Nat} {v : Value} {y : DataW H × List MemPlace} (hf : DataW.trod enc Tryd.prog W 0 (fun _ => true) true fuel 22 [v] = some y) :
    ∃ (A : Option Addr) (n c : Nat) (l : List Ins), v = .slice A n c ∧ RR W W.heap.size 3 A n (l.map Ins.cells) ∧ n ≤ c ∧ HasLen y.1 l.length ∧ ∀ i ∈ l, i.OK := by
  obtain ⟨A, n, c, css, rfl, hr, hc, hd⟩ := open_rows (size := 3) Tryd.underlying22 cellsIns (by decide) hf
  have hel : ∀ cs ∈ css, ∃ i : Ins, cs = i.cells ∧ i.OK := fun cs hcs => by
    obtain ⟨i, hi, rfl⟩ := List.mem_iff_getElem.1 hcs
    rcases hd with ⟨_, h0⟩ | ⟨es, sp, _, _, hel⟩
    · have := hr.len
      omega
    · obtain ⟨q, y2, ht, _⟩ := hel i _ (List.getElem?_eq_getElem hi)
      exact trod_insOK ht
  obtain ⟨l, hl⟩ := rows_map Ins.cells css fun cs hcs => by obtain ⟨i, e, _⟩ := hel cs hcs; exact ⟨i, e⟩
  subst hl
  have hll : l.length = n := by have := hr.len; rw [List.length_map] at this; exact this
  refine ⟨A, n, c, l, rfl, hr, hc, by rw [hll]; exact hd.has, fun i hi => ?_⟩
  obtain ⟨j, e, ho⟩ := hel i.cells (List.mem_map_of_mem hi)
  simp only [Ins.cells, List.cons.injEq, Value.int.injEq, and_true, true_and] at e
  obtain ⟨_, e2, e3⟩ := e
  exact ⟨by rw [e2]; exact ho.a, by rw [e3]; exact ho.b⟩
set_option maxRecDepth 100000 in
theorem openPrgOK {b0 : Nat} {r : Reach} {v : Value} {d : DataW H} {p : List MemPlace} (hok : Value.okWide Tryd.prog W r b0 30 v) (h : DataW.Trod enc Tryd.prog W 0 (fun _ => true) true 30 v d p) :
    ∃ (d' : Pad) (p' : Prg), v = .agg (pcs d' p') ∧ PR0 W W.heap.size d' p' ∧ HasPrg d p' ∧ ∀ i ∈ p'.code, i.OK := by
  obtain ⟨cs, rfl, hsz, _⟩ : ∃ cs, v = .agg cs ∧ cs.size = Tryd.prog.cellsOf 30 ∧ Row.okWide Tryd.prog W r b0 30 cs := by
    simpa [Value.okWide, Tryd.underlying30] using hok
  obtain ⟨fuel, hf⟩ := h
  obtain ⟨ys, q, _, hag, hlen, hyl, hfield⟩ := DataW.trod_struct Tryd.underlying30 hf
  have hys : ys.length = 8 := hyl
  rw [cellsPrg] at hlen
  obtain ⟨l, hl⟩ : ∃ l, (Value.agg cs).cells.toList = l := ⟨_, rfl⟩
  rw [hl] at hlen hfield
  match l, hlen, ys, hys with
  | [v0, v1, v2, v3, v4, v5, v6, v7], _, [y0, y1, y2, y3, y4, y5, y6, y7], _ =>
    have t0 : DataW.trod enc Tryd.prog W 0 (fun _ => true) true q 22 [v0] = some y0 := by
      have h := hfield 0 _ rfl
      simpa [show Tryd.prog.cellsOf 22 = 1 by kernel_rfl] using h
    have t1 : DataW.trod enc Tryd.prog W 0 (fun _ => true) true q 26 [v1] = some y1 := by
      have h := hfield 1 _ rfl
      simpa [show Tryd.prog.cellsOf 26 = 1 by kernel_rfl] using h
    have t2 : DataW.trod enc Tryd.prog W 0 (fun _ => true) true q 27 [v2] = some y2 := by
      have h := hfield 2 _ rfl
      simpa [show Tryd.prog.cellsOf 27 = 1 by kernel_rfl] using h
    have t3 : DataW.trod enc Tryd.prog W 0 (fun _ => true) true q 28 [v3] = some y3 := by
      have h := hfield 3 _ rfl
      simpa [show Tryd.prog.cellsOf 28 = 1 by kernel_rfl] using h
    have t4 : DataW.trod enc Tryd.prog W 0 (fun _ => true) true q 3 [v4] = some y4 := by
      have h := hfield 4 _ rfl
      simpa [cellsI] using h
    have t5 : DataW.trod enc Tryd.prog W 0 (fun _ => true) true q 3 [v5] = some y5 := by
      have h := hfield 5 _ rfl
      simpa [cellsI] using h
    have t6 : DataW.trod enc Tryd.prog W 0 (fun _ => true) true q 3 [v6] = some y6 := by
      have h := hfield 6 _ rfl
      simpa [cellsI] using h
    have t7 : DataW.trod enc Tryd.prog W 0 (fun _ => true) true q 3 [v7] = some y7 := by
      have h := hfield 7 _ rfl
      simpa [cellsI] using h
    obtain ⟨A1, n1, c1, l1, rfl, a1, a2, a3, a4⟩ := openCodeOK t0
    obtain ⟨A2, n2, c2, l2, rfl, b1, b2, b3⟩ := openMs t1
    obtain ⟨A3, n3, c3, l3, rfl, g1, g2, g3⟩ := openRts t2
    obtain ⟨A4, n4, c4, l4, rfl, h1, h2, h3⟩ := openSnds t3
    obtain ⟨z4, e4, _, _⟩ := DataW.trod_int Tryd.underlying3 t4
    obtain ⟨z5, e5, _, _⟩ := DataW.trod_int Tryd.underlying3 t5
    obtain ⟨z6, e6, _, _⟩ := DataW.trod_int Tryd.underlying3 t6
    obtain ⟨z7, e7, _, _⟩ := DataW.trod_int Tryd.underlying3 t7
    simp only [List.cons.injEq, and_true] at e4 e5 e6 e7
    subst e4 e5 e6 e7
    refine ⟨⟨A1, n1, c1, A2, n2, c2, A3, n3, c3, A4, n4, c4⟩, ⟨l1, l2, l3, l4, z4, z5, z6, z7⟩, ?_, ⟨a1, b1, g1, h1, a2, b2, g2, h2⟩, ⟨y0.1, y1.1, y2.1, y3.1, y4.1, y5.1, y6.1, y7.1, ?_, a3, b3, g3, h3⟩, a4⟩
    · have e' : cs.toList = [.slice A1 n1 c1, .slice A2 n2 c2, .slice A3 n3 c3, .slice A4 n4 c4, .int .i64 z4, .int .i64 z5, .int .i64 z6, .int .i64 z7] := by simpa [Value.cells] using hl
      have : cs = #[.slice A1 n1 c1, .slice A2 n2 c2, .slice A3 n3 c3, .slice A4 n4 c4, .int .i64 z4, .int .i64 z5, .int .i64 z6, .int .i64 z7] := by rw [← e']
      rw [this]
      rfl
    · have := congrArg Prod.fst hag
      exact this
end
end Go.Proofs.YtkmcjjoicpgjfaaDoor
/-
  What the sizes of an argument say of a program. No statement of the seat is proved here.
-/
namespace Go.Proofs.YtkmcjjoicpgjfaaDoor
open Go Go.RowKit Go.Sh Go.ChangeShapes Go.WideShapes Go.ChangeAt

section
variable {H : Type}
theorem weights_all' {P : Program} {e : TypeId} : ∀ (xs : List (DataW H)) (x : DataW H), x ∈ xs → ∀ n ∈ x.weights P e, n ∈ DataW.weightsAll P e xs := by
  intro xs
  induction xs with
  | nil => intro x hx; cases hx
  | cons y ys ih =>
    intro x hx n hn
    simp only [DataW.weightsAll, List.mem_append]
    rcases List.mem_cons.1 hx with rfl | hx
    · exact .inl hn
    · exact .inr (ih x hx n hn)
theorem w_len {t e : TypeId} (ht : Tryd.prog.underlying t = some (.slice e)) (es sp : List (DataW H)) : (es.length + sp.length) * Tryd.prog.bytesOf e ∈ (DataW.slice es sp).weights Tryd.prog t := by
  simp [DataW.weights, ht]
theorem w_in {t e : TypeId} (ht : Tryd.prog.underlying t = some (.slice e)) {es sp : List (DataW H)} {x : DataW H} (hx : x ∈ es) {n : Nat} (hn : n ∈ x.weights Tryd.prog e) : n ∈ (DataW.slice es sp).weights Tryd.prog t := by
  simp only [DataW.weights, ht, List.mem_cons, List.mem_append]
  exact .inr (.inl (weights_all' es x hx n hn))
/-- a slice's length times an element's bytes is within reach -/
theorem w_has {t e : TypeId} (ht : Tryd.prog.underlying t = some (.slice e)) {d : DataW H} {n b : Nat} (hb : Tryd.prog.bytesOf e = b) (h : HasLen d n) (hall : ∀ x ∈ d.weights Tryd.prog t, x ≤ reachBytes) : n * b ≤ 140737488355328 := by
  rcases h with ⟨_, rfl⟩ | ⟨es, sp, rfl, rfl⟩
  · omega
  · have := hall _ (w_len ht es sp)
    rw [hb, Nat.add_mul] at this
    simp only [reachBytes] at this
    omega
theorem w_rows {t e f : TypeId} (ht : Tryd.prog.underlying t = some (.slice e)) (he : Tryd.prog.underlying e = some (.slice f)) {d : DataW H} {ls : List Nat} {b c : Nat} (hb : Tryd.prog.bytesOf e = b) (hc : Tryd.prog.bytesOf f = c) (h : HasRows d ls) (hall : ∀ x ∈ d.weights Tryd.prog t, x ≤ reachBytes) :
    ls.length * b ≤ 140737488355328 ∧ ∀ n ∈ ls, n * c ≤ 140737488355328 := by
  rcases h with ⟨_, rfl⟩ | ⟨es, sp, rfl, hl, hi⟩
  · exact ⟨by simp, fun n hn => by cases hn⟩
  · refine ⟨w_has ht hb (.inr ⟨es, sp, rfl, hl⟩) hall, fun n hn => ?_⟩
    obtain ⟨i, hin, rfl⟩ := List.getElem_of_mem hn
    obtain ⟨di, hdi, hlen⟩ := hi i hin
    rw [List.getD_eq_getElem?_getD, List.getElem?_eq_getElem hin] at hlen
    exact w_has he hc hlen fun x hx => hall x (w_in ht (List.mem_of_getElem? hdi) hx)
set_option maxRecDepth 100000 in
theorem fit_prg {d : DataW H} {p : Prg} (hd : HasPrg d p) (hall : ∀ x ∈ d.weights Tryd.prog 30, x ≤ reachBytes) : Fit p := by
  obtain ⟨d0, d1, d2, d3, d4, d5, d6, d7, rfl, h0, h1, h2, h3⟩ := hd
  have a0 : ∀ x ∈ d0.weights Tryd.prog 22, x ≤ reachBytes := fun x hx => hall x (by rw [DataW.weights, Tryd.underlying30]; exact DataW.weights_mem_each (j := 0) (t := 22) rfl rfl _ hx)
  have a1 : ∀ x ∈ d1.weights Tryd.prog 26, x ≤ reachBytes := fun x hx => hall x (by rw [DataW.weights, Tryd.underlying30]; exact DataW.weights_mem_each (j := 1) (t := 26) rfl rfl _ hx)
  have a2 : ∀ x ∈ d2.weights Tryd.prog 27, x ≤ reachBytes := fun x hx => hall x (by rw [DataW.weights, Tryd.underlying30]; exact DataW.weights_mem_each (j := 2) (t := 27) rfl rfl _ hx)
  have a3 : ∀ x ∈ d3.weights Tryd.prog 28, x ≤ reachBytes := fun x hx => hall x (by rw [DataW.weights, Tryd.underlying30]; exact DataW.weights_mem_each (j := 3) (t := 28) rfl rfl _ hx)
  have m := w_rows Tryd.underlying26 Tryd.underlying39 (b := 24) (c := 1) (by kernel_rfl) (by kernel_rfl) h1 a1
  have r := w_rows Tryd.underlying27 Tryd.underlying40 (b := 24) (c := 32) (by kernel_rfl) (by kernel_rfl) h2 a2
  rw [List.length_map] at m r
  refine ⟨w_has Tryd.underlying22 (by kernel_rfl) h0 a0, m.1, r.1, ?_, fun l hl => by have := m.2 _ (List.mem_map.2 ⟨l, hl, rfl⟩); omega, fun l hl => r.2 _ (List.mem_map.2 ⟨l, hl, rfl⟩), fun s hs => ?_⟩
  · rcases h3 with ⟨_, hn⟩ | ⟨es, sp, rfl, hl, _⟩
    · have : p.snds.length = 0 := by rw [← List.length_map (f := fun s : Snd => s.rts.length), hn]; rfl
      omega
    · rw [List.length_map] at hl
      exact w_has Tryd.underlying28 (by kernel_rfl) (.inr ⟨es, sp, rfl, hl⟩) a3
  · rcases h3 with ⟨_, hn⟩ | ⟨es, sp, rfl, hl, hi⟩
    · have h : s.rts.length ∈ p.snds.map fun s => s.rts.length := List.mem_map.2 ⟨s, hs, rfl⟩
      rw [hn] at h
      cases h
    · obtain ⟨i, hin, rfl⟩ := List.getElem_of_mem hs
      obtain ⟨di, hdi, e0, e1, e2, rfl, hlen⟩ := hi i (by rw [List.length_map]; exact hin)
      rw [List.getD_eq_getElem?_getD, List.getElem?_map, List.getElem?_eq_getElem hin] at hlen
      refine w_has Tryd.underlying41 (by kernel_rfl) hlen fun x hx => a3 x (w_in Tryd.underlying28 (List.mem_of_getElem? hdi) ?_)
      rw [DataW.weights, Tryd.underlying43]
      exact DataW.weights_mem_each (j := 1) (t := 41) rfl rfl _ hx
end
end Go.Proofs.YtkmcjjoicpgjfaaDoor
/-
  A program among the arguments: what is asked of it in memory and in size. No statement of the seat is proved here.
-/
namespace Go.Proofs.YtkmcjjoicpgjfaaDoor
open Go Go.RowKit Go.Sh Go.ChangeShapes Go.WideShapes Go.ChangeAt

theorem sizedPrg {H : Type} {ts : List TypeId} {ds : List (DataW H)} (hsz : ((DataW.weightsEach Tryd.prog ts ds).all fun x => decide (x ≤ reachBytes)) = true) {j : Nat} {d : DataW H} {p : Prg}
    (h1 : ts[j]? = some 30) (h2 : ds[j]? = some d) (hd : HasPrg d p) : Fit p :=
  fit_prg hd fun _ hx => of_decide_eq_true (List.all_eq_true.1 hsz _ (DataW.weights_mem_each h1 h2 _ hx))
theorem PR0.pr {w : World} {B : Nat} {d : Pad} {p : Prg} (h : PR0 w B d p) (hf : Fit p) : PR w B d p := by
  have a1 := h.code.len
  have a2 := h.msgs.len
  have a3 := h.rts.len
  have a4 := h.snds.len
  have f1 := hf.n1
  have f2 := hf.n2
  have f3 := hf.n3
  have f4 := hf.n4
  rw [List.length_map] at a1
  exact ⟨h.code, h.msgs, h.rts, h.snds, h.k1, h.k2, h.k3, h.k4, by omega, by omega, by omega, by omega⟩
end Go.Proofs.YtkmcjjoicpgjfaaDoor
namespace Go.Proofs.YtkmcjjoicpgjfaaDoor.codeKeeps
open Go Go.Sh Go.ChangeShapes Go.WideShapes Go.ChangeAt Go.RowKit
open Go.ChangeMaps (open_string shut_string)

set_option maxRecDepth 100000 in
theorem own : ownKnob Tryd.prog.godebug = none := by kernel_rfl
set_option maxRecDepth 100000 in
theorem laidOut : laidOutB Tryd.prog = true := by kernel_rfl
set_option maxRecDepth 100000 in
theorem gTab : Tryd.prog.globalNamed "internal/strconv.uint64pow10" = some 0 := by kernel_rfl
set_option maxRecDepth 100000 in
theorem gTabType : (Tryd.prog.globals[0]?).map (·.type) = some 141 := by kernel_rfl
set_option maxRecDepth 100000 in
theorem cellsTab : Tryd.prog.cellsOf 141 = 20 := by kernel_rfl
set_option maxRecDepth 100000 in
theorem cellsU64 : Tryd.prog.cellsOf 113 = 1 := by kernel_rfl
/-- what the row's list gives: the table of powers of ten -/
theorem table {W : World} (h : laidMetH Tryd.prog Rows.codeKeepsRow.laid W) : TabOK W.heap.size W :=
  Lib.tabBelow_of_tabIs (Lib.tabIs_of_head (rest := []) gTab gTabType Tryd.underlying141 Tryd.underlying113 cellsU64 cellsTab (laidMet.tail (laidMet.tail h)))
set_option maxRecDepth 100000 in
/-- what the walk gives, for every argument and every world that holds the tables -/
theorem contract (H : Type) (enc : TypeId × Value → H) (W : World) (base : Nat) (args : Array Value) (ds gs : List (DataW H)) (before : List MemPlace)
    (hval0 : ∀ (j : Nat) t v, Tryd.f6.params[j]? = some t → args[j]? = some v → Value.okWide Tryd.prog W .any base t v)
    (hW : DataW.Whole enc Tryd.prog Tryd.f6.params.toList Rows.codeKeepsSpec.vars false W args.toList ds gs before)
    (hsz0 : (DataW.weightsEach Tryd.prog (Tryd.f6.params.toList ++ Rows.codeKeepsSpec.plain.varTypes Tryd.prog) (ds ++ gs)).all (· ≤ reachBytes) = true) (hL : laidMetH Tryd.prog Rows.codeKeepsRow.laid W) :
    Calls Tryd.prog 6 args W fun e W' => ∃ v, e = .returned v ∧ Rows.codeKeepsSpec.post enc Tryd.prog Tryd.f6 false true false false W args v W' := by
  have hval : ∀ (j : Nat) t v, Tryd.f6.params[j]? = some t → args[j]? = some v → Value.okWide Tryd.prog W .any base t v := hval0
  have hsz : (DataW.weightsEach Tryd.prog (Tryd.f6.params.toList ++ Rows.codeKeepsSpec.plain.varTypes Tryd.prog) (ds ++ gs)).all (· ≤ reachBytes) = true := hsz0
  have hW' := hW
  obtain ⟨p, q, hA0, hV, rfl, hfz, hnd⟩ := hW
  have hA : DataW.TrodAll enc Tryd.prog W 0 (fun _ => true) true Tryd.f6.params.toList args.toList ds p := hA0
  rw [Tryd.params6] at hA hval hsz
  obtain ⟨v0, vs0, d0, ds0, p0, q0, hargs, rfl, rfl, h0, r0⟩ := trodAll_cons hA
  obtain ⟨rfl, rfl, rfl⟩ := trodAll_nil r0
  obtain rfl : args = #[v0] := by cases args; simp_all
  obtain ⟨rfl, rfl⟩ := trodVars_none hV
  have k0 := h0
  have lt0 : ∀ x ∈ p0, x.block < W.heap.size := by obtain ⟨m, hm⟩ := k0; exact DataW.trod_lt m _ _ _ hm
  obtain ⟨pd0, pg0, rfl, rp0, hp0, ok0⟩ := openPrgOK (hval 0 30 v0 rfl rfl) h0
  have ft0 : Fit pg0 := sizedPrg hsz (j := 0) rfl rfl hp0
  clear hA0 hval0
  refine (CodeKeeps_walk pd0 pg0 W (rp0.pr ft0) ft0 ok0 (table hL)).mono fun e W' ⟨he, bel⟩ => ?_
  subst he
  exact ⟨_, rfl, _, _, _, [], _, [], hW', trodAll_mk1 (shut_bool Tryd.underlying4 _), (trodAll_cons_mk (Below.trod laidOut (by kernel_rfl) (of_decide_eq_true (by kernel_rfl)) k0 bel lt0) trodAll_mk0), rfl, bel.frame _, fun h => by cases h⟩
set_option maxRecDepth 100000 in
/-- a world for the witness: the tables as the program's own text lays them -/
theorem laid_met (os : Os) : laidMet Tryd.prog Rows.codeKeepsRow.laid ((World.doorLaid Tryd.prog 24 os).forCall (fun _ _ => 0) ⟨#[], #[.agg #[.slice none 0 0, .slice none 0 0, .slice none 0 0, .slice none 0 0, .int .i64 0, .int .i64 0, .int .i64 0, .int .i64 0]], []⟩).memory :=
  laidMet_of_run' 8 (by kernel_rfl) (by kernel_rfl)
set_option maxRecDepth 100000 in
theorem reads (os : Os) {H : Type} (enc : TypeId × Value → H) : ∃ places, DataW.whole enc Tryd.prog ((World.doorLaid Tryd.prog 24 os).forCall (fun _ _ => 0) ⟨#[], #[.agg #[.slice none 0 0, .slice none 0 0, .slice none 0 0, .slice none 0 0, .int .i64 0, .int .i64 0, .int .i64 0, .int .i64 0]], []⟩).memory Tryd.f6.params.toList Rows.codeKeepsSpec.vars false #[.agg #[.slice none 0 0, .slice none 0 0, .slice none 0 0, .slice none 0 0, .int .i64 0, .int .i64 0, .int .i64 0, .int .i64 0]].toList 8 = some ([.agg [.nil, .nil, .nil, .nil, .lit (.int .i64 0), .lit (.int .i64 0), .lit (.int .i64 0), .lit (.int .i64 0)]], [], places) :=
  ⟨[], by kernel_rfl⟩
set_option maxRecDepth 100000 in
theorem lifted (os : Os) (started : os.Started) (H : Type) (enc : TypeId × Value → H) (F : Stop.Interp) :
    ReturnsInHanded {} Tryd.checked os 6 .any ((OpenSpec.ofChange Rows.codeKeepsSpec).preRow enc Tryd.prog Tryd.f6 Rows.codeKeepsRow.domain false Rows.codeKeepsRow.laid) (((OpenSpec.ofChange Rows.codeKeepsSpec).at F).post enc Tryd.prog Tryd.f6 false true false false) := by
  obtain ⟨places, hx⟩ := reads os enc
  refine returnsInHanded_of_row (C := Tryd.checked) (s := OpenSpec.ofChange Rows.codeKeepsSpec) own started (by kernel_rfl) Tryd.func6
    (witness_row_at (enc := enc) (C := Tryd.checked) false (World.doorLaid Tryd.prog 24 os) #[.agg #[.slice none 0 0, .slice none 0 0, .slice none 0 0, .slice none 0 0, .int .i64 0, .int .i64 0, .int .i64 0, .int .i64 0]] rfl (by kernel_rfl) (by kernel_rfl) (by kernel_rfl)
      (OpenSpec.preRow_of_cond 8 hx (by kernel_rfl) (fun k hk => by cases hk) (by kernel_rfl) (laid_met os))) ?_
  intro W base args ds gs before hval hW _ _ hsz hL _ _
  exact contract H enc W base args ds gs before hval hW hsz hL
set_option maxRecDepth 100000 in
theorem said : Rows.CodeKeepsSaid :=
  OpenClaim.holds_of_cond 6 Tryd.f6 rfl rfl rfl rfl rfl rfl rfl ⟨rfl, rfl, rfl, rfl, rfl⟩ rfl rfl rfl rfl rfl (by kernel_rfl) Tryd.func6 (by kernel_rfl)
    (of_decide_eq_true (by kernel_rfl)) (by unfold Func.isWrapper; first | (rw [if_pos (by decide +kernel)]; kernel_rfl) | (rw [if_neg (by decide +kernel)]; exact ⟨rfl, rfl⟩))
    (fun os started H enc _ F => by rw [OpenClaim.pre_eq_preRow]; exact lifted os started H enc F)
set_option maxRecDepth 100000 in
/-- no parameter wants a stand-in; the program's own looks are off -/
theorem plain (f : FuncId) (fn : Func) (hf : Tryd.pinned.checked.prog.funcNamed "shallot/shallotlaw18.CodeKeeps" = some f) (hfn : Tryd.pinned.checked.prog.funcs[f]? = some fn) :
    false = Tryd.pinned.checked.prog.looks [] ∧ ∀ (j : Nat) t, fn.params[j]? = some t → Tryd.pinned.checked.prog.wantsStandIn t = false := by
  obtain rfl : f = 6 := Option.some.inj ((show Tryd.prog.funcNamed "shallot/shallotlaw18.CodeKeeps" = some 6 by kernel_rfl).symm.trans hf) |>.symm
  obtain rfl : fn = Tryd.f6 := (Option.some.inj (Tryd.func6.symm.trans hfn)).symm
  refine ⟨by kernel_rfl, fun j t ht => ?_⟩
  rw [Tryd.params6] at ht
  obtain rfl : t = 30 := by simpa using Array.mem_of_getElem? ht
  exact (show Tryd.prog.wantsStandIn 30 = false by kernel_rfl)
set_option maxRecDepth 100000 in
theorem proved : Rows.CodeKeepsCardSaid :=
  Claim7.holds_tied_plain_at .later [] _ _ _ _ said (fun _ h => by cases h) (by kernel_rfl) (fun _ h => by cases h) codeKeeps_row_tie rfl ⟨rfl, rfl⟩ (by kernel_rfl) rfl plain (by kernel_rfl)
#print axioms proved
end Go.Proofs.YtkmcjjoicpgjfaaDoor.codeKeeps
