/-
  The walk of shallotlaw08.TapeAcks: for every list of acknowledgements, every list of ids and every tick the law returns true and writes nothing that was there. Conditions: the sizes that slices can have.
-/
import Derived.Test.YtcjpfjmmnnfieaaAcks
namespace Go.Proofs.Ytcjpfjmmnnfieaa
open Go Go.RowKit Go.Sh

/-- numbers of 64 bits as cells -/
def uv (l : List Int) : List Value := l.map fun z => .int .u64 z
theorem length_uv (l : List Int) : (uv l).length = l.length := by simp [uv]
theorem uv_at (l : List Int) (k : Nat) (h : k < l.length) : (uv l)[k]? = some (.int .u64 (it l k)) := by simp [uv, it, h]
/-- '.slice A n c' reads as the numbers l of 64 bits and lies below block B -/
def RU (w : World) (B : Nat) (A : Option Addr) (n : Nat) (l : List Int) : Prop := Reads w B 1 A n (uv l)
section
variable {w w' : World} {B n : Nat} {A : Option Addr} {l : List Int}
theorem RU.len (h : RU w B A n l) : l.length = n := by have := h.1; rw [length_uv] at this; omega
theorem RU.at_ {k : Nat} (h : RU w B A n l) (hk : k < n) : ∃ ad, A = some ad ∧ ad.block < B ∧ w.cell? (ad.add k) = some (.int .u64 (it l k)) := by
  obtain ⟨ad, u, e, hb, hx, hc⟩ := Reads.at_ h hk
  rw [uv_at l k (by rw [h.len]; exact hk)] at hx
  obtain rfl := Option.some.inj hx
  exact ⟨ad, e, hb, hc⟩
end
/-- a []uint64 argument -/
theorem openU {H : Type} {enc : TypeId × Value → H} {P : Program} {W : World} {b0 : Nat} {r : Reach} {t e : TypeId} {v : Value} {d : DataW H} {p : List MemPlace} (ht : P.underlying t = some (.slice e)) (he : P.underlying e = some (.int .u64)) (hc : P.cellsOf e = 1)
    (hok : Value.okWide P W r b0 t v) (h : DataW.Trod enc P W 0 (fun _ => true) true t v d p) :
    ∃ A n c l, v = .slice A n c ∧ RU W W.heap.size A n l ∧ HasLen d n := by
  obtain ⟨A, n, c, rfl⟩ := WideShapes.okWide_slice ht hok
  obtain ⟨fuel, hf⟩ := h
  rcases ChangeShapes.open_ints ht he hc hf with ⟨hcs, hx⟩ | ⟨x, n', c', zs, hcs, _, hl, hm, hz, hx, hcell, hwz⟩
  · simp [Value.cells] at hcs
    obtain ⟨rfl, rfl, rfl⟩ := hcs
    injection hx with hd _
    exact ⟨none, 0, 0, [], rfl, Reads.none_, .inl ⟨hd, rfl⟩⟩
  · simp [Value.cells] at hcs
    obtain ⟨rfl, rfl, rfl⟩ := hcs
    injection hx with hd _
    simp only [if_true] at hz
    refine ⟨some x, n, c, zs.take n, rfl, ⟨by rw [length_uv, List.length_take]; omega, ?_⟩, .inr ⟨_, _, hd, by simp [ChangeShapes.lits]; omega⟩⟩
    rcases Nat.eq_zero_or_pos n with h0 | h0
    · left
      rw [h0]
      rfl
    refine .inr ⟨x, rfl, ?_, fun j hj => ?_⟩
    · have := hcell 0 (by omega)
      have hb := World.block_lt_of_cell? W _ this
      rw [block_of_add] at hb
      exact hb
    · rw [length_uv, List.length_take] at hj
      rw [uv_at _ _ (by rw [List.length_take]; exact hj), hcell j (by omega)]
      congr 2
      simp [it, show j < n by omega]

/-- a slice that is read takes so many bytes at most -/
theorem sizedMul {H : Type} {P : Program} {ts : List TypeId} {ds : List (DataW H)} (hsz : ((DataW.weightsEach P ts ds).all fun x => decide (x ≤ reachBytes)) = true) {j : Nat} {t e : TypeId} {d : DataW H} {n k : Nat}
    (h1 : ts[j]? = some t) (h2 : ds[j]? = some d) (ht : P.underlying t = some (.slice e)) (hb : k ≤ P.bytesOf e) (hd : HasLen d n) : n * k ≤ 140737488351232 := by
  rcases hd with ⟨_, rfl⟩ | ⟨es, sp, rfl, hl⟩
  · omega
  · have := sized_slice hsz h1 h2 ht
    have h3 : n * k ≤ (es.length + sp.length) * P.bytesOf e := Nat.mul_le_mul (by omega) hb
    simp only [reachBytes] at this
    omega

set_option maxRecDepth 100000 in
/-- the acknowledgements among the arguments -/
theorem openA {H : Type} {enc : TypeId × Value → H} {W : World} {b0 : Nat} {r : Reach} {v : Value} {d : DataW H} {p : List MemPlace} (hok : Value.okWide Try.prog W r b0 22 v) (h : DataW.Trod enc Try.prog W 0 (fun _ => true) true 22 v d p) :
    ∃ A n c l, v = .slice A n c ∧ RA W W.heap.size A n l ∧ HasLen d n := by
  obtain ⟨A, n, c, rfl, _, hl, hx⟩ := openStructs Try.underlying22 Try.underlying94 (by kernel_rfl) (by kernel_rfl) (by simp) hok h
  rcases Nat.eq_zero_or_pos n with h0 | h0
  · subst h0
    exact ⟨A, 0, c, [], rfl, ⟨Reads.none_, fun a ha => by cases ha⟩, hl⟩
  · obtain ⟨b, off, rfl, hb, hi⟩ := hx h0
    have key : ∀ i, i < n → ∃ x : Int × Int, (-9223372036854775808 ≤ x.1 ∧ x.1 ≤ 9223372036854775807) ∧ W.cell? ⟨b, off + i * 2, none⟩ = some (.int .i64 x.1) ∧ W.cell? ⟨b, off + i * 2 + 1, none⟩ = some (.int .u64 x.2) := by
      intro i hin
      obtain ⟨fuel, hf⟩ := hi i hin
      obtain ⟨x0, y0, c0, t0⟩ := hf 0 _ rfl
      obtain ⟨x1, y1, c1, t1⟩ := hf 1 _ rfl
      obtain ⟨z0, e0, _, w0⟩ := DataW.trod_int Try.underlying3 t0
      obtain ⟨z1, e1, _, w1⟩ := DataW.trod_int Try.underlying30 t1
      simp only [List.cons.injEq, and_true] at e0 e1
      subst e0 e1
      exact ⟨(z0, z1), bounds_i64 w0, c0, c1⟩
    obtain ⟨f, hf⟩ := Go.Deep.choose_lt key
    refine ⟨_, n, c, (List.range n).map f, rfl, ⟨⟨by rw [length_ackv]; simp, .inr ⟨_, rfl, hb, fun j hj => ?_⟩⟩, fun a ha => ?_⟩, hl⟩
    · rw [length_ackv, List.length_map, List.length_range] at hj
      have hlen : ((List.range n).map f).length = n := by simp
      have hjn : j / 2 < n := by omega
      obtain ⟨h0, h1⟩ := ackv_at ((List.range n).map f) (j / 2) (by rw [hlen]; exact hjn)
      have ef : aat ((List.range n).map f) (j / 2) = (f (j / 2)).1 ∧ aid ((List.range n).map f) (j / 2) = (f (j / 2)).2 := by simp [aat, aid, hjn]
      rw [add_mk]
      rcases Nat.mod_two_eq_zero_or_one j with hm | hm
      · have ej : j = j / 2 * 2 := by omega
        rw [← ej] at h0
        rw [h0, ef.1, ← (hf _ hjn).2.1]
        congr 2
        omega
      · have ej : j = j / 2 * 2 + 1 := by omega
        rw [← ej] at h1
        rw [h1, ef.2, ← (hf _ hjn).2.2]
        congr 2
        omega
    · obtain ⟨i, hi, rfl⟩ := List.mem_map.1 ha
      exact (hf i (List.mem_range.1 hi)).1

theorem RA.of_own {w : World} {base c n : Nat} {A : Option Addr} {l : List (Int × Int)} (h : w.ownsRow base 32 2 (.slice A n c) n (ackv l)) (hl : ∀ a ∈ l, -9223372036854775808 ≤ a.1 ∧ a.1 ≤ 9223372036854775807) : RA w w.heap.size A n l := ⟨Reads.of_own h, hl⟩
theorem fix_e : acksE [(5, 1), (3, 1)] 2 = 0 := by decide
theorem fix_no : ((firstTo [(5, 1), (3, 1)] 1 2).2 && decide ((firstTo [(5, 1), (3, 1)] 1 2).1 ≤ 2)) = false := by decide
theorem fix_yes : ((firstTo [(5, 1), (3, 1)] 1 2).2 && decide ((firstTo [(5, 1), (3, 1)] 1 2).1 ≤ 3)) = true := by decide

theorem row_set1 {w : World} {p : Nat} {x : Value} {t : TypeId} {fr : Nat × Nat} (h : w.heap[p]? = some (.cells #[x] t fr)) (v : Value) : (w.setCell ⟨p, 0, none⟩ v).heap[p]? = some (.cells #[v] t fr) := by
  simp [World.setCell, Array.getElem?_modify, h]
theorem grown_setA (w : World) (a : Addr) (v : Value) : w.grownBy (w.setCell a v) (some a.block) :=
  ⟨rfl, rfl, rfl, by simp, fun j _ hj => heap_setCell_other _ _ _ _ (fun e => hj (congrArg some e))⟩
theorem own_farA {w : World} {base e size n p : Nat} {v : Value} {xs : List Value} (h : w.ownsRow base e size v n xs) (hp : p < base) : v.ownBlock = none ∨ v.ownBlock ≠ some p := by
  cases hv : v.ownBlock with
  | none => exact .inl rfl
  | some g =>
    right
    intro he
    have := (h.lt g hv).1
    injection he with he
    omega

set_option maxHeartbeats 1000000 in
theorem TapeAcks_walk (A : Option Addr) (n c : Nat) (l : List (Int × Int)) (A' : Option Addr) (m c' : Nat) (ids : List Int) (now : Int) (w : World) (hr : RA w w.heap.size A n l) (hn : n * 16 ≤ 140737488355328) (hi : RU w w.heap.size A' m ids) (hm : m ≤ 140737488355328) :
    Calls Try.prog 3 #[.slice A n c, .slice A' m c', .int .i64 now] w (LawPost w) := by
  have HR := Lib.hid hr
  have HI := Lib.hid hi
  have HOK := Lib.hid hr.2
  clear hr hi
  go_enter Try.func3, Try.ntmps3
  go_wp2_with fail
  refine (NewAcks_any _ _ _ [(5, 1), (3, 1)] _ (w.heap.size + 1) ⟨Reads.lit w _ (ackv [(5, 1), (3, 1)]) 2 2 rfl _ rfl, by simp⟩ (by simp) (by omega)).mono ?_
  rintro e w1 ⟨A1, m1, c1, rfl, hm1, hown1, hb1⟩
  rw [fix_e, if_pos rfl] at hm1 hown1
  subst hm1
  rw [fix_e]
  have HB1 := Lib.hid (show Below w.heap.size w w1 from ((Below.refl _ _).alloc (Nat.le_refl _) _).trans (hb1.mono (by simp)))
  have HA1 := Lib.hid (RA.of_own hown1 (by simp))
  have hz1 := HB1.out.size
  clear hown1 hb1
  go_wp2_with fail
  have hrow : (w1.alloc (Obj.cells #[Value.slice A1 2 c1] 26)).heap[w1.heap.size]? = some (.cells #[Value.slice A1 2 c1] 26 (0, 0)) := heap_alloc_new w1 _
  have HW := Lib.hid hrow
  have HBa := Lib.hid (HB1.out.alloc HB1.out.size (Obj.cells #[Value.slice A1 2 c1] 26))
  have HAa := Lib.hid (HA1.out.alloc (Nat.le_refl _) (Obj.cells #[Value.slice A1 2 c1] 26))
  have hza : (w1.alloc (Obj.cells #[Value.slice A1 2 c1] 26)).heap.size = w1.heap.size + 1 := by simp
  have HZa := Lib.hid hza
  clear hrow HB1 HA1 hza
  generalize w1.alloc (Obj.cells #[Value.slice A1 2 c1] 26) = wa at *
  obtain ⟨P, hP⟩ : ∃ P, w1.heap.size = P := ⟨_, rfl⟩
  rw [hP] at HW HAa HZa hz1 ⊢
  clear hP
  have hPa : P < wa.heap.size := by rw [HZa.out]; omega
  refine (Acked_any _ _ _ [(5, 1), (3, 1)] 1 2 _ P HAa.out (by omega) (by omega)).mono ?_
  rintro e w2 ⟨rfl, hb2⟩
  rw [fix_no]
  have r2 : w2.cell? ⟨P, 0, none⟩ = some (.slice A1 2 c1) := by rw [hb2.cell (by exact hPa), cell_of_row _ _ 0 _ _ _ HW.out]; rfl
  have HW2 := Lib.hid (show w2.heap[P]? = some (.cells #[Value.slice A1 2 c1] 26 (0, 0)) by rw [hb2.block _ hPa]; exact HW.out)
  have HA2 := Lib.hid (HAa.out.below (hb2.mono (by omega)))
  have HB2 := Lib.hid (below_up HBa.out hb2 (Nat.le_refl _))
  have hP2 : P < w2.heap.size := by have := hb2.size; omega
  clear hb2 HW HAa HBa HZa
  go_wp2_with fail
  refine (Acked_any _ _ _ [(5, 1), (3, 1)] 1 3 _ P HA2.out (by omega) (by omega)).mono ?_
  rintro e w3 ⟨rfl, hb3⟩
  rw [fix_yes]
  have HW3 := Lib.hid (show w3.heap[P]? = some (.cells #[Value.slice A1 2 c1] 26 (0, 0)) by rw [hb3.block _ hP2]; exact HW2.out)
  have HB3 := Lib.hid (below_up HB2.out hb3 (Nat.le_refl _))
  have hP3 : P < w3.heap.size := by have := hb3.size; omega
  clear hb3 HW2 HA2 HB2 r2
  go_wp2_with fail
  refine (acks_any _ _ _ l _ w.heap.size (HR.out.below HB3.out) HB3.out.size hn).mono ?_
  rintro e w4 ⟨A4, c4, rfl, hown4, hb4⟩
  have HO4 := Lib.hid hown4
  have HL4 := Lib.hid (fun g h => (hown4.lt g h).2)
  have HB4 := Lib.hid (below_up HB3.out hb4 (Nat.le_refl _))
  have HW4 := Lib.hid (show w4.heap[P]? = some (.cells #[Value.slice A1 2 c1] 26 (0, 0)) by rw [hb4.block _ hP3]; exact HW3.out)
  have hP4 : w3.heap.size ≤ w4.heap.size := hb4.size
  clear hb4 HB3 HW3 hown4
  go_wp2_with fail
  refine (NewAcks_any _ _ _ l _ w4.heap.size (RA.of_own HO4.out HOK.out) (Nat.le_refl _) hn).mono ?_
  rintro e w5 ⟨A5, m5, c5, rfl, hm5, hown5, hb5⟩
  obtain ⟨la, hla⟩ : ∃ la, la = if acksE l n = 0 then l else [] := ⟨_, rfl⟩
  rw [← hla] at hown5
  have HLA := Lib.hid hla
  have HM5 := Lib.hid hm5
  have HO5 := Lib.hid hown5
  have HO4' := Lib.hid (own_later HO4.out hb5)
  have HB5 := Lib.hid (below_up HB4.out hb5 (Nat.le_refl _))
  have hrow5 : w5.heap[P]? = some (.cells #[Value.slice A1 2 c1] 26 (0, 0)) := by rw [hb5.block _ (by omega)]; exact HW4.out
  have r5 : w5.cell? ⟨P, 0, none⟩ = some (.slice A1 2 c1) := by rw [cell_of_row _ _ 0 _ _ _ hrow5]; rfl
  have f5 : w5.frozen? ⟨P, 0, none⟩ = false := frozen_of_row _ _ 0 _ _ hrow5
  have HW5 := Lib.hid hrow5
  have hP5 : w4.heap.size ≤ w5.heap.size := hb5.size
  clear hla hm5 hown5 hb5 HB4 HO4 HW4 hrow5
  go_wp2_with fail
  go_loopw [10, 45] (fun _ i wr => ∃ (k : Nat) (l' : List (Int × Int)), k ≤ n ∧ i = .int .i64 k ∧ l'.length = n ∧ wr.ownsRow w3.heap.size 32 2 (.slice A4 n c4) n (ackv l') ∧ wr.ownsRow w4.heap.size 32 2 (.slice A5 m5 c5) m5 (ackv la) ∧ wr.heap[P]? = some (.cells #[.slice A5 m5 c5] 26 (0, 0)) ∧ Below w.heap.size w wr) (fun _ i _ => n - (intOf i).toNat)
  case atStart =>
    refine ⟨0, l, by omega, rfl, HR.out.len, ?_, ?_, row_set1 HW5.out _, HB5.out.setCell (by exact hz1) _⟩
    · exact HO4'.out.kept (grown_setA _ _ _) (own_farA HO4'.out (by exact hP3))
    · exact HO5.out.kept (grown_setA _ _ _) (own_farA HO5.out (by exact Nat.lt_of_lt_of_le hP3 hP4))
  case round =>
    obtain ⟨k, l', hk, rfl, hl', ho4, ho5, hrow, hb⟩ := hrel
    have HO4 := Lib.hid ho4
    have HO5 := Lib.hid ho5
    have HW := Lib.hid hrow
    have HB := Lib.hid hb
    have HL' := Lib.hid hl'
    clear ho4 ho5 hrow hb hl' r5 f5 HW5 HO4' HB5
    by_cases hlt : k < n
    · obtain ⟨g4, hA4⟩ : ∃ g4, A4 = some ⟨g4, 0, none⟩ := by
        rcases HO4.out.2 with ⟨h, h0⟩ | ⟨g, cap, cur, h, _⟩
        · omega
        · injection h with h
          exact ⟨g, h⟩
      subst hA4
      obtain ⟨x0, x1⟩ := ackv_at l' k (by rw [HL'.out]; exact hlt)
      have c0 : wr.cell? ⟨g4, k * 2, none⟩ = some (.int .i64 (aat l' k)) := by rw [HO4.out.cellAt _ (by omega)]; exact x0
      have c1 : wr.cell? ⟨g4, k * 2 + 1, none⟩ = some (.int .u64 (aid l' k)) := by rw [HO4.out.cellAt _ (by omega)]; exact x1
      have f0 := HO4.out.frozenAt (k * 2)
      have f1 := HO4.out.frozenAt (k * 2 + 1)
      have hg := (HO4.out.lt g4 rfl).1
      have hg' : g4 < w4.heap.size := HL4.out g4 rfl
      clear x0 x1
      generalize aid l' k = y at *
      generalize aat l' k = x at *
      go_wp2
      obtain ⟨s1, q1⟩ := HO4.out.stored (k * 2) (.int .i64 1)
      obtain ⟨s2, q2⟩ := s1.stored (k * 2 + 1) (.int .u64 (IntKind.u64.wrap (y + 1)))
      rw [ackv_set] at s2
      refine ⟨⟨k + 1, l'.set k (1, IntKind.u64.wrap (y + 1)), by omega, by go_num, by rw [List.length_set]; exact HL'.out, s2, ?_, ?_, ?_⟩, by simp [intOf]; omega⟩
      · exact (HO5.out.kept q1 (own_farA HO5.out hg')).kept q2 (own_farA HO5.out hg')
      · rw [heap_setCell_other _ _ _ _ (by simp only; omega), heap_setCell_other _ _ _ _ (by simp only; omega)]
        exact HW.out
      · exact (HB.out.setCell (by simp only; omega) _).setCell (by simp only; omega) _
    · obtain ⟨wo, rfl⟩ : ∃ wo : World, wo = wr := ⟨_, rfl⟩
      have hb := HB.out
      have HR' := Lib.hid (HR.out.below hb)
      have HA := Lib.hid (RA.of_own HO5.out (by
        rw [HLA.out]
        split
        · exact HOK.out
        · intro a ha; cases ha))
      have hz5 := (HB.out.size)
      have hPr : P < wo.heap.size := (Array.getElem?_eq_some_iff.1 HW.out).1
      clear hb HO4 HO5 HL4 HR HL'
      go_wp2_with fail
      refine (RefAcks_any _ _ _ l _ w.heap.size HR'.out hn).mono ?_
      rintro e w6 ⟨rfl, rfl⟩
      have hF : ∀ id, firstTo la id m5 = if acksE l n = 0 then firstTo l id n else (0, false) := by
        intro id
        rw [HLA.out, HM5.out]
        split
        · rfl
        · rfl
      have HF := Lib.hid hF
      clear hF
      have HM6 := Lib.hid (show m5 * 16 ≤ 140737488355328 by rw [HM5.out]; split <;> omega)
      obtain ⟨Z, hZ⟩ : ∃ Z, acksE l n = Z := ⟨_, rfl⟩
      rw [hZ] at HF ⊢
      clear hZ HM5 HLA hlt
      have hzz : (Z != Z) = false := by simp
      go_wp2_with fail
      go_loopw [13, 14, 15, 16, 17, 66] (fun _ _ _ _ _ i wr => ∃ j : Nat, j ≤ m ∧ i = .int .i64 j ∧ Below wo.heap.size wo wr) (fun _ _ _ _ _ i _ => m - (intOf i).toNat)
      case atStart => exact ⟨0, by omega, rfl, Below.refl _ _⟩
      case round =>
        obtain ⟨j, hj, rfl, hbj⟩ := hrel
        have HBj := Lib.hid (below_up HB.out hbj (Nat.le_refl _))
        have HAj := Lib.hid (HA.out.below hbj)
        have HRj := Lib.hid (HR'.out.below (hbj.mono hz5))
        have rj : wr.cell? ⟨P, 0, none⟩ = some (.slice A5 m5 c5) := by rw [hbj.cell (by exact hPr), cell_of_row _ _ 0 _ _ _ HW.out]; rfl
        have hPj : P < wr.heap.size := by have := hbj.size; omega
        have HBr := Lib.hid hbj
        have hsj : wo.heap.size ≤ wr.heap.size := hbj.size
        clear hbj
        by_cases hlt : j < m
        · obtain ⟨ad, rfl, hab, ci⟩ := HI.out.at_ hlt
          rw [← HBj.out.cell (by rw [block_of_add]; exact hab)] at ci
          have HF' := Lib.hid (HF.out (it ids j))
          generalize it ids j = id at *
          go_wp2_with fail
          refine (First_any _ _ _ la id _ wo.heap.size HAj.out hsj HM6.out).mono ?_
          rintro e w7 ⟨rfl, hb7⟩
          have HB7 := Lib.hid (below_up HBj.out hb7 (Nat.le_refl _))
          have HA7 := Lib.hid (HAj.out.below (hb7.mono hsj))
          have HR7 := Lib.hid (HRj.out.below (hb7.mono HBj.out.size))
          have HBo7 := Lib.hid (below_up HBr.out hb7 (Nat.le_refl _))
          have r7 : w7.cell? ⟨P, 0, none⟩ = some (.slice A5 m5 c5) := by rw [hb7.cell (by exact hPj), rj]
          have hP7 : P < w7.heap.size := by have := hb7.size; omega
          have hs7 : wo.heap.size ≤ w7.heap.size := by have := hb7.size; omega
          clear hb7 HBj HAj HRj HBr ci rj
          go_wp2_with fail
          refine (RefFirst_any _ _ _ l id _ w.heap.size HR7.out hn).mono ?_
          rintro e w8 ⟨rfl, rfl⟩
          by_cases hZ : Z = 0
          · subst hZ
            have HE := Lib.hid (show firstTo la id m5 = firstTo l id n by rw [HF'.out, if_pos rfl])
            rw [HE.out]
            obtain ⟨⟨a, o⟩, hao⟩ : ∃ q, firstTo l id n = q := ⟨_, rfl⟩
            rw [hao]
            have HE' := Lib.hid (show firstTo la id m5 = (a, o) by rw [HE.out, hao])
            clear hao HE HF'
            have e1 : (a != a) = false := by simp
            have e2 : (o != o) = false := by simp
            cases o
            · go_wp2_with fail
              refine (Acked_any _ _ _ la id now _ wo.heap.size HA7.out hs7 HM6.out).mono ?_
              rintro e w9 ⟨rfl, hb9⟩
              rw [HE'.out]
              have HB9 := Lib.hid (below_up HBo7.out hb9 (Nat.le_refl _))
              clear hb9
              go_wp2
              exact ⟨⟨j + 1, by omega, by go_num, HB9.out⟩, by simp [intOf]; omega⟩
            · by_cases hc : a ≤ now
              all_goals
                go_wp2_with fail
                refine (Acked_any _ _ _ la id now _ wo.heap.size HA7.out hs7 HM6.out).mono ?_
                rintro e w9 ⟨rfl, hb9⟩
                rw [HE'.out]
                have HB9 := Lib.hid (below_up HBo7.out hb9 (Nat.le_refl _))
                clear hb9
                go_wp2
                exact ⟨⟨j + 1, by omega, by go_num, HB9.out⟩, by simp [intOf]; omega⟩
          · have HE := Lib.hid (show firstTo la id m5 = (0, false) by rw [HF'.out, if_neg hZ])
            rw [HE.out]
            have hzz : (Z != 0) = true := by simpa using hZ
            clear HF' hZ
            go_wp2_with fail
            refine (Acked_any _ _ _ la id now _ wo.heap.size HA7.out hs7 HM6.out).mono ?_
            rintro e w9 ⟨rfl, hb9⟩
            rw [HE.out]
            have HB9 := Lib.hid (below_up HBo7.out hb9 (Nat.le_refl _))
            clear hb9
            go_wp2
            exact ⟨⟨j + 1, by omega, by go_num, HB9.out⟩, by simp [intOf]; omega⟩
        · go_wp2
          go_ret
          exact ⟨rfl, HBj.out⟩
end Go.Proofs.Ytcjpfjmmnnfieaa
