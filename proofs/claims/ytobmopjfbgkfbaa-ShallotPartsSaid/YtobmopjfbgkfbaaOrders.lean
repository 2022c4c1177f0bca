/-
  The parts of a message in whatever order: together they are the message; with the first lacking or with one twice they are none. Plain. And: two parts of a row of the call's own change places; a row of parts read from its k-th part on. No statement of the seat is proved here.
-/
import Derived.Test.YtobmopjfbgkfbaaMrg
import Derived.Test.YtobmopjfbgkfbaaSplit
namespace Go.Proofs.Ytobmopjfbgkfbaa
open Go Go.RowKit Go.Sh

/-- qs are the m parts of l, in some order -/
def IsPerm (id : Int) (l : List UInt8) (m : Nat) (qs : List Pt) : Prop :=
  qs.length = m ∧ ∃ σ τ : Nat → Nat, (∀ i, i < m → σ i < m ∧ τ (σ i) = i ∧ pat qs i = splP id l m (σ i)) ∧ (∀ j, j < m → τ j < m ∧ σ (τ j) = j)
theorem pat_set {qs : List Pt} {k i : Nat} {p : Pt} (hk : k < qs.length) : pat (qs.set k p) i = if k = i then p else pat qs i := by
  unfold pat
  simp only [List.getD_eq_getElem?_getD]
  by_cases h : k = i
  · subst h
    simp [hk]
  · rw [List.getElem?_set_ne h, if_neg h]
theorem IsPerm.init (id : Int) (l : List UInt8) (m : Nat) : IsPerm id l m ((List.range m).map (splP id l m)) :=
  ⟨by simp, fun i => i, fun i => i, fun i hi => ⟨hi, rfl, by simp [pat, hi]⟩, fun j hj => ⟨hj, rfl⟩⟩
def sw (a b i : Nat) : Nat := if i = b then a else if i = a then b else i
theorem sw_sw (a b i : Nat) : sw a b (sw a b i) = i := by
  unfold sw
  by_cases h1 : i = b
  · subst h1
    rw [if_pos rfl]
    by_cases h2 : a = i
    · rw [if_pos h2]; exact h2
    · rw [if_neg h2, if_pos rfl]
  · rw [if_neg h1]
    by_cases h2 : i = a
    · rw [if_pos h2, if_pos rfl]; exact h2.symm
    · rw [if_neg h2, if_neg h1, if_neg h2]
theorem sw_lt {a b i m : Nat} (ha : a < m) (hb : b < m) (hi : i < m) : sw a b i < m := by
  unfold sw
  split
  · exact ha
  · split
    · exact hb
    · exact hi
theorem IsPerm.swap {id : Int} {l : List UInt8} {m : Nat} {qs : List Pt} (h : IsPerm id l m qs) {a b : Nat} (ha : a < m) (hb : b < m) : IsPerm id l m ((qs.set a (pat qs b)).set b (pat qs a)) := by
  obtain ⟨h1, σ, τ, h2, h3⟩ := h
  refine ⟨by simp [h1], fun i => σ (sw a b i), fun j => sw a b (τ j), fun i hi => ?_, fun j hj => ?_⟩
  · obtain ⟨q1, q2, q3⟩ := h2 (sw a b i) (sw_lt ha hb hi)
    refine ⟨q1, by show sw a b (τ (σ (sw a b i))) = i; rw [q2, sw_sw], ?_⟩
    rw [← q3, pat_set (by simp [h1]; exact hb), pat_set (by rw [h1]; exact ha)]
    unfold sw
    by_cases e1 : b = i
    · rw [if_pos e1, if_pos e1.symm]
    · rw [if_neg e1, if_neg (Ne.symm e1)]
      by_cases e2 : a = i
      · rw [if_pos e2, if_pos e2.symm]
      · rw [if_neg e2, if_neg (Ne.symm e2)]
  · obtain ⟨q1, q2⟩ := h3 j hj
    exact ⟨sw_lt ha hb q1, by show σ (sw a b (sw a b (τ j))) = j; rw [sw_sw, q2]⟩
section
variable {id : Int} {l : List UInt8} {m : Nat} {qs : List Pt}
theorem IsPerm.at_ (h : IsPerm id l m qs) {i : Nat} (hi : i < m) : ∃ j, j < m ∧ pat qs i = splP id l m j := by
  obtain ⟨_, σ, τ, h2, _⟩ := h
  obtain ⟨q1, _, q3⟩ := h2 i hi
  exact ⟨_, q1, q3⟩
theorem IsPerm.inj (h : IsPerm id l m qs) {i j : Nat} (hi : i < m) (hj : j < m) (e : (pat qs i).ix = (pat qs j).ix) : i = j := by
  obtain ⟨_, σ, τ, h2, _⟩ := h
  obtain ⟨_, a2, a3⟩ := h2 i hi
  obtain ⟨_, b2, b3⟩ := h2 j hj
  rw [a3, b3] at e
  have e' : σ i = σ j := by simp only [splP] at e; omega
  rw [← a2, ← b2, e']
theorem IsPerm.small (h : IsPerm id l m qs) : ∀ p ∈ qs, p.d.length ≤ 450 := by
  intro p hp
  obtain ⟨i, hi, rfl⟩ := List.getElem_of_mem hp
  obtain ⟨j, _, e⟩ := h.at_ (i := i) (by rw [← h.1]; exact hi)
  rw [Option.some.inj ((List.getElem?_eq_getElem hi).symm.trans (pat_eq hi)), e]
  simp only [splP, List.length_take]
  omega
theorem IsPerm.ok (h : IsPerm id l m qs) (hid : 0 ≤ id ∧ id < 18446744073709551616) (hm : m ≤ 16) : ∀ p ∈ qs, p.OK := by
  intro p hp
  obtain ⟨i, hi, rfl⟩ := List.getElem_of_mem hp
  obtain ⟨j, hj, e⟩ := h.at_ (i := i) (by rw [← h.1]; exact hi)
  rw [Option.some.inj ((List.getElem?_eq_getElem hi).symm.trans (pat_eq hi)), e]
  exact ⟨by simp [splP], hid, by simp only [splP]; omega, by simp only [splP]; omega⟩
theorem splP_chk {j : Nat} (hm : m ≤ 16) (hj : j < m) : (splP id l m j).chk = 0 := by
  have h : ((l.drop (j * 450)).take 450).length ≤ 450 := by rw [List.length_take]; omega
  unfold Pt.chk chk splP
  simp only
  rw [if_neg (by omega), if_neg (by omega), if_neg (by omega), if_neg (by omega), if_neg (by omega)]
theorem IsPerm.hasIx (h : IsPerm id l m qs) {k : Nat} (hk : k < m) : hasIx (qs.take k) (pat qs k).ix = false := by
  rw [hasIx_false]
  intro i hi
  have hik : i < k := by simp at hi; omega
  rw [pat_take hik]
  intro e
  have := h.inj (by omega) hk e
  omega
theorem IsPerm.good (h : IsPerm id l m qs) (hm : m ≤ 16) : allGood qs = true := by
  refine allGood_iff.2 fun i hi => goodAt_iff.2 ?_
  rw [h.1] at hi
  obtain ⟨j, hj, e⟩ := h.at_ hi
  obtain ⟨j0, _, e0⟩ := h.at_ (i := 0) (by omega)
  refine ⟨by rw [e]; exact splP_chk hm hj, by rw [e]; rfl, by rw [e, e0]; rfl, by rw [e, e0]; rfl, h.hasIx hi⟩
theorem grp_app (a b : List Pt) (j : Int) : grp (a ++ b) j = grp a j ++ grp b j := by simp [grp]
theorem grp_one {qs : List Pt} {k : Nat} {j : Int} (hk : k < qs.length) (hj : (pat qs k).ix = j) (h1 : ∀ i, i < qs.length → (pat qs i).ix = j → i = k) : grp qs j = (pat qs k).d := by
  have e : qs = qs.take k ++ ([pat qs k] ++ qs.drop (k + 1)) := by
    rw [← List.append_assoc, ← take_psnoc qs k hk, List.take_append_drop]
  have p1 : grp (qs.take k) j = [] := by
    apply grp_none
    rw [hasIx_false]
    intro i hi he
    have hik : i < k := by simp at hi; omega
    rw [pat_take hik] at he
    have := h1 i (by omega) he
    omega
  have p2 : grp (qs.drop (k + 1)) j = [] := by
    apply grp_none
    rw [hasIx_false]
    intro i hi he
    have hd : pat (qs.drop (k + 1)) i = pat qs (k + 1 + i) := by unfold pat; simp [List.getElem?_drop]
    rw [hd] at he
    have := h1 (k + 1 + i) (by simp at hi; omega) he
    omega
  have p3 : grp [pat qs k] j = (pat qs k).d := by
    unfold grp
    simp [hj]
  have : grp qs j = grp (qs.take k ++ ([pat qs k] ++ qs.drop (k + 1))) j := by rw [← e]
  rw [this, grp_app, grp_app, p1, p2, p3, List.nil_append, List.append_nil]
theorem IsPerm.grp (h : IsPerm id l m qs) {j : Nat} (hj : j < m) : grp qs (j : Int) = (l.drop (j * 450)).take 450 := by
  have h' := h
  obtain ⟨h1, σ, τ, h2, h3⟩ := h
  obtain ⟨q1, q2⟩ := h3 j hj
  obtain ⟨_, _, e⟩ := h2 (τ j) q1
  rw [q2] at e
  have := grp_one (qs := qs) (k := τ j) (j := (j : Int)) (by rw [h1]; exact q1) (by rw [e]; rfl) (fun i hi he => by
    refine h'.inj (by rw [← h1]; exact hi) q1 ?_
    rw [he, e]
    rfl)
  rw [this, e]
  rfl
theorem chunks (l : List UInt8) : ∀ k, ((List.range k).map fun j => (l.drop (j * 450)).take 450).flatten = l.take (k * 450)
  | 0 => by simp
  | k + 1 => by
    rw [List.range_succ, List.map_append, List.flatten_append, chunks l k, Nat.add_mul, Nat.one_mul, List.take_add]
    simp
theorem IsPerm.whole (h : IsPerm id l m qs) (hm : m ≤ 16) (hl : l.length ≤ m * 450) : mrgW qs = l := by
  have hix : ∀ i, i < qs.length → (pat qs i).ix < m := by
    intro i hi
    obtain ⟨j, hj, e⟩ := h.at_ (i := i) (by rw [← h.1]; exact hi)
    rw [e]
    simp only [splP]
    omega
  rw [mrgW_short hix hm]
  have : ((List.range m).map fun (j : Nat) => Go.Proofs.Ytobmopjfbgkfbaa.grp qs (j : Int)) = (List.range m).map fun j => (l.drop (j * 450)).take 450 := by
    apply List.map_congr_left
    intro j hj
    exact h.grp (List.mem_range.1 hj)
  rw [this, chunks, List.take_of_length_le hl]
theorem IsPerm.ct (h : IsPerm id l m qs) {i : Nat} (hi : i < m) : (pat qs i).ct = (m : Int) := by
  obtain ⟨j, _, e⟩ := h.at_ hi
  rw [e]
  rfl
theorem IsPerm.mrg (h : IsPerm id l m qs) (h0 : 0 < m) (hm : m ≤ 16) (hl : l.length ≤ m * 450) : mrgE qs = 0 ∧ mrgL qs = l := by
  have e : mrgE qs = 0 := by
    unfold mrgE
    rw [if_neg (by rw [h.1, h.ct h0]; omega), if_pos (h.good hm)]
  exact ⟨e, by rw [mrgL, if_pos e, h.whole hm hl]⟩
theorem IsPerm.lacks (h : IsPerm id l m qs) : mrgE (qs.drop 1) = 2 := by
  unfold mrgE
  refine if_pos ?_
  by_cases h1 : m ≤ 1
  · exact .inl (by rw [List.length_drop, h.1]; omega)
  · right
    have e : pat (qs.drop 1) 0 = pat qs 1 := by unfold pat; simp
    rw [e, h.ct (by omega), List.length_drop, h.1]
    omega
theorem IsPerm.twice (h : IsPerm id l m qs) (h1 : 1 < m) : mrgE (qs.set 0 (pat qs 1)) = 3 := by
  have hl : 0 < qs.length := by rw [h.1]; omega
  unfold mrgE
  rw [if_neg (by rw [pat_set hl, if_pos rfl, h.ct h1, List.length_set, h.1]; omega), if_neg]
  intro hg
  have := (goodAt_iff.1 (allGood_iff.1 hg 1 (by rw [List.length_set, h.1]; exact h1))).2.2.2.2
  rw [hasIx_false] at this
  refine this 0 (by rw [List.length_take, List.length_set, h.1]; omega) ?_
  rw [pat_take (by omega), pat_set hl, if_pos rfl, pat_set hl, if_neg (by omega)]
end

/-! ### rows of parts -/
theorem pcells_drop : ∀ (ps : List Pt) (ss : List Value) (k : Nat), ss.length = ps.length → pcells (ps.drop k) (ss.drop k) = (pcells ps ss).drop (k * 5)
  | ps, ss, 0, _ => by simp
  | [], ss, k + 1, h => by
    have : ss = [] := List.eq_nil_of_length_eq_zero (by simpa using h)
    subst this
    simp [pcells]
  | p :: ps, [], k + 1, h => by simp at h
  | p :: ps, s :: ss, k + 1, h => by
    rw [List.drop_succ_cons, List.drop_succ_cons, pcells_drop ps ss k (by simpa using h), pcells, show (k + 1) * 5 = (pcell p s).length + k * 5 by rw [length_pcell]; omega, List.drop_length_add_append]
theorem RP.cut {w : World} {B n k cap : Nat} {A : Option Addr} {ps : List Pt} (h : RP w B A n ps) (hk : k ≤ n) (hc : n ≤ cap) : RP w B (if cap = k then A else A.map (·.add (k * 5))) (n - k) (ps.drop k) := by
  obtain ⟨h1, ss, h2, h3, h4⟩ := h
  refine ⟨by simp [h1], ss.drop k, by simp [h2], ?_, fun i hi => ?_⟩
  · rw [pcells_drop _ _ _ (by omega)]
    exact h3.cut hk hc
  · obtain ⟨Ai, ni, ci, h5, h6, h7⟩ := h4 (k + i) (by omega)
    refine ⟨Ai, ni, ci, by rw [List.getElem?_drop]; exact h5, h6, ?_⟩
    have : pat (ps.drop k) i = pat ps (k + i) := by unfold pat; simp [List.getElem?_drop]
    rw [this]
    exact h7
/-- a struct or an array is stored into a block that is known whole, as one step of a region -/
theorem wp_store_blk {P : Program} {op : Oper} {a : Act} {w : World} {K : Act → World → Prop} {Q : Exit → Act → World → Prop} (ty : TypeId) (x y : Operand) (ho : op.op = .store ty x y)
    (b o : Nat) (cells : Array Value) (hx : a.eval x = .pointer (some ⟨b, o, none⟩)) (hy : a.eval y = .agg cells) (cs : Array Value) (t : TypeId) (hg : w.heap[b]? = some (.cells cs t (0, 0))) (hfit : o + cells.size ≤ cs.size)
    (hi : (P.info? ty).map (·.size) = some cells.size) (h1 : ∀ v ∈ cells.toList, v.oneCell' = true)
    (h : K (a.put op.dst undef) (w.setRow b (cs.toList.take o ++ cells.toList ++ cs.toList.drop (o + cells.size)).toArray)) : Oper.wp P op a w K Q := by
  have hst := run_storeCells_at P b o t cells.toList 0 cs w hg (by simpa using hfit) h1
  have hrun : (storeVar ty ⟨b, o, none⟩ (.agg cells)).run P w = .ok () (w.setRow b (cs.toList.take o ++ cells.toList ++ cs.toList.drop (o + cells.size)).toArray) := by
    cases hq : P.info? ty with
    | none => simp [hq] at hi
    | some i =>
      have hs : cells.size = i.size := by simp [hq] at hi; omega
      simp only [Nat.add_zero, Array.length_toList] at hst
      simp [storeVar, sizeOf, typeInfo, hq, Value.cells, hs, hst]
  unfold Oper.wp execOp
  simp only [ho, hx, hy, Instr.storeAt, Instr.sureAddr, Sem.run_bind, Sem.run_pure, Result.andThen_ok, hrun]
  exact h
end Go.Proofs.Ytobmopjfbgkfbaa
