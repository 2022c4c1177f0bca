/-
  A slice of parts among the arguments. No statement of the seat is proved here.
-/
import Derived.Test.YtgdelilanackhaaPartOpen
namespace Go.Proofs.Ytgdelilanackhaa
open Go Go.RowKit Go.Sh Go.ChangeShapes Go.WideShapes Go.ChangeAt

def HasParts {H : Type} (d : DataW H) (ps : List Pt) : Prop :=
  (d = .nil ∧ ps = []) ∨ ∃ es sp, d = .slice es sp ∧ es.length = ps.length ∧ ∀ i, i < ps.length → ∃ di, es[i]? = some di ∧ HasPart di (pat ps i).d.length
theorem pcells_of : ∀ (n : Nat) (f : Nat → Pt) (g : Nat → Value) (j : Nat), (pcells ((List.range n).map f) ((List.range n).map g)).length = n * 5 ∧ (j < n * 5 → (pcells ((List.range n).map f) ((List.range n).map g))[j]? = (pcell (f (j / 5)) (g (j / 5)))[j % 5]?) := by
  intro n f g j
  refine ⟨by rw [length_pcells _ _ (by simp)]; simp, fun hj => ?_⟩
  have hk : j / 5 < n := by omega
  have hm : j % 5 < 5 := by omega
  have e1 : pat ((List.range n).map f) (j / 5) = f (j / 5) := by simp [pat, hk]
  have h := pcells_at ((List.range n).map f) ((List.range n).map g) (j / 5) (j % 5) (g (j / 5)) ((pcell (f (j / 5)) (g (j / 5)))[j % 5]'(by rw [length_pcell]; exact hm)) (by simp) (by simp [hk]) (by rw [e1]; exact List.getElem?_eq_getElem _)
  rw [show j / 5 * 5 + j % 5 = j by omega] at h
  rw [h, List.getElem?_eq_getElem]
theorem openParts {H : Type} {enc : TypeId × Value → H} {W : World} {b0 : Nat} {r : Reach} {v : Value} {d : DataW H} {p : List MemPlace} (hok : Value.okWide Try.prog W r b0 25 v) (h : DataW.Trod enc Try.prog W 0 (fun _ => true) true 25 v d p) :
    ∃ A n c ps, v = .slice A n c ∧ (∀ p ∈ ps, p.OK) ∧ RP W W.heap.size A n ps ∧ n ≤ c ∧ HasParts d ps := by
  obtain ⟨A, n, c, rfl⟩ := okWide_slice Try.underlying25 hok
  obtain ⟨fuel, hf⟩ := h
  rcases Go.Deep.open_slice Try.underlying25 hf with ⟨hcs, hx⟩ | ⟨a, n', c', m, q, D, Pl, hcs, _, hl, _, hm, hx, hi⟩
  · simp [Value.cells] at hcs
    obtain ⟨rfl, rfl, rfl⟩ := hcs
    injection hx with hd _
    exact ⟨none, 0, 0, [], rfl, (fun p hp => by cases hp), ⟨rfl, [], rfl, Reads.none_, fun i hi => absurd hi (by omega)⟩, Nat.le_refl _, .inl ⟨hd, rfl⟩⟩
  · simp [Value.cells] at hcs
    obtain ⟨rfl, rfl, rfl⟩ := hcs
    injection hx with hd _
    simp only [if_true] at hm
    subst hm
    have key : ∀ i, i < n → ∃ x : Pt × (Option Addr × Nat × Nat), x.1.OK ∧ (∀ j v, (pcell x.1 (.slice x.2.1 x.2.2.1 x.2.2.2))[j]? = some v → W.cell? (a.add (i * 5 + j)) = some v) ∧ x.2.2.1 ≤ x.2.2.2 ∧ RB W W.heap.size x.2.1 x.2.2.1 x.1.d ∧ HasPart (D i) x.2.2.1 := by
      intro i hin
      obtain ⟨cs', hc, ht'⟩ := hi i (by omega)
      obtain ⟨p, Ai, ni, ci, rfl, h1, h2, h3, h4⟩ := openPartCs ht'
      refine ⟨⟨p, Ai, ni, ci⟩, h1, fun j v hv => ?_, h3, h2, h4⟩
      obtain ⟨_, hcl, hat⟩ := World.cells?_some hc
      have hj : j < 5 := by have := (List.getElem?_eq_some_iff.1 hv).1; rw [length_pcell] at this; exact this
      rw [cells47] at hat
      have := hat j hj
      rw [Go.Deep.add_add, hv] at this
      exact this
    have : Inhabited (Pt × (Option Addr × Nat × Nat)) := ⟨⟨0, 0, 0, 0, []⟩, none, 0, 0⟩
    obtain ⟨f, hfn⟩ := Go.Deep.choose_lt key
    have hpat : ∀ i, i < n → pat ((List.range n).map fun i => (f i).1) i = (f i).1 := fun i hin => by simp [pat, hin]
    refine ⟨some a, n, m, (List.range n).map fun i => (f i).1, rfl, fun p hp => ?_, ⟨by simp, (List.range n).map fun i => .slice (f i).2.1 (f i).2.2.1 (f i).2.2.2, by simp, ⟨(pcells_of n _ _ 0).1, ?_⟩, fun i hin => ?_⟩, hl, .inr ⟨_, _, hd, by simp, fun i hin => ?_⟩⟩
    · obtain ⟨i, hin, rfl⟩ := List.mem_map.1 hp
      exact (hfn i (List.mem_range.1 hin)).1
    · rcases Nat.eq_zero_or_pos n with h0 | h0
      · left
        rw [h0]
        rfl
      refine .inr ⟨a, rfl, ?_, fun j hj => ?_⟩
      · have hb := World.block_lt_of_cell? W _ ((hfn 0 h0).2.1 0 _ rfl)
        rw [block_of_add] at hb
        exact hb
      · rw [(pcells_of n _ _ 0).1] at hj
        rw [(pcells_of n _ _ j).2 hj]
        have hm5 : j % 5 < 5 := by omega
        have h := (hfn (j / 5) (by omega)).2.1 (j % 5) _ (List.getElem?_eq_getElem (by rw [length_pcell]; exact hm5))
        rw [show j / 5 * 5 + j % 5 = j by omega] at h
        rw [h, List.getElem?_eq_getElem]
    · obtain ⟨_, _, h3, h4, _⟩ := hfn i hin
      refine ⟨(f i).2.1, (f i).2.2.1, (f i).2.2.2, by simp [hin], h3, ?_⟩
      rw [hpat i hin]
      exact h4
    · have hin' : i < n := by simpa using hin
      obtain ⟨_, _, _, h4, h5⟩ := hfn i hin'
      refine ⟨D i, by simp [hin'], ?_⟩
      rw [hpat i hin', h4.len]
      exact h5
theorem weights_all {H : Type} {P : Program} {e : TypeId} : ∀ (xs : List (DataW H)) (x : DataW H), x ∈ xs → ∀ n ∈ x.weights P e, n ∈ DataW.weightsAll P e xs := by
  intro xs
  induction xs with
  | nil => intro x hx; cases hx
  | cons y ys ih =>
    intro x hx n hn
    simp only [DataW.weightsAll, List.mem_append]
    rcases List.mem_cons.1 hx with rfl | hx
    · exact .inl hn
    · exact .inr (ih x hx n hn)
theorem sizedParts {H : Type} {ts : List TypeId} {ds : List (DataW H)} (hsz : ((DataW.weightsEach Try.prog ts ds).all fun x => decide (x ≤ reachBytes)) = true) {j : Nat} {d : DataW H} {ps : List Pt}
    (h1 : ts[j]? = some 25) (h2 : ds[j]? = some d) (hd : HasParts d ps) : ps.length * 56 ≤ 140737488351232 ∧ ∀ p ∈ ps, p.d.length ≤ 140737488351232 := by
  rcases hd with ⟨_, rfl⟩ | ⟨es, sp, rfl, hl, hi⟩
  · exact ⟨by simp, fun p hp => by cases hp⟩
  · have hs := sized_slice hsz h1 h2 Try.underlying25
    rw [show Try.prog.bytesOf 47 = 56 by kernel_rfl] at hs
    simp only [reachBytes] at hs
    refine ⟨by omega, fun p hp => ?_⟩
    obtain ⟨i, hin, rfl⟩ := List.getElem_of_mem hp
    obtain ⟨di, hdi, d0, d1, d2, d3, d4, rfl, hlen⟩ := hi i hin
    rw [show pat ps i = ps[i] from by rw [← Option.some.inj ((List.getElem?_eq_getElem hin).symm.trans (pat_eq hin))]] at hlen
    rcases hlen with ⟨_, h0⟩ | ⟨es', sp', rfl, hl'⟩
    · omega
    · have hmem : (es'.length + sp'.length) * Try.prog.bytesOf 5 ∈ DataW.weightsEach Try.prog ts ds := by
        refine DataW.weights_mem_each h1 h2 _ ?_
        simp only [DataW.weights, Try.underlying25, List.mem_cons, List.mem_append]
        refine .inr (.inl (weights_all es _ (List.mem_of_getElem? hdi) _ ?_))
        rw [DataW.weights, Try.underlying47]
        refine DataW.weights_mem_each (j := 4) (t := 23) rfl rfl _ ?_
        simp [DataW.weights, Try.underlying23]
      have := of_decide_eq_true (List.all_eq_true.1 hsz _ hmem)
      rw [show Try.prog.bytesOf 5 = 1 by kernel_rfl] at this
      simp only [reachBytes] at this
      omega
end Go.Proofs.Ytgdelilanackhaa
