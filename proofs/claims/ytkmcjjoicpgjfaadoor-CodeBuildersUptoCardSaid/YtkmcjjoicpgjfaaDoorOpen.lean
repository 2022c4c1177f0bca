/-
  Arguments of a law, opened into the words of YtkmcjjoicpgjfaaDoorWords: a []byte argument reads as a list of bytes. Over any program; no statement of the seat is proved here.
-/
import Derived.Test.YtkmcjjoicpgjfaaDoorWords
import Derived.ProofKit
import Derived.OpenShut
import Derived.ShutString
import Derived.ChangeOld
import Derived.SizedLaws
import Derived.Deep.Slices
import Derived.Deep.Fields
import Derived.ChangeSame
namespace Go.Sh
open Go Go.RowKit Go.ChangeShapes Go.WideShapes Go.ChangeAt

/-- what the datum of a slice says of its length -/
def HasLen {H : Type} (d : DataW H) (n : Nat) : Prop := (d = .nil ∧ n = 0) ∨ ∃ es sp, d = .slice es sp ∧ es.length = n

/-- numbers that fit a byte, as bytes -/
def toB (zs : List Int) : List UInt8 := zs.map fun z => UInt8.ofNat z.toNat
theorem bt_toB (zs : List Int) (k : Nat) (hk : k < zs.length) (h : ∀ n ∈ zs, (Lit.int .u8 n).wf = true) : bt (toB zs) k = zs.getD k 0 := by
  have hm : zs[k] ∈ zs := List.getElem_mem hk
  have hw := h _ hm
  have hb : 0 ≤ zs[k] ∧ zs[k] ≤ 255 := by
    simp [Lit.wf, IntKind.min, IntKind.max, IntKind.signed, IntKind.bits] at hw
    omega
  have e1 : (toB zs).getD k 0 = UInt8.ofNat zs[k].toNat := by simp [toB, hk]
  have e2 : zs.getD k 0 = zs[k] := by simp [hk]
  unfold bt
  rw [e1, e2]
  simp
  omega

theorem openB {H : Type} {enc : TypeId × Value → H} {P : Program} {W : World} {b0 : Nat} {r : Reach} {t e : TypeId} {v : Value} {d : DataW H} {p : List MemPlace} (ht : P.underlying t = some (.slice e)) (he : P.underlying e = some (.int .u8)) (hc : P.cellsOf e = 1)
    (hok : Value.okWide P W r b0 t v) (h : DataW.Trod enc P W 0 (fun _ => true) true t v d p) :
    ∃ A n c l, v = .slice A n c ∧ RB W W.heap.size A n l ∧ n ≤ c ∧ HasLen d n := by
  obtain ⟨A, n, c, rfl⟩ := okWide_slice ht hok
  obtain ⟨fuel, hf⟩ := h
  rcases open_ints ht he hc hf with ⟨hcs, hx⟩ | ⟨x, n', c', zs, hcs, _, hl, hm, hz, hx, hcell, hwz⟩
  · simp [Value.cells] at hcs
    obtain ⟨rfl, rfl, rfl⟩ := hcs
    injection hx with hd _
    exact ⟨none, 0, 0, [], rfl, RB.none_, Nat.le_refl _, .inl ⟨hd, rfl⟩⟩
  · simp [Value.cells] at hcs
    obtain ⟨rfl, rfl, rfl⟩ := hcs
    injection hx with hd _
    simp only [if_true] at hz
    refine ⟨some x, n, c, toB (zs.take n), rfl, ?_, hl, .inr ⟨_, _, hd, ?_⟩⟩
    · have hlen : (toB (zs.take n)).length = n := by simp [toB]; omega
      refine ⟨by rw [length_bv, hlen]; omega, ?_⟩
      rcases Nat.eq_zero_or_pos n with h0 | h0
      · left
        apply List.eq_nil_of_length_eq_zero
        rw [length_bv, hlen, h0]
      refine .inr ⟨x, rfl, ?_, fun j hj => ?_⟩
      · have := hcell 0 (by omega)
        have hb := World.block_lt_of_cell? W _ this
        rw [block_of_add] at hb
        exact hb
      · rw [length_bv, hlen] at hj
        rw [bv_at _ _ (by rw [hlen]; exact hj), hcell j (by omega), bt_toB _ _ (by rw [List.length_take]; omega) (fun q hq => hwz q (List.mem_of_mem_take hq))]
        congr 2
        simp [hj]
    · simp [lits]; omega

theorem sizedLen {H : Type} {P : Program} {ts : List TypeId} {ds : List (DataW H)} (hsz : ((DataW.weightsEach P ts ds).all fun x => decide (x ≤ reachBytes)) = true) {j : Nat} {t e : TypeId} {d : DataW H} {n : Nat}
    (h1 : ts[j]? = some t) (h2 : ds[j]? = some d) (ht : P.underlying t = some (.slice e)) (hb : 1 ≤ P.bytesOf e) (hd : HasLen d n) : n ≤ 140737488351232 := by
  rcases hd with ⟨_, rfl⟩ | ⟨es, sp, rfl, hl⟩
  · omega
  · have := sized_slice hsz h1 h2 ht
    have h3 : (es.length + sp.length) * 1 ≤ (es.length + sp.length) * P.bytesOf e := Nat.mul_le_mul_left _ hb
    simp only [reachBytes] at this
    omega
set_option maxRecDepth 100000 in
/-- a slice of structs of one-cell fields: each field's cell, and that it can be read -/
theorem openStructs {H : Type} {enc : TypeId × Value → H} {P : Program} {W : World} {b0 : Nat} {r : Reach} {t e : TypeId} {fs : Array Field} {v : Value} {d : DataW H} {p : List MemPlace} (ht : P.underlying t = some (.slice e)) (he : P.underlying e = some (.struct fs))
    (hone : Go.Deep.oneCellFields P fs = true) (hC : P.cellsOf e = fs.size) (hpos : 0 < fs.size) (hok : Value.okWide P W r b0 t v) (h : DataW.Trod enc P W 0 (fun _ => true) true t v d p) :
    ∃ A n c, v = .slice A n c ∧ n ≤ c ∧ HasLen d n ∧ (0 < n → ∃ b off, A = some ⟨b, off, none⟩ ∧ b < W.heap.size ∧
      ∀ i, i < n → ∃ fuel, ∀ j f, fs[j]? = some f → ∃ x y, W.cell? ⟨b, off + (i * fs.size + j), none⟩ = some x ∧ DataW.trod enc P W 0 (fun _ => true) true fuel f.type [x] = some y) := by
  obtain ⟨A, n, c, rfl⟩ := okWide_slice ht hok
  obtain ⟨fuel, hf⟩ := h
  rcases Go.Deep.open_slice ht hf with ⟨hcs, hx⟩ | ⟨a, n', c', m, q, D, Pl, hcs, _, hl, _, hm, hx, hi⟩
  · simp [Value.cells] at hcs
    obtain ⟨rfl, rfl, rfl⟩ := hcs
    injection hx with hd _
    exact ⟨none, 0, 0, rfl, Nat.le_refl _, .inl ⟨hd, rfl⟩, fun h => absurd h (by omega)⟩
  · simp [Value.cells] at hcs
    obtain ⟨rfl, rfl, rfl⟩ := hcs
    injection hx with hd _
    simp only [if_true] at hm
    subst hm
    refine ⟨some a, n, m, rfl, hl, .inr ⟨_, _, hd, by simp⟩, fun hn => ?_⟩
    have cellAt : ∀ i, i < n → ∀ j, j < fs.size → ∃ x, W.cell? (a.add (i * fs.size + j)) = some x := by
      intro i hin j hj
      obtain ⟨cs', hc, _⟩ := hi i (by omega)
      obtain ⟨_, hcl, hat⟩ := World.cells?_some hc
      rw [hC] at hat hcl
      have := hat j hj
      rw [Go.Deep.add_add, List.getElem?_eq_getElem (by omega)] at this
      exact ⟨_, this⟩
    obtain ⟨x0, hx0⟩ := cellAt 0 hn 0 hpos
    obtain ⟨b, off, spot⟩ := a
    have hspot : spot = none := by simpa [Addr.add] using World.cell?_spot hx0
    subst hspot
    have hlt : b < W.heap.size := by
      have := World.block_lt_of_cell? W _ hx0
      rw [block_of_add] at this
      exact this
    refine ⟨b, off, rfl, hlt, fun i hin => ?_⟩
    obtain ⟨cs', hc, ht'⟩ := hi i (by omega)
    obtain ⟨ys, q', _, _, hlen, hyl, hfield⟩ := DataW.trod_struct he ht'
    obtain ⟨_, hcl, hat⟩ := World.cells?_some hc
    rw [hC] at hat hcl
    refine ⟨q', fun j f hj => ?_⟩
    have hjl : j < fs.size := (Array.getElem?_eq_some_iff.1 hj).1
    obtain ⟨ho, hk⟩ := Go.Deep.hone_of hone j f hj
    have h1 := hfield j f hj
    rw [ho, hk, List.drop_eq_getElem_cons (by omega), List.take_succ_cons, List.take_zero, List.getElem?_eq_getElem (by omega)] at h1
    refine ⟨_, _, ?_, h1⟩
    have := hat j hjl
    rw [Go.Deep.add_add, add_mk, List.getElem?_eq_getElem (by omega)] at this
    exact this
/-- a []int argument -/
theorem openI {H : Type} {enc : TypeId × Value → H} {P : Program} {W : World} {b0 : Nat} {r : Reach} {t e : TypeId} {v : Value} {d : DataW H} {p : List MemPlace} (ht : P.underlying t = some (.slice e)) (he : P.underlying e = some (.int .i64)) (hc : P.cellsOf e = 1)
    (hok : Value.okWide P W r b0 t v) (h : DataW.Trod enc P W 0 (fun _ => true) true t v d p) :
    ∃ A n c zs, v = .slice A n c ∧ RI W W.heap.size A n zs ∧ n ≤ c ∧ HasLen d n := by
  obtain ⟨A, n, c, rfl⟩ := okWide_slice ht hok
  obtain ⟨fuel, hf⟩ := h
  rcases open_ints ht he hc hf with ⟨hcs, hx⟩ | ⟨x, n', c', zs, hcs, _, hl, hm, hz, hx, hcell, hwz⟩
  · simp [Value.cells] at hcs
    obtain ⟨rfl, rfl, rfl⟩ := hcs
    injection hx with hd _
    exact ⟨none, 0, 0, [], rfl, ⟨Reads.none_, fun z hz => by cases hz⟩, Nat.le_refl _, .inl ⟨hd, rfl⟩⟩
  · simp [Value.cells] at hcs
    obtain ⟨rfl, rfl, rfl⟩ := hcs
    injection hx with hd _
    simp only [if_true] at hz
    refine ⟨some x, n, c, zs.take n, rfl, ⟨⟨by rw [length_iv, List.length_take]; omega, ?_⟩, fun z hm => bounds_i64 (hwz z (List.mem_of_mem_take hm))⟩, hl, .inr ⟨_, _, hd, by simp [lits]; omega⟩⟩
    rcases Nat.eq_zero_or_pos n with h0 | h0
    · left
      rw [h0]
      rfl
    refine .inr ⟨x, rfl, ?_, fun j hj => ?_⟩
    · have := hcell 0 (by omega)
      have hb := World.block_lt_of_cell? W _ this
      rw [block_of_add] at hb
      exact hb
    · rw [length_iv, List.length_take] at hj
      rw [iv_at _ _ (by rw [List.length_take]; exact hj), hcell j (by omega)]
      congr 2
      simp [it, show j < n by omega]

/-- what the datum of a list of lists says of its lengths -/
def HasLists {H : Type} (d : DataW H) (ls : List (List UInt8)) : Prop :=
  (d = .nil ∧ ls = []) ∨ ∃ es sp, d = .slice es sp ∧ es.length = ls.length ∧ ∀ i, i < ls.length → ∃ di, es[i]? = some di ∧ HasLen di (lat ls i).length

set_option maxRecDepth 100000 in
theorem openBB {H : Type} {enc : TypeId × Value → H} {P : Program} {W : World} {b0 : Nat} {r : Reach} {t e u : TypeId} {v : Value} {d : DataW H} {p : List MemPlace} (ht : P.underlying t = some (.slice e)) (hc : P.cellsOf e = 1) (he : P.underlying e = some (.slice u)) (hu : P.underlying u = some (.int .u8)) (hcu : P.cellsOf u = 1)
    (hok : Value.okWide P W r b0 t v) (h : DataW.Trod enc P W 0 (fun _ => true) true t v d p) :
    ∃ A m c ls, v = .slice A m c ∧ RBB W W.heap.size A m ls ∧ m ≤ c ∧ HasLists d ls := by
  obtain ⟨A, n, c, rfl⟩ := okWide_slice ht hok
  obtain ⟨fuel, hf⟩ := h
  rcases Go.Deep.open_slice1 ht hc hf with ⟨hcs, hx⟩ | ⟨a, n', c', m, q, V, D, Pl, hcs, _, hl, _, hm, hx, hi⟩
  · simp [Value.cells] at hcs
    obtain ⟨rfl, rfl, rfl⟩ := hcs
    injection hx with hd _
    exact ⟨none, 0, 0, [], rfl, ⟨rfl, [], Reads.none_, fun i hi => absurd hi (by omega)⟩, Nat.le_refl _, .inl ⟨hd, rfl⟩⟩
  · simp [Value.cells] at hcs
    obtain ⟨rfl, rfl, rfl⟩ := hcs
    injection hx with hd _
    simp only [if_true] at hm
    subst hm
    have key : ∀ i, i < n → ∃ x : List UInt8, ∃ Ai ni ci, V i = .slice Ai ni ci ∧ ni ≤ ci ∧ RB W W.heap.size Ai ni x ∧ HasLen (D i) ni := by
      intro i hin
      obtain ⟨_, hti⟩ := hi i (by omega)
      rcases open_ints he hu hcu hti with ⟨hcs, hx⟩ | ⟨x, l, cc, zs, hcs, _, hll, hmm, hz, hx, hcell, hwz⟩
      · have hv : V i = .slice none 0 0 := by simpa using hcs
        injection hx with hd' _
        exact ⟨[], none, 0, 0, hv, Nat.le_refl _, RB.none_, .inl ⟨hd', rfl⟩⟩
      · have hv : V i = .slice (some x) l cc := by simpa using hcs
        injection hx with hd' _
        simp only [if_true] at hz
        have hlen : (toB (zs.take l)).length = l := by simp [toB]; omega
        refine ⟨toB (zs.take l), some x, l, cc, hv, hll, ⟨by rw [length_bv, hlen]; omega, ?_⟩, .inr ⟨_, _, hd', by simp [lits]; omega⟩⟩
        rcases Nat.eq_zero_or_pos l with h0 | h0
        · left
          apply List.eq_nil_of_length_eq_zero
          rw [length_bv, hlen, h0]
        refine .inr ⟨x, rfl, ?_, fun j hj => ?_⟩
        · have := hcell 0 (by omega)
          have hb := World.block_lt_of_cell? W _ this
          rw [block_of_add] at hb
          exact hb
        · rw [length_bv, hlen] at hj
          rw [bv_at _ _ (by rw [hlen]; exact hj), hcell j (by omega), bt_toB _ _ (by rw [List.length_take]; omega) (fun q hq => hwz q (List.mem_of_mem_take hq))]
          congr 2
          simp [hj]
    obtain ⟨f, hfn⟩ := Go.Deep.choose_lt key
    have hlat : ∀ i, i < n → lat ((List.range n).map f) i = f i := fun i hin => by simp [lat, hin]
    refine ⟨some a, n, m, (List.range n).map f, rfl, ⟨by simp, (List.range n).map V, ⟨by simp, ?_⟩, fun i hin => ?_⟩, hl, .inr ⟨_, _, hd, by simp, fun i hin => ?_⟩⟩
    · rcases Nat.eq_zero_or_pos n with h0 | h0
      · left
        rw [h0]
        rfl
      refine .inr ⟨a, rfl, ?_, fun j hj => ?_⟩
      · have hb := World.block_lt_of_cell? W _ (hi 0 (by omega)).1
        rw [block_of_add] at hb
        exact hb
      · have hjn : j < n := by simpa using hj
        rw [(hi j (by omega)).1]
        simp [hjn]
    · obtain ⟨Ai, ni, ci, hv, hle, hrb, _⟩ := hfn i hin
      refine ⟨Ai, ni, ci, by simp [hin, hv], hle, ?_⟩
      rw [hlat i hin]
      exact hrb
    · have hin' : i < n := by simpa using hin
      obtain ⟨Ai, ni, ci, hv, hle, hrb, hh⟩ := hfn i hin'
      refine ⟨D i, by simp [hin'], ?_⟩
      rw [hlat i hin', hrb.len]
      exact hh

theorem sizedLists {H : Type} {P : Program} {ts : List TypeId} {ds : List (DataW H)} (hsz : ((DataW.weightsEach P ts ds).all fun x => decide (x ≤ reachBytes)) = true) {j : Nat} {t e u : TypeId} {d : DataW H} {ls : List (List UInt8)}
    (h1 : ts[j]? = some t) (h2 : ds[j]? = some d) (ht : P.underlying t = some (.slice e)) (hb : 24 ≤ P.bytesOf e) (he : P.underlying e = some (.slice u)) (hbu : 1 ≤ P.bytesOf u) (hd : HasLists d ls) :
    ls.length * 24 ≤ 140737488351232 ∧ ∀ l ∈ ls, l.length ≤ 140737488351232 := by
  rcases hd with ⟨_, rfl⟩ | ⟨es, sp, rfl, hl, hi⟩
  · exact ⟨by simp, fun l hl => by cases hl⟩
  · have hs := sized_slice hsz h1 h2 ht
    simp only [reachBytes] at hs
    refine ⟨?_, fun l hm => ?_⟩
    · rw [← hl]
      have h3 : (es.length + sp.length) * 24 ≤ (es.length + sp.length) * P.bytesOf e := Nat.mul_le_mul_left _ hb
      omega
    · obtain ⟨i, hin, rfl⟩ := List.getElem_of_mem hm
      obtain ⟨di, hdi, hlen⟩ := hi i hin
      have hli : (lat ls i).length = ls[i].length := by simp [lat, hin]
      rw [hli] at hlen
      rcases hlen with ⟨_, h0⟩ | ⟨es', sp', rfl, hl'⟩
      · omega
      · have hall : ∀ (xs : List (DataW H)) (x : DataW H), x ∈ xs → ∀ n ∈ x.weights P e, n ∈ DataW.weightsAll P e xs := by
          intro xs
          induction xs with
          | nil => intro x hx; cases hx
          | cons y ys ih =>
            intro x hx n hn
            rw [DataW.weightsAll, List.mem_append]
            rcases List.mem_cons.1 hx with rfl | hx
            · exact .inl hn
            · exact .inr (ih x hx n hn)
        have hmem : (es'.length + sp'.length) * P.bytesOf u ∈ DataW.weightsEach P ts ds := by
          refine DataW.weights_mem_each h1 h2 _ ?_
          rw [DataW.weights, ht]
          refine List.mem_cons.2 (.inr (List.mem_append.2 (.inl (hall es _ (List.mem_of_getElem? hdi) _ ?_))))
          rw [DataW.weights, he]
          exact List.mem_cons.2 (.inl rfl)
        have := of_decide_eq_true (List.all_eq_true.1 hsz _ hmem)
        simp only [reachBytes] at this
        have h3 : (es'.length + sp'.length) * 1 ≤ (es'.length + sp'.length) * P.bytesOf u := Nat.mul_le_mul_left _ hbu
        omega
end Go.Sh
