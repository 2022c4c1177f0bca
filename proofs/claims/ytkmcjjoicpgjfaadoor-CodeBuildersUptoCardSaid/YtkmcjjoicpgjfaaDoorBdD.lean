/-
  Contracts of code's Builder: Patch. Conditions: the sizes that slices can have.
-/
import Derived.Test.YtkmcjjoicpgjfaaDoorBdC
import Derived.Deep.Cut
namespace Go.Proofs.YtkmcjjoicpgjfaaDoor
open Go Go.RowKit Go.Sh

/-- the program's rows behind whatever turns the builder's block alone -/
theorem PO.since {w w1 : World} {base b : Nat} {S : Nat → Prop} {d t : Pad} {p : Prg} (h : PO w base S d t p) (hg : w.grownBy w1 (some b)) (hlt : b < base) (hbs : base ≤ w.heap.size) : PO w1 base (Since S w w1) d t p := by
  refine h.kept (fun j hj => ?_) (fun j hj => .inl hj) fun j hj => ?_
  · have := h.lo j hj
    exact hg.block j this.2 (by intro e; injection e with e; omega)
  · rcases hj with hj | hj
    · have := h.lo j hj; exact ⟨this.1, Nat.lt_of_lt_of_le this.2 hg.size⟩
    · exact ⟨by omega, hj.2⟩
theorem grown_far {w w1 : World} {b g : Nat} (h : w.grownBy w1 (some b)) (hg : w.heap.size ≤ g) (k : Nat) (v : Value) : w.grownBy (w1.setCell ⟨g, k, none⟩ v) (some b) := by
  have h2 := grown_setCell w1 g k v
  exact ⟨h2.os.trans h.os, h2.tape.trans h.tape, h2.output.trans h.output, Nat.le_trans h.size h2.size, fun j hj hne => (h2.block j (Nat.lt_of_lt_of_le hj h.size) (by intro e; injection e with e; omega)).trans (h.block j hj hne)⟩
theorem BlkB.far {w : World} {b g : Nat} {d : Pad} {p : Prg} (h : BlkB w b d p) (hne : b ≠ g) (k : Nat) (v : Value) : BlkB (w.setCell ⟨g, k, none⟩ v) b d p := (Below.heap_setCell w ⟨g, k, none⟩ v b hne).trans h
theorem own_blkN {w : World} {base e size n c g : Nat} {xs : List Value} (h : w.ownsRow base e size (.slice (some ⟨g, 0, none⟩) n c) n xs) :
    ∃ cur : Array Value, w.heap[g]? = some (.cells cur e (0, 0)) ∧ base ≤ g ∧ n ≤ c ∧ c ≤ maxLen ∧ cur.size = c * size ∧ cur.toList.take (n * size) = xs := by
  rcases h.2 with ⟨h', _⟩ | ⟨g', cap, cur, h', hb, hg, hn, hm, hs, ht⟩
  · cases h'
  · injection h' with h1 _ h2
    injection h1 with h1
    injection h1 with h1
    subst h1 h2
    exact ⟨cur, hg, hb, hn, hm, hs, ht⟩
theorem own_setN {w : World} {base e size n c g : Nat} {xs : List Value} (h : w.ownsRow base e size (.slice (some ⟨g, 0, none⟩) n c) n xs) (k : Nat) (v : Value) :
    (w.setCell ⟨g, k, none⟩ v).ownsRow base e size (.slice (some ⟨g, 0, none⟩) n c) n (xs.set k v) := by
  obtain ⟨cur, h1, h2, h3, h4, h5, h6⟩ := own_blkN h
  refine ⟨by rw [List.length_set]; exact h.1, .inr ⟨g, c, cur.setIfInBounds k v, rfl, h2, blk_set h1 v, h3, h4, by simp [h5], ?_⟩⟩
  rw [Array.toList_setIfInBounds, List.take_set, h6]
theorem own_freeN {w : World} {base e size n c g : Nat} {xs : List Value} (h : w.ownsRow base e size (.slice (some ⟨g, 0, none⟩) n c) n xs) (i : Nat) : w.frozen? ⟨g, i, none⟩ = false := by
  obtain ⟨cur, h1, _⟩ := own_blkN h
  exact frozen_of_row _ _ i _ _ h1
theorem own_cellN {w : World} {base e size n c g : Nat} {xs : List Value} (h : w.ownsRow base e size (.slice (some ⟨g, 0, none⟩) n c) n xs) {k : Nat} {v : Value} (hk : xs[k]? = some v) : w.cell? ⟨g, k, none⟩ = some v := by
  have := h.cells (g := g) rfl k v hk
  rwa [add_mk, Nat.zero_add] at this
theorem own_at {w : World} {base e size n c : Nat} {A : Option Addr} {xs : List Value} (h : w.ownsRow base e size (.slice A n c) n xs) (hn : 0 < n) : ∃ g, A = some ⟨g, 0, none⟩ := by
  rcases h.2 with ⟨_, h⟩ | ⟨g, cap, cur, h, _⟩
  · omega
  · injection h with h
    exact ⟨g, h⟩
set_option maxRecDepth 100000 in
theorem inv_at : ∀ (l : List Ins) (k : Nat), k < l.length → (inv l)[k * 3 + 1]? = some (.int .i64 (iat l k).a)
  | [], k, h => by simp at h
  | i :: l, 0, _ => rfl
  | i :: l, k + 1, h => by
    have ih := inv_at l k (by simpa using h)
    have e : inv (i :: l) = i.cells ++ inv l := rfl
    rw [e, List.getElem?_append_right (by simp [Ins.cells]; omega), show (k + 1) * 3 + 1 - i.cells.length = k * 3 + 1 by simp [Ins.cells]; omega, ih]
    simp [iat]
set_option maxRecDepth 100000 in
theorem inv_set : ∀ (l : List Ins) (k : Nat) (x : Int), k < l.length → (inv l).set (k * 3 + 1) (.int .i64 x) = inv (l.set k { iat l k with a := x })
  | [], k, _, h => by simp at h
  | i :: l, 0, x, _ => rfl
  | i :: l, k + 1, x, h => by
    have ih := inv_set l k x (by simpa using h)
    have e : ∀ (j : Ins) (l : List Ins), inv (j :: l) = j.cells ++ inv l := fun _ _ => rfl
    rw [e, List.set_append_right _ _ (by simp [Ins.cells]; omega), show (k + 1) * 3 + 1 - i.cells.length = k * 3 + 1 by simp [Ins.cells]; omega, ih, List.set_cons_succ, e]
    simp [iat]
set_option maxHeartbeats 1000000 in
set_option maxRecDepth 100000 in
/-- a place that is none -/
theorem PatchBad_any (b : Nat) (d : Pad) (p : Prg) (x y : Int) (w : World) (hb : BlkB w b d p) (hx : x < 0 ∨ (d.n1 : Int) ≤ x) :
    Calls Tryd.prog 33 #[.pointer (some ⟨b, 0, none⟩), .int .i64 x, .int .i64 y] w fun e w' => e = .returned (.int .i64 1) ∧ w = w' := by
  have hc0 : w.cell? ⟨b, 0, none⟩ = some (.slice d.A1 d.n1 d.c1) := hb.cell 0
  by_cases h0 : x < 0
  · go_enter Tryd.func33, Tryd.ntmps33
    go_wp2_with fail
    go_ret
    exact ⟨rfl, rfl⟩
  · have h1 : (d.n1 : Int) ≤ x := hx.resolve_left h0
    clear hx
    go_enter Tryd.func33, Tryd.ntmps33
    go_wp2_with fail
    go_ret
    exact ⟨rfl, rfl⟩
set_option maxHeartbeats 1000000 in
set_option maxRecDepth 100000 in
theorem Patch_any (b base : Nat) (S : Nat → Prop) (d t : Pad) (p : Prg) (k : Nat) (y : Int) (w : World) (hb : BlkB w b d p) (ho : PO w base S d t p) (hk : k < d.n1) (hlt : b < base) (hbs : base ≤ w.heap.size) (hn : d.n1 * 24 ≤ 140737488355328) :
    Calls Tryd.prog 33 #[.pointer (some ⟨b, 0, none⟩), .int .i64 (k : Int), .int .i64 y] w fun e w' => e = .returned (.int .i64 0) ∧ BdPost w b base S { p with code := p.code.set k { iat p.code k with a := y } } w' := by
  have hc0 : w.cell? ⟨b, 0, none⟩ = some (.slice d.A1 d.n1 d.c1) := hb.cell 0
  have HBK := Lib.hid hb
  have HPO := Lib.hid ho
  have hkl : k < p.code.length := by rw [ho.lc]; exact hk
  have hcr : Reads w w.heap.size 3 d.A1 d.n1 (inv p.code) := Reads.of_own ho.code.1
  have HCL := Lib.hid (CloneIn_any d.A1 d.n1 d.c1 (inv p.code) w w.heap.size hcr (inv_one _) (Nat.le_refl _) hn)
  have hlo : ¬ (k : Int) < 0 := by omega
  have hhi : ¬ (d.n1 : Int) ≤ (k : Int) := by omega
  have hki : (k : Int) < (d.n1 : Int) := by omega
  clear hb ho hcr
  go_enter Tryd.func33, Tryd.ntmps33
  go_wp2_with fail
  refine HCL.out.mono ?_
  rintro e w2 ⟨A', c', rfl, hown, hbl⟩
  clear hc0
  have hown1 := own_base hown hbs
  obtain ⟨g, rfl⟩ := own_at hown1 (by omega)
  have hgs := (hown.lt g rfl).1
  have hgl := (hown.lt g rfl).2
  have hgb : b ≠ g := by omega
  have hbk2 := HBK.out.below hbl HBK.out.lt
  have hc2 : w2.cell? ⟨b, 0, none⟩ = some (.slice d.A1 d.n1 d.c1) := hbk2.cell 0
  have hf2 := hbk2.free 0
  have hbk3 := hbk2.code (some ⟨g, 0, none⟩) d.n1 c' (p.code.set k { iat p.code k with a := y })
  have hc3 : (w2.setCell ⟨b, 0, none⟩ (.slice (some ⟨g, 0, none⟩) d.n1 c')).cell? ⟨b, 0, none⟩ = some (.slice (some ⟨g, 0, none⟩) d.n1 c') := hbk3.cell 0
  have hg3 := grown_below (b := b) hbl 0 (.slice (some ⟨g, 0, none⟩) d.n1 c')
  have hown3 := ownsRow_setCell_below hown1 (a := ⟨b, 0, none⟩) (show b < base from hlt) (.slice (some ⟨g, 0, none⟩) d.n1 c')
  have hca3 := own_cellN hown3 (inv_at p.code k hkl)
  have hfa3 := own_freeN hown3 (k * 3 + 1)
  have HC3 := Lib.hid hc3
  have HCA := Lib.hid hca3
  have HFA := Lib.hid hfa3
  have hown4 := own_setN hown3 (k * 3 + 1) (.int .i64 y)
  rw [inv_set p.code k y hkl] at hown4
  have HOWN := Lib.hid hown4
  have HBK4 := Lib.hid (hbk3.far hgb (k * 3 + 1) (.int .i64 y))
  have hg4 := grown_far hg3 hgs (k * 3 + 1) (.int .i64 y)
  have HG4 := Lib.hid hg4
  have HPO4 := Lib.hid (HPO.out.since hg4 hlt hbs)
  have HKP := Lib.hid (own_cap hown)
  have hsz : ((w2.setCell ⟨b, 0, none⟩ (.slice (some ⟨g, 0, none⟩) d.n1 c')).setCell ⟨g, k * 3 + 1, none⟩ (.int .i64 y)).heap.size = w2.heap.size := by simp
  have HSZ := Lib.hid hsz
  clear hown hown1 hbk2 hbk3 hc3 hg3 hown3 hca3 hfa3 hown4 hg4 hbl HCL hsz
  go_upto_region 4 with fail
  clear hc2 hf2
  generalize w2.setCell ⟨b, 0, none⟩ (.slice (some ⟨g, 0, none⟩) d.n1 c') = w3 at *
  have hc3 := HC3.out
  have hca := HCA.out
  have hfa := HFA.out
  generalize (iat p.code k).a = ia at *
  go_wp2_with fail
  go_ret
  refine ⟨rfl, Since S w (w3.setCell ⟨g, k * 3 + 1, none⟩ (.int .i64 y)), { d with A1 := some ⟨g, 0, none⟩, n1 := d.n1, c1 := c' }, { t with c1 := c' }, HBK4.out, ?_, fun j hj => hj.imp id (·.1), HG4.out⟩
  have hp := HPO4.out
  refine { hp with code := ⟨HOWN.out, fun j hj => ?_⟩, lc := ?_, k1 := HKP.out }
  · injection hj with hj
    have hj : g = j := hj
    exact .inr ⟨by omega, by rw [HSZ.out]; omega⟩
  · show (p.code.set k _).length = d.n1
    rw [List.length_set]
    exact HPO.out.lc
end Go.Proofs.YtkmcjjoicpgjfaaDoor
