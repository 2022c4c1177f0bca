/-
  Nodes and stops among the arguments. No statement of the seat is proved here.
-/
import Derived.Test.YtkmcjjoicpgjfaaDoorDirRoute
import Derived.Test.YtkmcjjoicpgjfaaDoorSized
namespace Go.Proofs.YtkmcjjoicpgjfaaDoor
open Go Go.RowKit Go.Sh Go.ChangeShapes Go.WideShapes Go.ChangeAt

set_option maxRecDepth 100000 in
/-- nodes that came in -/
theorem openNodes {H : Type} {enc : TypeId × Value → H} {W : World} {b0 : Nat} {r : Reach} {v : Value} {d : DataW H} {p : List MemPlace}
    (hok : Value.okWide Tryd.prog W r b0 150 v) (h : DataW.Trod enc Tryd.prog W 0 (fun _ => true) true 150 v d p) : ∃ (A : Option Addr) (n c : Nat) (hs : List Hp), v = .slice A n c ∧ (∀ h ∈ hs, h.OK) ∧ RR W W.heap.size 66 A n (hs.map Hp.node) ∧ n ≤ c ∧ HasLen d n := by
  obtain ⟨A, n, c, rfl⟩ := okWide_slice Tryd.underlying150 hok
  obtain ⟨fuel, hf⟩ := h
  rcases Go.Deep.open_slice Tryd.underlying150 hf with ⟨hcs, hx⟩ | ⟨a, n', c', m, q, D, Pl, hcs, _, hl, _, hm, hx, hi⟩
  · simp [Value.cells] at hcs
    obtain ⟨rfl, rfl, rfl⟩ := hcs
    injection hx with hd _
    exact ⟨none, 0, 0, [], rfl, (fun _ h => by cases h), ⟨rfl, (fun _ h => by cases h), .inl rfl⟩, Nat.le_refl _, .inl ⟨hd, rfl⟩⟩
  · simp [Value.cells] at hcs
    obtain ⟨rfl, rfl, rfl⟩ := hcs
    injection hx with hd _
    simp only [if_true] at hm
    subst hm
    have key : ∀ i, i < n → ∃ h : Hp, h.OK ∧ ∀ j v, h.node[j]? = some v → W.cell? (a.add (i * 66 + j)) = some v := by
      intro i hin
      obtain ⟨cs', hc, ht'⟩ := hi i (by omega)
      obtain ⟨nm, id, ks, rfl, hid, hkl, ho, _⟩ := trod_node ht'
      obtain ⟨h, hh⟩ : ∃ h : Hp, h = ⟨nm, id, ks, 0, 0⟩ := ⟨_, rfl⟩
      have hok : h.OK := by rw [hh]; exact ⟨hid, hkl, ho, by show (-9223372036854775808 : Int) ≤ 0 ∧ (0 : Int) ≤ 9223372036854775807; decide, by show (-9223372036854775808 : Int) ≤ 0 ∧ (0 : Int) ≤ 9223372036854775807; decide⟩
      have hnd : h.node = .string nm :: .int .u64 id :: ks := by rw [hh]; rfl
      rw [← hnd] at hc
      refine ⟨h, hok, fun j v hv => ?_⟩
      obtain ⟨_, hcl, hat⟩ := World.cells?_some hc
      have hj : j < 66 := by have := (List.getElem?_eq_some_iff.1 hv).1; rw [Hp.node_len hok] at this; exact this
      rw [cellsNode] at hat
      have := hat j hj
      rw [Go.Deep.add_add, hv] at this
      exact this
    have : Inhabited Hp := ⟨⟨⟨#[]⟩, 0, [], 0, 0⟩⟩
    obtain ⟨f, hfn⟩ := Go.Deep.choose_lt key
    refine ⟨some a, n, m, (List.range n).map f, rfl, fun h hh => ?_, ⟨by simp, fun cs hcs => ?_, ?_⟩, hl, .inr ⟨_, _, hd, by simp⟩⟩
    · obtain ⟨i, hin, rfl⟩ := List.mem_map.1 hh
      exact (hfn i (List.mem_range.1 hin)).1
    · obtain ⟨h, hh, rfl⟩ := List.mem_map.1 hcs
      obtain ⟨i, hin, rfl⟩ := List.mem_map.1 hh
      exact Hp.node_len (hfn i (List.mem_range.1 hin)).1
    · rcases Nat.eq_zero_or_pos n with h0 | h0
      · left
        rw [h0]
        rfl
      · right
        have hx0 := (hfn 0 h0).2 0 _ rfl
        obtain ⟨b, off, spot⟩ := a
        have hspot : spot = none := by simpa [Addr.add] using World.cell?_spot hx0
        subst hspot
        have hlt : b < W.heap.size := by
          have := World.block_lt_of_cell? W _ hx0
          rw [block_of_add] at this
          exact this
        refine ⟨b, off, rfl, hlt, fun i cs hc j v hv => ?_⟩
        have hin : i < n := by have := (List.getElem?_eq_some_iff.1 hc).1; simpa using this
        have e : cs = (f i).node := by simpa [hin] using hc.symm
        rw [e] at hv
        have := (hfn i hin).2 j v hv
        rw [add_mk] at this
        rw [Nat.add_assoc]
        exact this

set_option maxRecDepth 100000 in
theorem cellsStop : Tryd.prog.cellsOf 66 = 3 := by kernel_rfl
set_option maxRecDepth 100000 in
theorem trod_stop {H : Type} {enc : TypeId × Value → H} {W : World} {base : Nat} {spare : Nat → Bool} {held : Bool} {fuel : Nat} {x : DataW H × List MemPlace} {cs : List Value} (h : DataW.trod enc Tryd.prog W base spare held fuel 66 cs = some x) : ∃ s : Sp, s.OK ∧ cs = s.cells := by
  obtain ⟨xs, q, _, _, hl, hxl, hf⟩ := DataW.trod_struct Tryd.underlying66 h
  rw [cellsStop] at hl
  match cs, hl with
  | [a, b, c], _ =>
    have h0 : DataW.trod enc Tryd.prog W base spare held q 9 (List.take (Tryd.prog.cellsOf 9) (List.drop 0 [a, b, c])) = xs[0]? := hf 0 _ rfl
    have h1 : DataW.trod enc Tryd.prog W base spare held q 3 (List.take (Tryd.prog.cellsOf 3) (List.drop 1 [a, b, c])) = xs[1]? := hf 1 _ rfl
    have h2 : DataW.trod enc Tryd.prog W base spare held q 3 (List.take (Tryd.prog.cellsOf 3) (List.drop 2 [a, b, c])) = xs[2]? := hf 2 _ rfl
    have hxs : xs.length = 3 := hxl
    simp only [cellsS, cellsI, List.drop_zero, List.drop_succ_cons, List.take_succ_cons, List.take_zero] at h0 h1 h2
    rw [List.getElem?_eq_getElem (by omega)] at h0 h1 h2
    obtain ⟨nm, e0, _, _⟩ := DataW.trod_string Tryd.underlying9 h0
    obtain ⟨dl, e1, _, w1⟩ := DataW.trod_int Tryd.underlying3 h1
    obtain ⟨fl, e2, _, w2⟩ := DataW.trod_int Tryd.underlying3 h2
    obtain rfl : a = .string nm := by simpa using e0
    obtain rfl : b = .int .i64 dl := by simpa using e1
    obtain rfl : c = .int .i64 fl := by simpa using e2
    exact ⟨⟨nm, dl, fl⟩, ⟨bounds_i64 w1, bounds_i64 w2⟩, rfl⟩
set_option maxRecDepth 100000 in
/-- stops that came in -/
theorem openStops {H : Type} {enc : TypeId × Value → H} {W : World} {b0 : Nat} {r : Reach} {v : Value} {d : DataW H} {p : List MemPlace}
    (hok : Value.okWide Tryd.prog W r b0 40 v) (h : DataW.Trod enc Tryd.prog W 0 (fun _ => true) true 40 v d p) : ∃ (A : Option Addr) (n c : Nat) (hs : List Sp), v = .slice A n c ∧ (∀ h ∈ hs, h.OK) ∧ RR W W.heap.size 3 A n (hs.map Sp.cells) ∧ n ≤ c ∧ HasLen d n := by
  obtain ⟨A, n, c, rfl⟩ := okWide_slice Tryd.underlying40 hok
  obtain ⟨fuel, hf⟩ := h
  rcases Go.Deep.open_slice Tryd.underlying40 hf with ⟨hcs, hx⟩ | ⟨a, n', c', m, q, D, Pl, hcs, _, hl, _, hm, hx, hi⟩
  · simp [Value.cells] at hcs
    obtain ⟨rfl, rfl, rfl⟩ := hcs
    injection hx with hd _
    exact ⟨none, 0, 0, [], rfl, (fun _ h => by cases h), ⟨rfl, (fun _ h => by cases h), .inl rfl⟩, Nat.le_refl _, .inl ⟨hd, rfl⟩⟩
  · simp [Value.cells] at hcs
    obtain ⟨rfl, rfl, rfl⟩ := hcs
    injection hx with hd _
    simp only [if_true] at hm
    subst hm
    have key : ∀ i, i < n → ∃ h : Sp, h.OK ∧ ∀ j v, h.cells[j]? = some v → W.cell? (a.add (i * 3 + j)) = some v := by
      intro i hin
      obtain ⟨cs', hc, ht'⟩ := hi i (by omega)
      obtain ⟨h, hok, rfl⟩ := trod_stop ht'
      refine ⟨h, hok, fun j v hv => ?_⟩
      obtain ⟨_, hcl, hat⟩ := World.cells?_some hc
      have hj : j < 3 := by have := (List.getElem?_eq_some_iff.1 hv).1; exact this
      rw [cellsStop] at hat
      have := hat j hj
      rw [Go.Deep.add_add, hv] at this
      exact this
    have : Inhabited Sp := ⟨⟨⟨#[]⟩, 0, 0⟩⟩
    obtain ⟨f, hfn⟩ := Go.Deep.choose_lt key
    refine ⟨some a, n, m, (List.range n).map f, rfl, fun h hh => ?_, ⟨by simp, fun cs hcs => ?_, ?_⟩, hl, .inr ⟨_, _, hd, by simp⟩⟩
    · obtain ⟨i, hin, rfl⟩ := List.mem_map.1 hh
      exact (hfn i (List.mem_range.1 hin)).1
    · obtain ⟨h, hh, rfl⟩ := List.mem_map.1 hcs
      obtain ⟨i, hin, rfl⟩ := List.mem_map.1 hh
      exact rfl
    · rcases Nat.eq_zero_or_pos n with h0 | h0
      · left
        rw [h0]
        rfl
      · right
        have hx0 := (hfn 0 h0).2 0 _ rfl
        obtain ⟨b, off, spot⟩ := a
        have hspot : spot = none := by simpa [Addr.add] using World.cell?_spot hx0
        subst hspot
        have hlt : b < W.heap.size := by
          have := World.block_lt_of_cell? W _ hx0
          rw [block_of_add] at this
          exact this
        refine ⟨b, off, rfl, hlt, fun i cs hc j v hv => ?_⟩
        have hin : i < n := by have := (List.getElem?_eq_some_iff.1 hc).1; simpa using this
        have e : cs = (f i).cells := by simpa [hin] using hc.symm
        rw [e] at hv
        have := (hfn i hin).2 j v hv
        rw [add_mk] at this
        rw [Nat.add_assoc]
        exact this

end Go.Proofs.YtkmcjjoicpgjfaaDoor
