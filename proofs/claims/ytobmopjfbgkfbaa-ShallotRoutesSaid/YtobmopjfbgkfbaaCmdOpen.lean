/-
  Commands as arguments: what a command, or a slice of commands, that came in reads as. No statement of the seat is proved here.
-/
import Derived.Test.YtobmopjfbgkfbaaCmdEq
import Derived.Test.YtobmopjfbgkfbaaOpen
import Derived.OpenShut
namespace Go.Proofs.Ytobmopjfbgkfbaa
open Go Go.RowKit Go.Sh Go.ChangeShapes Go.WideShapes Go.ChangeAt

section
variable {H : Type} {enc : TypeId × Value → H} {W : World} {base : Nat} {spare : Nat → Bool} {held : Bool} {fuel : Nat} {x : DataW H × List MemPlace}
set_option maxRecDepth 100000 in
theorem trod_u8 {v : Value} (h : DataW.trod enc Try.prog W base spare held fuel 5 [v] = some x) : ∃ z : Int, v = .int .u8 z ∧ 0 ≤ z ∧ z < 256 := by
  obtain ⟨z, e, _, wf⟩ := DataW.trod_int Try.underlying5 h
  have := bounds_u8 wf
  exact ⟨z, by simpa using e, by omega, by omega⟩
theorem trod_mark {cs : List Value} (h : DataW.trod enc Try.prog W base spare held fuel 66 cs = some x) : ∃ m : List Int, m.length = 16 ∧ (∀ y ∈ m, 0 ≤ y ∧ y < 256) ∧ cs = m.map (Value.int .u8) := by
  obtain ⟨xs, q, _, _, hl, hxl, hi⟩ := DataW.trod_array Try.underlying66 h
  rw [cells16] at hl
  have key : ∀ i (hi' : i < cs.length), ∃ z : Int, cs[i] = .int .u8 z ∧ 0 ≤ z ∧ z < 256 := by
    intro i hi'
    have h1 := hi i (by omega)
    rw [cells1b, Nat.mul_one, List.drop_eq_getElem_cons hi', List.take_succ_cons, List.take_zero, List.getElem?_eq_getElem (by omega)] at h1
    exact trod_u8 h1
  refine ⟨cs.map intOf, by rw [List.length_map, hl], ?_, ?_⟩
  · intro y hy
    obtain ⟨v, hv, rfl⟩ := List.mem_map.1 hy
    obtain ⟨i, hi', rfl⟩ := List.mem_iff_getElem.1 hv
    obtain ⟨z, e, h1, h2⟩ := key i hi'
    rw [e]
    exact ⟨h1, h2⟩
  · rw [List.map_map]
    conv => lhs; rw [← List.map_id cs]
    refine List.map_congr_left fun v hv => ?_
    obtain ⟨i, hi', rfl⟩ := List.mem_iff_getElem.1 hv
    obtain ⟨z, e, _, _⟩ := key i hi'
    rw [e]
    rfl
set_option maxRecDepth 100000 in
theorem list20 {l : List Value} (h : l.length = 20) : ∃ a b c d r, l = a :: b :: c :: d :: r ∧ r.length = 16 := by
  match l, h with
  | a :: b :: c :: d :: r, h => exact ⟨a, b, c, d, r, rfl, by simpa using h⟩
set_option maxRecDepth 100000 in
theorem trod_cmd {cs : List Value} (h : DataW.trod enc Try.prog W base spare held fuel 68 cs = some x) : ∃ c : Cmd, c.OK ∧ cs = c.cells := by
  obtain ⟨xs, q, _, _, hl, hxl, hf⟩ := DataW.trod_struct Try.underlying68 h
  rw [cells28] at hl
  obtain ⟨a, b, c, d, r, rfl, hr⟩ := list20 hl
  have h0 : DataW.trod enc Try.prog W base spare held q 5 (List.take (Try.prog.cellsOf 5) (List.drop 0 (a :: b :: c :: d :: r))) = xs[0]? := hf 0 _ rfl
  have h1 : DataW.trod enc Try.prog W base spare held q 5 (List.take (Try.prog.cellsOf 5) (List.drop 1 (a :: b :: c :: d :: r))) = xs[1]? := hf 1 _ rfl
  have h2 : DataW.trod enc Try.prog W base spare held q 65 (List.take (Try.prog.cellsOf 65) (List.drop 2 (a :: b :: c :: d :: r))) = xs[2]? := hf 2 _ rfl
  have h3 : DataW.trod enc Try.prog W base spare held q 42 (List.take (Try.prog.cellsOf 42) (List.drop 3 (a :: b :: c :: d :: r))) = xs[3]? := hf 3 _ rfl
  have h4 : DataW.trod enc Try.prog W base spare held q 66 (List.take (Try.prog.cellsOf 66) (List.drop 4 (a :: b :: c :: d :: r))) = xs[4]? := hf 4 _ rfl
  have hxs : xs.length = 5 := hxl
  simp only [cells1b, cells4b, cells8b, cells16, List.drop_zero, List.drop_succ_cons, List.take_succ_cons, List.take_zero] at h0 h1 h2 h3 h4
  rw [List.getElem?_eq_getElem (by omega)] at h0 h1 h2 h3 h4
  rw [List.take_of_length_le (by omega)] at h4
  obtain ⟨k, rfl, k1, k2⟩ := trod_u8 h0
  obtain ⟨f, rfl, f1, f2⟩ := trod_u8 h1
  obtain ⟨dl, e2, _, w2⟩ := DataW.trod_int Try.underlying65 h2
  obtain ⟨nx, e3, _, w3⟩ := DataW.trod_int Try.underlying42 h3
  obtain ⟨m, m1, m2, rfl⟩ := trod_mark h4
  obtain rfl : c = .int .u32 dl := by simpa using e2
  obtain rfl : d = .int .u64 nx := by simpa using e3
  have b2 := bounds_u32 w2
  have b3 := bounds_u64 w3
  exact ⟨⟨k, f, dl, nx, m⟩, ⟨⟨k1, k2⟩, ⟨f1, f2⟩, ⟨b2.1, by show dl < 4294967296; omega⟩, ⟨b3.1, by show nx < 18446744073709551616; omega⟩, m1, m2⟩, rfl⟩
end

set_option maxRecDepth 100000 in
/-- a command that came in -/
theorem openCmd {H : Type} {enc : TypeId × Value → H} {W : World} {b0 : Nat} {r : Reach} {v : Value} {d : DataW H} {p : List MemPlace}
    (hok : Value.okWide Try.prog W r b0 68 v) (h : DataW.Trod enc Try.prog W 0 (fun _ => true) true 68 v d p) : ∃ c : Cmd, v = c.v ∧ c.OK := by
  obtain ⟨cs, rfl, hsz, _⟩ : ∃ cs, v = .agg cs ∧ cs.size = Try.prog.cellsOf 68 ∧ Row.okWide Try.prog W r b0 68 cs := by
    simpa [Value.okWide, Try.underlying68] using hok
  obtain ⟨fuel, hf⟩ := h
  obtain ⟨c, hc, e⟩ := trod_cmd hf
  refine ⟨c, ?_, hc⟩
  have e' : cs.toList = c.cells := by simpa [Value.cells] using e
  unfold Cmd.v
  rw [← e']

/-- '.slice A n c' holds the commands cl and lies below block B -/
def RC (w : World) (B : Nat) (A : Option Addr) (n : Nat) (cl : List Cmd) : Prop := cl.length = n ∧ (∀ c ∈ cl, c.OK) ∧ (cl = [] ∨ ∃ b off, A = some ⟨b, off, none⟩ ∧ b < B ∧ ∀ i c, cl[i]? = some c → w.rangeAt b (off + i * 20) c.cells)
theorem RC.len {w : World} {B : Nat} {A : Option Addr} {n : Nat} {cl : List Cmd} (h : RC w B A n cl) : cl.length = n := h.1
theorem RC.below {w w' : World} {B : Nat} {A : Option Addr} {n : Nat} {cl : List Cmd} (h : RC w B A n cl) (hb : Below B w w') : RC w' B A n cl := by
  refine ⟨h.1, h.2.1, h.2.2.imp id ?_⟩
  rintro ⟨b, off, e, hl, hr⟩
  exact ⟨b, off, e, hl, fun i c hc j v hv => (hb.cell (p := ⟨b, off + i * 20 + j, none⟩) hl).trans (hr i c hc j v hv)⟩
theorem RC.more {w : World} {B B' : Nat} {A : Option Addr} {n : Nat} {cl : List Cmd} (h : RC w B A n cl) (hB : B ≤ B') : RC w B' A n cl := by
  refine ⟨h.1, h.2.1, h.2.2.imp id ?_⟩
  rintro ⟨b, off, e, hl, hr⟩
  exact ⟨b, off, e, by omega, hr⟩
set_option maxRecDepth 100000 in
/-- commands that came in -/
theorem openCmds {H : Type} {enc : TypeId × Value → H} {W : World} {b0 : Nat} {r : Reach} {v : Value} {d : DataW H} {p : List MemPlace}
    (hok : Value.okWide Try.prog W r b0 71 v) (h : DataW.Trod enc Try.prog W 0 (fun _ => true) true 71 v d p) : ∃ A n c cl, v = .slice A n c ∧ RC W W.heap.size A n cl ∧ n ≤ c ∧ HasLen d n := by
  obtain ⟨A, n, c, rfl⟩ := okWide_slice Try.underlying71 hok
  obtain ⟨fuel, hf⟩ := h
  rcases Go.Deep.open_slice Try.underlying71 hf with ⟨hcs, hx⟩ | ⟨a, n', c', m, q, D, Pl, hcs, _, hl, _, hm, hx, hi⟩
  · simp [Value.cells] at hcs
    obtain ⟨rfl, rfl, rfl⟩ := hcs
    injection hx with hd _
    exact ⟨none, 0, 0, [], rfl, ⟨rfl, fun _ h => absurd h (by simp), .inl rfl⟩, Nat.le_refl _, .inl ⟨hd, rfl⟩⟩
  · simp [Value.cells] at hcs
    obtain ⟨rfl, rfl, rfl⟩ := hcs
    injection hx with hd _
    simp only [if_true] at hm
    subst hm
    have key : ∀ i, i < n → ∃ c : Cmd, c.OK ∧ ∀ j v, c.cells[j]? = some v → W.cell? (a.add (i * 20 + j)) = some v := by
      intro i hin
      obtain ⟨cs', hc, ht'⟩ := hi i (by omega)
      obtain ⟨c, hok, rfl⟩ := trod_cmd ht'
      refine ⟨c, hok, fun j v hv => ?_⟩
      obtain ⟨_, hcl, hat⟩ := World.cells?_some hc
      have hj : j < 20 := by have := (List.getElem?_eq_some_iff.1 hv).1; rw [hok.size] at this; exact this
      rw [cells28] at hat
      have := hat j hj
      rw [Go.Deep.add_add, hv] at this
      exact this
    have hall : ∃ cl : List Cmd, cl.length = n ∧ ∀ i c, cl[i]? = some c → c.OK ∧ ∀ j v, c.cells[j]? = some v → W.cell? (a.add (i * 20 + j)) = some v := by
      clear hi hd hf
      have : ∀ k, k ≤ n → ∃ cl : List Cmd, cl.length = k ∧ ∀ i c, cl[i]? = some c → c.OK ∧ ∀ j v, c.cells[j]? = some v → W.cell? (a.add (i * 20 + j)) = some v := by
        intro k
        induction k with
        | zero => intro _; exact ⟨[], rfl, fun i c h => by simp at h⟩
        | succ k ih =>
          intro hk
          obtain ⟨cl, h1, h2⟩ := ih (by omega)
          obtain ⟨c, hok, hc⟩ := key k (by omega)
          refine ⟨cl ++ [c], by simp [h1], fun i c' hi' => ?_⟩
          by_cases hlt : i < cl.length
          · rw [List.getElem?_append_left hlt] at hi'
            exact h2 i c' hi'
          · rw [List.getElem?_append_right (by omega)] at hi'
            have hik : i = k := by
              have := (List.getElem?_eq_some_iff.1 hi').1
              simp at this
              omega
            subst hik
            rw [h1, Nat.sub_self] at hi'
            obtain rfl : c = c' := by simpa using hi'
            exact ⟨hok, hc⟩
      exact this n (Nat.le_refl _)
    obtain ⟨cl, hcl, hall⟩ := hall
    refine ⟨some a, n, m, cl, rfl, ⟨hcl, fun c hc => ?_, ?_⟩, hl, .inr ⟨_, _, hd, by simp⟩⟩
    · obtain ⟨i, hi', rfl⟩ := List.mem_iff_getElem.1 hc
      exact (hall i _ (List.getElem?_eq_getElem hi')).1
    · rcases Nat.eq_zero_or_pos n with h0 | h0
      · exact .inl (List.eq_nil_of_length_eq_zero (by omega))
      · right
        obtain ⟨hok0, hc0⟩ := hall 0 _ (List.getElem?_eq_getElem (by omega))
        have hx0 := hc0 0 _ rfl
        obtain ⟨b, off, spot⟩ := a
        have hspot : spot = none := by simpa [Addr.add] using World.cell?_spot hx0
        subst hspot
        have hlt : b < W.heap.size := by
          have := World.block_lt_of_cell? W _ hx0
          rw [block_of_add] at this
          exact this
        refine ⟨b, off, rfl, hlt, fun i c hc j v hv => ?_⟩
        have := (hall i c hc).2 j v hv
        rw [add_mk] at this
        rw [Nat.add_assoc]
        exact this
end Go.Proofs.Ytobmopjfbgkfbaa
