/-
  Words for rows of structs whose cells stay letters, over any program: what a slice of such structs reads as; a slice literal of one struct; the parts of a composite literal put in one by one. No statement of the seat is proved here.
-/
import Derived.Test.YtkmcjjoicpgjfaaDoorMid
import Derived.Great.BuildSlice
namespace Go.Sh
open Go Go.RowKit

/-- '.slice A n c' holds n structs of size cells each, their cells css; all lies below block B -/
def RR (w : World) (B size : Nat) (A : Option Addr) (n : Nat) (css : List (List Value)) : Prop :=
  css.length = n ∧ (∀ cs ∈ css, cs.length = size) ∧ (css = [] ∨ ∃ b off, A = some ⟨b, off, none⟩ ∧ b < B ∧ ∀ (i : Nat) (cs : List Value), css[i]? = some cs → w.rangeAt b (off + i * size) cs)
theorem flat_len {css : List (List Value)} {size : Nat} (h : ∀ cs ∈ css, cs.length = size) : css.flatten.length = css.length * size := by
  induction css with
  | nil => simp
  | cons c css ih =>
    rw [List.flatten_cons, List.length_append, h c (by simp), ih fun x hx => h x (by simp [hx]), List.length_cons, Nat.add_mul, Nat.one_mul]
    omega
set_option maxRecDepth 100000 in
theorem flat_at {css : List (List Value)} {size : Nat} (h : ∀ cs ∈ css, cs.length = size) : ∀ (i : Nat) (cs : List Value), css[i]? = some cs → ∀ j v, cs[j]? = some v → css.flatten[i * size + j]? = some v := by
  induction css with
  | nil => intro i c hc; simp at hc
  | cons d css ih =>
    intro i c hc j v hv
    have hd := h d (by simp)
    rw [List.flatten_cons]
    cases i with
    | zero =>
      obtain rfl : d = c := by simpa using hc
      have hj := (List.getElem?_eq_some_iff.1 hv).1
      rw [Nat.zero_mul, Nat.zero_add, List.getElem?_append_left hj]
      exact hv
    | succ i =>
      rw [List.getElem?_append_right (by rw [hd, Nat.add_mul]; omega), hd, show (i + 1) * size + j - size = i * size + j by rw [Nat.add_mul]; omega]
      exact ih (fun c hc => h c (by simp [hc])) i c (by simpa using hc) j v hv
section
variable {w w' : World} {B B' size n : Nat} {A : Option Addr} {css : List (List Value)}
theorem RR.len (h : RR w B size A n css) : css.length = n := h.1
theorem RR.below (h : RR w B size A n css) (hb : Below B w w') : RR w' B size A n css := by
  obtain ⟨h1, h2, h3⟩ := h
  refine ⟨h1, h2, h3.imp id ?_⟩
  rintro ⟨b, off, e, hbB, hr⟩
  exact ⟨b, off, e, hbB, fun i cs hc j v hv => (hb.cell (p := ⟨b, off + i * size + j, none⟩) hbB).trans (hr i cs hc j v hv)⟩
theorem RR.more (h : RR w B size A n css) (hB : B ≤ B') : RR w B' size A n css := by
  obtain ⟨h1, h2, h3⟩ := h
  refine ⟨h1, h2, h3.imp id ?_⟩
  rintro ⟨b, off, e, hbB, hr⟩
  exact ⟨b, off, e, by omega, hr⟩
theorem RR.at_ (h : RR w B size A n css) {k : Nat} (hk : k < n) : ∃ b off cs, A = some ⟨b, off, none⟩ ∧ b < B ∧ css[k]? = some cs ∧ cs.length = size ∧ w.rangeAt b (off + k * size) cs := by
  obtain ⟨h1, h2, h3⟩ := h
  obtain ⟨c, hc⟩ : ∃ c, css[k]? = some c := ⟨_, List.getElem?_eq_getElem (by omega)⟩
  rcases h3 with rfl | ⟨b, off, rfl, hb, hr⟩
  · simp at hc
  · exact ⟨b, off, c, rfl, hb, hc, h2 c (List.mem_of_getElem? hc), hr k c hc⟩
theorem RR.of_own {base c : Nat} {t : TypeId} (h : w.ownsRow base t size (.slice A n c) n css.flatten) (hl : css.length = n) (hs : ∀ cs ∈ css, cs.length = size) : RR w w.heap.size size A n css := by
  refine ⟨hl, hs, ?_⟩
  rcases h.2 with ⟨_, h0⟩ | ⟨g, cap, cur, hv, _, hh, _⟩
  · exact .inl (List.eq_nil_of_length_eq_zero (by omega))
  · injection hv with hv
    subst hv
    refine .inr ⟨g, 0, rfl, (Array.getElem?_eq_some_iff.1 hh).1, fun i c hc j v hv => ?_⟩
    have := h.cells (g := g) rfl _ v (flat_at hs i c hc j v hv)
    rw [add_mk] at this
    rw [Nat.zero_add] at this ⊢
    exact this
end

/-- one part of a composite literal goes in -/
theorem fill_cons {place : Nat → Option (Nat × Nat)} {cells : Array Value} {i off size : Nat} {v : Value} {rest : List (Nat × Value)} (hp : place i = some (off, size)) (hs : v.cells.size = size) (hle : off + size ≤ cells.size) :
    Instr.fill place cells ((i, v) :: rest) = Instr.fill place (cells.toList.take off ++ v.cells.toList ++ cells.toList.drop (off + size)).toArray rest := by
  have e : Array.foldl (fun cs (x : Value × Nat) => cs.setIfInBounds (off + x.2) x.1) cells v.cells.zipIdx 0 v.cells.zipIdx.size = (cells.toList.take off ++ v.cells.toList ++ cells.toList.drop (off + size)).toArray := by
    rw [← Array.foldl_toList, Array.toList_zipIdx]
    obtain ⟨h1, h2⟩ := Great.foldl_set off v.cells.toList 0 cells
    apply Array.ext_getElem?
    intro k
    rw [h2 k]
    have hl : v.cells.toList.length = size := by rw [Array.length_toList, hs]
    have hcl : cells.toList.length = cells.size := Array.length_toList
    have key : (cells.toList.take off ++ v.cells.toList ++ cells.toList.drop (off + size)).toArray[k]? = (cells.toList.take off ++ v.cells.toList ++ cells.toList.drop (off + size))[k]? := List.getElem?_toArray
    rw [key]
    by_cases ha : k < off
    · rw [if_neg (by omega), List.append_assoc, List.getElem?_append_left (by rw [List.length_take]; omega), List.getElem?_take, if_pos ha, Array.getElem?_toList]
    · by_cases hb : k < off + size
      · rw [if_pos (by omega), List.append_assoc, List.getElem?_append_right (by rw [List.length_take]; omega), List.getElem?_append_left (by rw [List.length_take]; omega), List.length_take, show min off cells.toList.length = off by omega, Nat.add_zero]
      · rw [if_neg (by omega), List.getElem?_append_right (by rw [List.length_append, List.length_take]; omega), List.getElem?_drop, List.length_append, List.length_take, show off + size + (k - (min off cells.toList.length + v.cells.toList.length)) = k by omega, Array.getElem?_toList]
  rw [Instr.fill]
  simp only [hp]
  rw [if_neg (by simp [hs]; omega)]
  exact congrArg (fun c => Instr.fill place c rest) e
theorem fill_nil (place : Nat → Option (Nat × Nat)) (cells : Array Value) : Instr.fill place cells [] = some cells := rfl
/-- a part that is the whole -/
theorem fill_one {place : Nat → Option (Nat × Nat)} {cells : Array Value} {size : Nat} {v : Value} (hp : place 0 = some (0, size)) (hs : v.cells.size = size) (hc : cells.size = size) :
    Instr.fill place cells [(0, v)] = some v.cells := by
  rw [fill_cons hp hs (by omega), fill_nil, List.take_zero, List.nil_append, List.drop_eq_nil_of_le (by rw [Array.length_toList]; omega), List.append_nil, Array.toArray_toList]
/-- a slice literal of one struct -/
theorem wl_bs1 {P : Program} {t e : TypeId} {z : Value} {size bytes : Nat} (T : STy P t e z size bytes) {ops : Array Oper} {rest : List Oper} {o : Oper} {a : Act} {w : World} {Q : Exit → Act → World → Prop} (hg : o.guard = none) (x : Operand) (ho : o.op = .buildSlice t 1 #[(0, x)])
    (cells : Array Value) (hx : a.eval x = .agg cells) (hs : cells.size = size) (hsm : size ≤ 16777216)
    (h : wpList P ops Q rest (a.put o.dst (.slice (some ⟨w.heap.size, 0, none⟩) 1 1)) (w.alloc (.cells cells e))) : wpList P ops Q (o :: rest) a w := by
  obtain ⟨i, hi, hz, hsize, hby⟩ := info_parts T.info
  have hpos := T.pos
  refine wpList_buildSlice hg t e 1 #[(0, x)] ho cells i z T.und hi hz (by rw [hsize]; omega) (by rw [hsize]; omega) ?_ h
  have : (#[(0, x)].map fun (i, x) => (i, a.eval x)).toList = [(0, Value.agg cells)] := by simp [hx]
  rw [this]
  exact fill_one (v := .agg cells) (size := size) (by simp [hsize]) hs (by simp [hsize])
set_option maxRecDepth 100000 in
/-- a composite literal, its value laid -/
theorem wl_lit {P : Program} {ops : Array Oper} {rest : List Oper} {o : Oper} {a : Act} {w : World} {Q : Exit → Act → World → Prop} (hw : Region.wanted o (yielded ops a.tmps) = true) (t : TypeId) (parts : List (Nat × Operand)) (ho : o.op = .build t parts.toArray)
    (vals : List (Nat × Value)) (hv : (parts.map fun (i, x) => (i, a.eval x)) = vals) (cells : Array Value) (hc : P.built t vals = some cells) (h : wpList P ops Q rest (a.put o.dst (.agg cells)) w) : wpList P ops Q (o :: rest) a w := by
  refine wl_step hw fun K hK => ?_
  subst hv
  have hc' : P.built t (parts.toArray.map fun (i, x) => (i, a.eval x)).toList = some cells := by simpa using hc
  refine wp_build t parts.toArray ho (by rw [hc']; rfl) ?_
  rw [hc']
  exact hK _ _ h
end Go.Sh
