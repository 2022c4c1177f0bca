/-
  Rows of commands: what a slice of commands reads as, cell by cell; a struct of one struct field. No statement of the seat is proved here.
-/
import Derived.Test.YtkmcjjoicpgjfaaDoorCmdDec
import Derived.Test.YtkmcjjoicpgjfaaDoorCmdOpen
namespace Go.Proofs.YtkmcjjoicpgjfaaDoor
open Go Go.RowKit Go.Sh

/-- the cells of commands, one behind the other -/
def cmdsV (cl : List Cmd) : List Value := cl.flatMap Cmd.cells
theorem cmdsV_cons (c : Cmd) (cl : List Cmd) : cmdsV (c :: cl) = c.cells ++ cmdsV cl := by simp [cmdsV]
theorem cmdsV_append (a b : List Cmd) : cmdsV (a ++ b) = cmdsV a ++ cmdsV b := by simp [cmdsV]
theorem length_cmdsV (cl : List Cmd) (h : ∀ c ∈ cl, c.OK) : (cmdsV cl).length = cl.length * 20 := by
  induction cl with
  | nil => rfl
  | cons c cl ih =>
    rw [cmdsV_cons, List.length_append, (h c (by simp)).size, ih fun c hc => h c (by simp [hc]), List.length_cons]
    omega
set_option maxRecDepth 100000 in
theorem cmdsV_at (cl : List Cmd) (h : ∀ c ∈ cl, c.OK) : ∀ (i : Nat) (c : Cmd), cl[i]? = some c → ∀ j v, c.cells[j]? = some v → (cmdsV cl)[i * 20 + j]? = some v := by
  induction cl with
  | nil => intro i c hc; simp at hc
  | cons d cl ih =>
    intro i c hc j v hv
    have hd := (h d (by simp)).size
    rw [cmdsV_cons]
    cases i with
    | zero =>
      obtain rfl : d = c := by simpa using hc
      have hj := (List.getElem?_eq_some_iff.1 hv).1
      rw [Nat.zero_mul, Nat.zero_add, List.getElem?_append_left hj]
      exact hv
    | succ i =>
      rw [List.getElem?_append_right (by rw [hd]; omega), hd, show (i + 1) * 20 + j - 20 = i * 20 + j by omega]
      exact ih (fun c hc => h c (by simp [hc])) i c (by simpa using hc) j v hv
set_option maxRecDepth 100000 in
theorem cmdsV_one (cl : List Cmd) : ∀ v ∈ cmdsV cl, v.oneCell' = true := by
  intro v hv
  obtain ⟨c, _, hc⟩ := List.mem_flatMap.1 hv
  exact cmd_one c v (by simpa using hc)
theorem RC.cells {w : World} {B : Nat} {A : Option Addr} {n : Nat} {cl : List Cmd} (h : RC w B A n cl) : Reads w B 20 A n (cmdsV cl) := by
  obtain ⟨h1, h2, h3⟩ := h
  refine ⟨by rw [length_cmdsV cl h2, h1], ?_⟩
  rcases h3 with rfl | ⟨b, off, rfl, hb, hr⟩
  · exact .inl rfl
  · refine .inr ⟨_, rfl, hb, fun j hj => ?_⟩
    rw [length_cmdsV cl h2] at hj
    have hi : j / 20 < cl.length := by omega
    obtain ⟨c, hc⟩ : ∃ c, cl[j / 20]? = some c := ⟨_, List.getElem?_eq_getElem hi⟩
    have hok := h2 c (List.mem_of_getElem? hc)
    obtain ⟨v, hv⟩ : ∃ v, c.cells[j % 20]? = some v := ⟨_, List.getElem?_eq_getElem (by rw [hok.size]; omega)⟩
    have e1 := cmdsV_at cl h2 _ c hc _ v hv
    have e2 := hr _ c hc _ v hv
    rw [show j / 20 * 20 + j % 20 = j by omega] at e1
    rw [show off + j / 20 * 20 + j % 20 = off + j by omega] at e2
    rw [add_mk, e1, e2]
theorem RC.of_own {w : World} {base : Nat} {A : Option Addr} {n c : Nat} {cl : List Cmd} {t : TypeId} (h : w.ownsRow base t 20 (.slice A n c) n (cmdsV cl)) (hl : cl.length = n) (hok : ∀ c ∈ cl, c.OK) : RC w w.heap.size A n cl := by
  refine ⟨hl, hok, ?_⟩
  rcases h.2 with ⟨_, h0⟩ | ⟨g, cap, cur, hv, _, hh, _⟩
  · exact .inl (List.eq_nil_of_length_eq_zero (by omega))
  · injection hv with hv
    subst hv
    refine .inr ⟨g, 0, rfl, (Array.getElem?_eq_some_iff.1 hh).1, fun i c hc j v hv => ?_⟩
    have := h.cells (g := g) rfl _ v (cmdsV_at cl hok i c hc j v hv)
    rw [add_mk] at this
    rw [Nat.zero_add] at this ⊢
    exact this
theorem RC.at_ {w : World} {B : Nat} {A : Option Addr} {n k : Nat} {cl : List Cmd} (h : RC w B A n cl) (hk : k < n) : ∃ b off c, A = some ⟨b, off, none⟩ ∧ b < B ∧ cl[k]? = some c ∧ c.OK ∧ w.rangeAt b (off + k * 20) c.cells := by
  obtain ⟨h1, h2, h3⟩ := h
  obtain ⟨c, hc⟩ : ∃ c, cl[k]? = some c := ⟨_, List.getElem?_eq_getElem (by omega)⟩
  rcases h3 with rfl | ⟨b, off, rfl, hb, hr⟩
  · simp at hc
  · exact ⟨b, off, c, rfl, hb, hc, h2 c (List.mem_of_getElem? hc), hr k c hc⟩

set_option maxRecDepth 100000 in
/-- the cells of an array, put one by one into another -/
theorem fold_set : ∀ (l : List Value) (k : Nat) (z : Array Value), k + l.length ≤ z.size →
    (List.foldl (fun cs (x : Value × Nat) => cs.setIfInBounds x.snd x.fst) z (l.zipIdx k)).toList = z.toList.take k ++ l ++ z.toList.drop (k + l.length) := by
  intro l
  induction l with
  | nil => intro k z _; simp
  | cons v l ih =>
    intro k z h
    have hk : k < z.size := by rw [List.length_cons] at h; omega
    rw [List.zipIdx_cons, List.foldl_cons, ih (k + 1) _ (by simp at h ⊢; omega)]
    simp only [Array.toList_setIfInBounds]
    rw [List.take_succ_eq_append_getElem (by simpa using hk), List.getElem_set_self, List.take_set_of_le (Nat.le_refl k), List.drop_set_of_lt (by omega), List.length_cons, show k + 1 + l.length = k + (l.length + 1) by omega]
    simp
theorem fold_whole (zc cs : Array Value) (hz : zc.size = 20) (hc : cs.size = 20) : Array.foldl (fun cs (x : Value × Nat) => cs.setIfInBounds x.snd x.fst) zc cs.zipIdx 0 20 = cs := by
  have e : Array.foldl (fun cs (x : Value × Nat) => cs.setIfInBounds x.snd x.fst) zc cs.zipIdx 0 20 = List.foldl (fun cs (x : Value × Nat) => cs.setIfInBounds x.snd x.fst) zc (cs.toList.zipIdx 0) := by
    rw [show (20 : Nat) = cs.zipIdx.size by simp [hc], ← Array.foldl_toList, Array.toList_zipIdx]
  rw [e]
  apply Array.ext'
  rw [fold_set cs.toList 0 zc (by simp; omega), List.take_zero, List.nil_append, List.drop_eq_nil_of_le (by simp; omega), List.append_nil]
end Go.Proofs.YtkmcjjoicpgjfaaDoor
