/-
  What a path is in plain words, and the contract of command.pathError. Conditions: the fields fit their types; the sizes that slices can have.
-/
import Derived.Test.YtkmcjjoicpgjfaaDoorHop
import Derived.Test.YtkmcjjoicpgjfaaDoorCmdDec
namespace Go.Proofs.YtkmcjjoicpgjfaaDoor
open Go Go.RowKit Go.Sh

/-- hop k of hs (a plain definition: the walk leaves it standing) -/
def hat (hs : List Hp) (k : Nat) : Hp := hs.getD k ⟨⟨#[]⟩, 0, [], 0, 0⟩
theorem hat_eq {hs : List Hp} {k : Nat} (h : k < hs.length) : hs[k]? = some (hat hs k) := by
  unfold hat
  rw [List.getD_eq_getElem?_getD, List.getElem?_eq_getElem h, Option.getD_some]
theorem hat_mem {hs : List Hp} {k : Nat} (h : k < hs.length) : hat hs k ∈ hs := List.mem_of_getElem? (hat_eq h)
/-- a hop with a delay or flags out of range -/
def badHop (h : Hp) : Bool := decide (h.dl < 0) || decide (1000000 < h.dl) || decide (h.fl < 0) || decide (255 < h.fl)
def anyBad (hs : List Hp) : Bool := (List.range hs.length).any fun i => badHop (hat hs i)
/-- a hop behind the first that has no number -/
def noId (hs : List Hp) : Bool := (List.range hs.length).any fun i => decide (0 < i) && decide ((hat hs i).id = 0)
def pthE (c : Cmd) (hs : List Hp) : Int :=
  if c.k < 2 ∨ 4 < c.k then 1 else if anyBad hs = true then 1 else if hs.length < 1 ∨ 5 < hs.length then 2 else if shapedB c = false then 3 else if noId hs = true then 3 else 0
def pcmd (c : Cmd) (hs : List Hp) (i : Nat) : Cmd :=
  if i + 1 < hs.length then ⟨1, (hat hs i).fl, (hat hs i).dl, (hat hs (i + 1)).id, noMark⟩ else ⟨c.k, (hat hs i).fl, (hat hs i).dl, 0, c.m⟩
def pthL (c : Cmd) (hs : List Hp) : List Cmd := if pthE c hs = 0 then (List.range hs.length).map (pcmd c hs) else []
theorem anyBad_false {hs : List Hp} : anyBad hs = false ↔ ∀ i, i < hs.length → badHop (hat hs i) = false := by simp [anyBad]
theorem noId_false {hs : List Hp} : noId hs = false ↔ ∀ i, i < hs.length → 0 < i → (hat hs i).id ≠ 0 := by simp [noId]
theorem badHop_false {h : Hp} : badHop h = false ↔ (0 ≤ h.dl ∧ h.dl ≤ 1000000) ∧ (0 ≤ h.fl ∧ h.fl ≤ 255) := by
  simp only [badHop, Bool.or_eq_false_iff, decide_eq_false_iff_not]
  omega
/-- a row of hops: the numbers that hop k holds -/
theorem hop_at {w : World} {B n : Nat} {A : Option Addr} {hs : List Hp} (h : RR w B 68 A n (hs.map Hp.cells)) (hok : ∀ h ∈ hs, h.OK) {k : Nat} (hk : k < n) :
    ∃ b off, A = some ⟨b, off, none⟩ ∧ b < B ∧ w.cell? ⟨b, off + k * 68 + 1, none⟩ = some (.int .u64 (hat hs k).id) ∧ w.cell? ⟨b, off + k * 68 + 66, none⟩ = some (.int .i64 (hat hs k).dl) ∧ w.cell? ⟨b, off + k * 68 + 67, none⟩ = some (.int .i64 (hat hs k).fl) := by
  have hl : hs.length = n := by rw [← h.len, List.length_map]
  obtain ⟨b, off, cs, rfl, hb, hcs, _, hr⟩ := h.at_ hk
  have e : cs = (hat hs k).cells := by
    rw [List.getElem?_map, hat_eq (by omega)] at hcs
    exact (Option.some.inj hcs).symm
  subst e
  have ok := hok _ (hat_mem (hs := hs) (k := k) (by omega))
  exact ⟨b, off, rfl, hb, hr 1 _ rfl, hr 66 _ ok.c66, hr 67 _ ok.c67⟩

end Go.Proofs.YtkmcjjoicpgjfaaDoor
