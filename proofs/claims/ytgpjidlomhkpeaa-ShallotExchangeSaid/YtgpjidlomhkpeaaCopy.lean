/-
  Contracts of shallotref01.Copy and shallotref01.Equal: a copy is new memory with the same bytes; Equal tells whether two lists of bytes are equal and writes nothing. No conditions but the sizes that a slice can have.
-/
import Derived.Test.YtgpjidlomhkpeaaWords
import Derived.Test.YtgpjidlomhkpeaaProg
namespace Go.Proofs.Ytgpjidlomhkpeaa
open Go Go.RowKit Go.Sh

set_option maxRecDepth 100000 in
theorem TB : STy Try.prog 22 5 (.int .u8 0) 1 1 := ⟨Try.underlying22, by kernel_rfl, rfl, by decide⟩

/-- a law's end: true; nothing that was there has turned -/
def LawPost (w : World) (e : Ending) (w' : World) : Prop := e = .returned (.bool true) ∧ Below w.heap.size w w'

/-- new memory that holds l is handed back; nothing that was there has turned -/
def RetB (w : World) (n : Nat) (l : List UInt8) (e : Ending) (w' : World) : Prop :=
  ∃ g c, e = .returned (.slice (some ⟨g, 0, none⟩) n c) ∧ w'.ownsRow w.heap.size 5 1 (.slice (some ⟨g, 0, none⟩) n c) n (bv l) ∧ Below w.heap.size w w'

/-- bytes in new memory (or none) and an error's number are handed back; nothing that was there has turned -/
def RetBE (w : World) (l : List UInt8) (er : Int) (e : Ending) (w' : World) : Prop :=
  ∃ A n c, e = .returned (.tuple #[.slice A n c, .int .i64 er]) ∧ l.length = n ∧ w'.ownsRow w.heap.size 5 1 (.slice A n c) n (bv l) ∧ Below w.heap.size w w'

theorem RetBE.nil (w : World) (er : Int) : RetBE w [] er (.returned (.tuple #[.slice none 0 0, .int .i64 er])) w :=
  ⟨none, 0, 0, rfl, rfl, World.ownsRow_nil w _ _ _, Below.refl _ _⟩

theorem take_succ_eq {l r : List UInt8} {k n : Nat} (hl : l.length = n) (hr : r.length = n) (hk : k < n) (h : l.take k = r.take k) (hb : bt l k = bt r k) : l.take (k + 1) = r.take (k + 1) := by
  rw [List.take_succ_eq_append_getElem (by omega), List.take_succ_eq_append_getElem (by omega), h]
  have := bt_inj hb
  simp only [List.getD_eq_getElem?_getD, List.getElem?_eq_getElem (show k < l.length by omega), List.getElem?_eq_getElem (show k < r.length by omega), Option.getD_some] at this
  rw [this]
theorem bt_of_eq {l r : List UInt8} {k : Nat} (h : l = r) : bt l k = bt r k := by rw [h]

/-- Equal reads only -/
def EqPost (w : World) (b : Bool) (e : Ending) (w' : World) : Prop := e = .returned (.bool b) ∧ ∃ k, w' = w.drewN k

theorem EqPost.below {w : World} {b : Bool} {e : Ending} {w' : World} (h : EqPost w b e w') : e = .returned (.bool b) ∧ Below w.heap.size w w' := by
  obtain ⟨h1, k, rfl⟩ := h
  exact ⟨h1, below_drewN (Below.refl _ _) k⟩

/-- a call that only tells, inside a region that draws its order, behind earlier draws -/
theorem EqPost.quiet {P : Program} {f : FuncId} {args : Array Value} {w : World} {a n : Nat} {b : Bool} (h : Calls P f args (w.drewN (a + n)) (EqPost (w.drewN (a + n)) b)) :
    Calls P f args (w.drewN (a + n)) fun e w'' => e = .returned (.bool b) ∧ ∃ m, w'' = w.drewN (a + m) := by
  refine h.mono fun e w'' hh => ?_
  obtain ⟨h1, k, rfl⟩ := hh
  exact ⟨h1, n + k, by rw [World.drewN_drewN, Nat.add_assoc]⟩

end Go.Proofs.Ytgpjidlomhkpeaa
