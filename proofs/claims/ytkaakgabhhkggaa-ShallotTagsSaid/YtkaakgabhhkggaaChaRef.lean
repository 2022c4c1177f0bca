/-
  Contract of shallotref04.Block: the same 64 bytes, by lists of words. Conditions: a key of 32 bytes and a nonce of 12.
-/
import Derived.Test.YtkaakgabhhkggaaChaWords
import Derived.Test.YtkaakgabhhkggaaChaBlk
import Derived.Lib.SlBytesConst
import Derived.StillTailTactics
namespace Go.Proofs.Ytkaakgabhhkggaa
open Go Go.RowKit Go.Sh

def expa : List UInt8 := [101, 120, 112, 97, 110, 100, 32, 51, 50, 45, 98, 121, 116, 101, 32, 107]
theorem wds_expa : wds expa 4 = cst := by decide
/-- a marked row of bytes, just laid -/
theorem RB.marked (w : World) (e : TypeId) (l : List UInt8) (cs : List Value) (h : cs = bv l) (fr : Nat × Nat) (n : Nat) (hn : l.length = n) : RB (w.alloc (.cells cs.toArray e fr)) (w.heap.size + 1) (some ⟨w.heap.size, 0, none⟩) n l := by
  subst h
  refine ⟨by rw [length_bv]; omega, .inr ⟨_, rfl, by simp, fun j hj => ?_⟩⟩
  rw [add_mk, cell_of_row (w.alloc (.cells (bv l).toArray e fr)) w.heap.size (0 + j) (bv l).toArray e fr (heap_alloc_new w _)]
  simp
theorem own_at {w : World} {base e size n c : Nat} {A : Option Addr} {xs : List Value} (h : w.ownsRow base e size (.slice A n c) n xs) (hn : 0 < n) : ∃ g, A = some ⟨g, 0, none⟩ ∧ base ≤ g ∧ g < w.heap.size := by
  rcases h.2 with ⟨_, h0⟩ | ⟨g, cap, cur, hv, hb, hh, _⟩
  · omega
  · injection hv with hv
    exact ⟨g, hv, hb, (Array.getElem?_eq_some_iff.1 hh).1⟩

def plc (i : Nat) : List Value := [.int .i64 (pl i 0 : Int), .int .i64 (pl i 1 : Int), .int .i64 (pl i 2 : Int), .int .i64 (pl i 3 : Int)]
def plA : Array Value := (plc 0 ++ plc 1 ++ plc 2 ++ plc 3 ++ plc 4 ++ plc 5 ++ plc 6 ++ plc 7).toArray
theorem plA_at {i : Nat} (hi : i < 8) : (plA.extract (i * 4) (i * 4 + 4)).toList = plc i := by
  have : i = 0 ∨ i = 1 ∨ i = 2 ∨ i = 3 ∨ i = 4 ∨ i = 5 ∨ i = 6 ∨ i = 7 := by omega
  rcases this with rfl | rfl | rfl | rfl | rfl | rfl | rfl | rfl <;> rfl
theorem pl_lt {i j : Nat} (hi : i < 8) (hj : j < 4) : pl i j < 16 := by
  have h1 : i = 0 ∨ i = 1 ∨ i = 2 ∨ i = 3 ∨ i = 4 ∨ i = 5 ∨ i = 6 ∨ i = 7 := by omega
  have h2 : j = 0 ∨ j = 1 ∨ j = 2 ∨ j = 3 := by omega
  rcases h1 with rfl | rfl | rfl | rfl | rfl | rfl | rfl | rfl <;> rcases h2 with rfl | rfl | rfl | rfl <;> decide
/-- the words put back one by one -/
def qst (s : List Int) (p : Nat → Nat) (q : Nat → Int) : Nat → List Int
  | 0 => s
  | j + 1 => (qst s p q j).set (p j) (q j)
theorem length_qst (s : List Int) (p : Nat → Nat) (q : Nat → Int) : ∀ j, (qst s p q j).length = s.length
  | 0 => rfl
  | j + 1 => by rw [qst, List.length_set, length_qst s p q j]
/-- word j of the quarter round's four -/
def qw (s : List Int) (p : Nat → Nat) (j : Nat) : Int :=
  let q := quarter (it s (p 0)) (it s (p 1)) (it s (p 2)) (it s (p 3))
  if j = 0 then q.1 else if j = 1 then q.2.1 else if j = 2 then q.2.2.1 else q.2.2.2
theorem qst_four (s : List Int) (p : Nat → Nat) : qst s p (qw s p) 4 = qr s (p 0) (p 1) (p 2) (p 3) := rfl

theorem plA_size : plA.size = 32 := rfl
end Go.Proofs.Ytkaakgabhhkggaa
