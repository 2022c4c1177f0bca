/-
  Contracts of shallotref01.Copy and shallotref01.Equal: a copy is new memory with the same bytes; Equal tells whether two lists of bytes are equal and writes nothing. No conditions but the sizes that a slice can have.
-/
import Derived.Test.YtkmcjjoicpgjfaaDoorWords
import Derived.Test.YtkmcjjoicpgjfaaDoorProg
namespace Go.Proofs.YtkmcjjoicpgjfaaDoor
open Go Go.RowKit Go.Sh

set_option maxRecDepth 100000 in
theorem TB : STy Tryd.prog 39 5 (.int .u8 0) 1 1 := ⟨Tryd.underlying39, by kernel_rfl, rfl, by decide⟩

/-- a law's end: true; nothing that was there has turned -/
def LawPost (w : World) (e : Ending) (w' : World) : Prop := e = .returned (.bool true) ∧ Below w.heap.size w w'

/-- new memory that holds l is handed back; nothing that was there has turned -/
def RetB (w : World) (n : Nat) (l : List UInt8) (e : Ending) (w' : World) : Prop :=
  ∃ g c, e = .returned (.slice (some ⟨g, 0, none⟩) n c) ∧ w'.ownsRow w.heap.size 5 1 (.slice (some ⟨g, 0, none⟩) n c) n (bv l) ∧ Below w.heap.size w w'

/-- bytes in new memory (or none) and an error's number are handed back; nothing that was there has turned -/
def RetBE (w : World) (l : List UInt8) (er : Int) (e : Ending) (w' : World) : Prop :=
  ∃ A n c, e = .returned (.tuple #[.slice A n c, .int .i64 er]) ∧ l.length = n ∧ w'.ownsRow w.heap.size 5 1 (.slice A n c) n (bv l) ∧ Below w.heap.size w w'

theorem RetBE.nil (w : World) (er : Int) : RetBE w [] er (.returned (.tuple #[.slice none 0 0, .int .i64 er])) w :=
  ⟨none, 0, 0, rfl, rfl, World.ownsRow_nil w _ _ _, Below.refl _ _⟩

set_option maxRecDepth 100000 in
theorem Copy_any (A : Option Addr) (n c : Nat) (l : List UInt8) (w : World) (B : Nat) (hr : RB w B A n l) (hB : B ≤ w.heap.size) (hn : n ≤ 140737488355328) :
    Calls Tryd.prog 15 #[.slice A n c] w (RetB w n l) := by
  go_enter Tryd.func15, Tryd.ntmps15
  go_wp2_with (at_builtin; refine wl_app TB rfl (.tmp 3) (.tmp 4) rfl _ rfl A n c rfl w.heap.size 0 [] ?h1 B (bv l) ?h2 (bv_one l) ?h3 ?h4 ?h5 ?h6)
  case h1 => exact World.ownsRow_lit w #[] 0 (Nat.le_refl _) (by simp) rfl
  case h2 => exact hr.alloc hB _
  case h3 => omega
  case h4 => omega
  case h5 => simp
  case h6 =>
    intro A' c' w' hown hg hat
    try simp only [Nat.zero_add, List.nil_append] at hown ⊢
    have hA : ∃ g, A' = some ⟨g, 0, none⟩ := by
      rcases hat with h | h <;> exact ⟨_, own_some hown (h.trans rfl)⟩
    obtain ⟨g, rfl⟩ := hA
    clear hat
    go_wp2
    go_ret
    exact ⟨g, c', rfl, hown, ((Below.refl _ _).alloc (Nat.le_refl _) _).grown hg (by simp) (by simp [Value.ownBlock])⟩

theorem take_succ_eq {l r : List UInt8} {k n : Nat} (hl : l.length = n) (hr : r.length = n) (hk : k < n) (h : l.take k = r.take k) (hb : bt l k = bt r k) : l.take (k + 1) = r.take (k + 1) := by
  rw [List.take_succ_eq_append_getElem (by omega), List.take_succ_eq_append_getElem (by omega), h]
  have := bt_inj hb
  simp only [List.getD_eq_getElem?_getD, List.getElem?_eq_getElem (show k < l.length by omega), List.getElem?_eq_getElem (show k < r.length by omega), Option.getD_some] at this
  rw [this]
theorem bt_of_eq {l r : List UInt8} {k : Nat} (h : l = r) : bt l k = bt r k := by rw [h]

/-- Equal reads only -/
def EqPost (w : World) (b : Bool) (e : Ending) (w' : World) : Prop := e = .returned (.bool b) ∧ ∃ k, w' = w.drewN k

theorem EqPost.below {w : World} {b : Bool} {e : Ending} {w' : World} (h : EqPost w b e w') : e = .returned (.bool b) ∧ Below w.heap.size w w' := by
  obtain ⟨h1, k, rfl⟩ := h
  exact ⟨h1, below_drewN (Below.refl _ _) k⟩

/-- a call that only tells, inside a region that draws its order, behind earlier draws -/
theorem EqPost.quiet {P : Program} {f : FuncId} {args : Array Value} {w : World} {a n : Nat} {b : Bool} (h : Calls P f args (w.drewN (a + n)) (EqPost (w.drewN (a + n)) b)) :
    Calls P f args (w.drewN (a + n)) fun e w'' => e = .returned (.bool b) ∧ ∃ m, w'' = w.drewN (a + m) := by
  refine h.mono fun e w'' hh => ?_
  obtain ⟨h1, k, rfl⟩ := hh
  exact ⟨h1, n + k, by rw [World.drewN_drewN, Nat.add_assoc]⟩

set_option maxRecDepth 100000 in
theorem Equal_any (A A' : Option Addr) (n n' c c' : Nat) (l r : List UInt8) (w : World) (B B' : Nat) (hl : RB w B A n l) (hr : RB w B' A' n' r) (hn : n ≤ 140737488355328) :
    Calls Tryd.prog 18 #[.slice A n c, .slice A' n' c'] w (EqPost w (decide (l = r))) := by
  have hll := hl.len
  have hrl := hr.len
  by_cases hnn : n = n'
  · subst hnn
    have HL := Lib.hid hll
    have HR := Lib.hid hrl
    have HRB := Lib.hid hl
    have HRB' := Lib.hid hr
    clear hll hrl hl hr
    go_enter Tryd.func18, Tryd.ntmps18
    go_wp2
    go_loopw [5] (fun i wr => ∃ k nd : Nat, k ≤ n ∧ i = .int .i64 k ∧ wr = w.drewN nd ∧ l.take k = r.take k) (fun i _ => n - (intOf i).toNat)
    case atStart => exact ⟨0, 0, by omega, rfl, rfl, by simp⟩
    case round =>
      obtain ⟨k, nd, hk, rfl, rfl, HP⟩ := hrel
      have H := Lib.hid HP
      clear HP
      by_cases hlt : k < n
      · obtain ⟨ad, rfl, _, hc⟩ := HRB.out.at_ hlt
        obtain ⟨ad', rfl, _, hc'⟩ := HRB'.out.at_ hlt
        have b1 := bt_lo l k
        have b2 := bt_hi l k
        have b3 := bt_lo r k
        have b4 := bt_hi r k
        go_wp2
        go_quiet (fail)
        go_wp2
        · have hne : (bt l k != bt r k) = true := by assumption
          go_ret
          refine ⟨?_, nd + nq, by simp⟩
          have : ¬ l = r := fun e => by simp [bt_of_eq (k := k) e] at hne
          simp [this]
        · have hne : (bt l k != bt r k) = false := by assumption
          refine ⟨⟨k + 1, nd + nq, by omega, by go_num, rfl, take_succ_eq HL.out HR.out hlt H.out (by simpa using hne)⟩, by simp [intOf]; omega⟩
      · go_wp2
        go_ret
        refine ⟨?_, nd, rfl⟩
        have h := H.out
        have h1 := HL.out
        have h2 := HR.out
        rw [List.take_of_length_le (by omega), List.take_of_length_le (by omega)] at h
        simp [h]
  · have hne : ((n : Int) != (n' : Int)) = true := by rw [bne_iff_ne]; omega
    have hlr : ¬ l = r := fun e => hnn (by rw [← hll, ← hrl, e])
    have HH := Lib.hid hlr
    clear hll hrl hl hr hnn hlr
    go_enter Tryd.func18, Tryd.ntmps18
    go_wp2
    go_ret
    exact ⟨by simp [HH.out], 0, rfl⟩
end Go.Proofs.YtkmcjjoicpgjfaaDoor
