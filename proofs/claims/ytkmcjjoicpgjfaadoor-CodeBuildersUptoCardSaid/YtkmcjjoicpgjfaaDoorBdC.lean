/-
  Contracts of code's Builder: Emit. Conditions: the sizes that slices can have.
-/
import Derived.Test.YtkmcjjoicpgjfaaDoorBdB
namespace Go.Proofs.YtkmcjjoicpgjfaaDoor
open Go Go.RowKit Go.Sh

/-- what a builder's call leaves: the program p' in block b, its rows among the old ones and new ones; nothing else that was there has turned -/
def BdPost (w : World) (b base : Nat) (S : Nat → Prop) (p' : Prg) (w' : World) : Prop :=
  ∃ S' d' t', BlkB w' b d' p' ∧ PO w' base S' d' t' p' ∧ (∀ k, S' k → S k ∨ w.heap.size ≤ k) ∧ w.grownBy w' (some b)
theorem BlkB.cell {w : World} {b : Nat} {d : Pad} {p : Prg} (h : BlkB w b d p) (k : Nat) : w.cell? ⟨b, k, none⟩ = (pcs d p)[k]? := blk_cell h
theorem BlkB.free {w : World} {b : Nat} {d : Pad} {p : Prg} (h : BlkB w b d p) (k : Nat) : w.frozen? ⟨b, k, none⟩ = false := frozen_of_row _ _ k _ _ h
theorem BlkB.below {w w' : World} {b B : Nat} {d : Pad} {p : Prg} (h : BlkB w b d p) (hb : Below B w w') (hlt : b < B) : BlkB w' b d p := (hb.block b hlt).trans h
theorem BlkB.lt {w : World} {b : Nat} {d : Pad} {p : Prg} (h : BlkB w b d p) : b < w.heap.size := (Array.getElem?_eq_some_iff.1 h).1
theorem BlkB.code {w : World} {b : Nat} {d : Pad} {p : Prg} (h : BlkB w b d p) (A : Option Addr) (n c : Nat) (l : List Ins) : BlkB (w.setCell ⟨b, 0, none⟩ (.slice A n c)) b { d with A1 := A, n1 := n, c1 := c } { p with code := l } := blk_set h _
theorem BlkB.msgs {w : World} {b : Nat} {d : Pad} {p : Prg} (h : BlkB w b d p) (A : Option Addr) (n c : Nat) (l : List (List UInt8)) : BlkB (w.setCell ⟨b, 1, none⟩ (.slice A n c)) b { d with A2 := A, n2 := n, c2 := c } { p with msgs := l } := blk_set h _
theorem BlkB.rts {w : World} {b : Nat} {d : Pad} {p : Prg} (h : BlkB w b d p) (A : Option Addr) (n c : Nat) (l : List (List Sp)) : BlkB (w.setCell ⟨b, 2, none⟩ (.slice A n c)) b { d with A3 := A, n3 := n, c3 := c } { p with rts := l } := blk_set h _
theorem BlkB.snds {w : World} {b : Nat} {d : Pad} {p : Prg} (h : BlkB w b d p) (A : Option Addr) (n c : Nat) (l : List Snd) : BlkB (w.setCell ⟨b, 3, none⟩ (.slice A n c)) b { d with A4 := A, n4 := n, c4 := c } { p with snds := l } := blk_set h _
theorem ob_any (A : Option Addr) (n c n' c' : Nat) : (Value.slice A n c).ownBlock = (Value.slice A n' c').ownBlock := by cases A <;> rfl
/-- the old blocks and those made since -/
def Since (S : Nat → Prop) (w w' : World) (k : Nat) : Prop := S k ∨ (w.heap.size ≤ k ∧ k < w'.heap.size)
theorem grown_below {w w1 : World} {b : Nat} (hb : Below w.heap.size w w1) (k : Nat) (v : Value) : w.grownBy (w1.setCell ⟨b, k, none⟩ v) (some b) := by
  have h := grown_setCell w1 b k v
  exact ⟨h.os.trans hb.os, h.tape.trans hb.tape, h.output.trans hb.output, Nat.le_trans hb.size h.size, fun j hj hne => (h.block j (Nat.lt_of_lt_of_le hj hb.size) hne).trans (hb.block j hj)⟩
/-- the program's rows behind a store into the builder's block -/
theorem PO.stored {w w1 : World} {base b : Nat} {S : Nat → Prop} {d t : Pad} {p : Prg} (h : PO w base S d t p) (hb : Below w.heap.size w w1) (hlt : b < base) (hbs : base ≤ w.heap.size) (k : Nat) (v : Value) :
    PO (w1.setCell ⟨b, k, none⟩ v) base (Since S w w1) d t p := by
  refine h.kept (fun j hj => ?_) (fun j hj => .inl hj) fun j hj => ?_
  · have := h.lo j hj
    exact (Below.heap_setCell w1 ⟨b, k, none⟩ v j (show j ≠ b by omega)).trans (hb.block j this.2)
  · have hz : (w1.setCell ⟨b, k, none⟩ v).heap.size = w1.heap.size := by simp
    rw [hz]
    rcases hj with hj | hj
    · have := h.lo j hj; exact ⟨this.1, Nat.lt_of_lt_of_le this.2 hb.size⟩
    · exact ⟨by omega, hj.2⟩
set_option maxHeartbeats 1000000 in
set_option maxRecDepth 100000 in
theorem Emit_any (b base : Nat) (S : Nat → Prop) (d t : Pad) (p : Prg) (A2 : Option Addr) (m c2 B : Nat) (l : List Ins) (w : World) (hb : BlkB w b d p) (ho : PO w base S d t p) (hl : Reads w B 3 A2 m (inv l)) (hlt : b < base) (hbs : base ≤ w.heap.size) (hn : (d.n1 + m) * 24 ≤ 140737488355328) :
    Calls Tryd.prog 10 #[.pointer (some ⟨b, 0, none⟩), .slice A2 m c2] w fun e w' => e = .returned (.int .i64 (d.n1 : Nat)) ∧ BdPost w b base S { p with code := p.code ++ l } w' := by
  have hc0 : w.cell? ⟨b, 0, none⟩ = some (.slice d.A1 d.n1 d.c1) := hb.cell 0
  have HBK := Lib.hid hb
  have HPO := Lib.hid ho
  have HL := Lib.hid hl
  have HCL := Lib.hid (ClipIn_any d.A1 d.n1 d.c1 w ho.k1)
  have hml : l.length = m := by have := hl.1; rw [inv_len] at this; omega
  clear hb ho hl
  go_enter Tryd.func10, Tryd.ntmps10
  go_wp2_with fail
  refine HCL.out.mono ?_
  rintro e w1 ⟨rfl, rfl⟩
  clear hc0
  go_wp2_with (at_builtin; refine wl_appF TIn rfl (.tmp 18) (.tmp 19) rfl d.A1 d.n1 rfl A2 m c2 rfl base t.c1 (inv p.code) HPO.out.code.1 B (inv l) HL.out hn (by omega) hbs ?_)
  intro A' c' c'' w2 hown hbl hc' hA'
  have hbk2 := HBK.out.below hbl HBK.out.lt
  have hc2 : w2.cell? ⟨b, 0, none⟩ = some (.slice d.A1 d.n1 d.c1) := hbk2.cell 0
  have hf2 := hbk2.free 0
  have HBK2 := Lib.hid (hbk2.code A' (d.n1 + m) c' (p.code ++ l))
  have HPO2 := Lib.hid (HPO.out.stored hbl hlt hbs 0 (.slice A' (d.n1 + m) c'))
  have HG := Lib.hid (grown_below (b := b) hbl 0 (.slice A' (d.n1 + m) c'))
  have HOWN := Lib.hid hown
  have HBL := Lib.hid hbl
  have HA := Lib.hid hA'
  clear hbk2 hown hbl hA' HL HCL
  go_wp2_with fail
  go_ret
  refine ⟨rfl, Since S w w2, { d with A1 := A', n1 := d.n1 + m, c1 := c' }, { t with c1 := c'' }, HBK2.out, ?_, fun k hk => hk.imp id (·.1), HG.out⟩
  have hp := HPO2.out
  refine { hp with code := ⟨?_, fun k hk => ?_⟩, lc := ?_, k1 := hc' }
  · rw [inv_app]
    exact ownsRow_setCell_below HOWN.out (show b < base from hlt) _
  · rcases HA.out with rfl | rfl
    · exact .inl (HPO.out.code.2 k ((ob_any _ _ _ _ _).trans hk))
    · have := (HOWN.out.lt k hk).2
      injection hk with hk
      have hk : w.heap.size = k := hk
      exact .inr ⟨by omega, this⟩
  · show (p.code ++ l).length = d.n1 + m
    rw [List.length_append, HPO.out.lc, hml]
end Go.Proofs.YtkmcjjoicpgjfaaDoor
