/-
  A program of the strategies' machine in plain Lean, and what it is that a value and a world hold it. No statement of the seat is proved here.
-/
import Derived.Test.YtkmcjjoicpgjfaaDoorBlk
import Derived.Test.YtkmcjjoicpgjfaaDoorDirRoute
namespace Go.Proofs.YtkmcjjoicpgjfaaDoor
open Go Go.RowKit Go.Sh

/-- an instruction -/
structure Ins where
  op : UInt8
  a : Int
  b : Int
def Ins.cells (i : Ins) : List Value := [.int .u8 (i.op.toNat : Int), .int .i64 i.a, .int .i64 i.b]
structure Ins.OK (i : Ins) : Prop where
  a : -9223372036854775808 ≤ i.a ∧ i.a ≤ 9223372036854775807
  b : -9223372036854775808 ≤ i.b ∧ i.b ≤ 9223372036854775807
def iat (l : List Ins) (k : Nat) : Ins := l.getD k ⟨0, 0, 0⟩
theorem iat_eq {l : List Ins} {k : Nat} (h : k < l.length) : l[k]? = some (iat l k) := by
  unfold iat
  rw [List.getD_eq_getElem?_getD, List.getElem?_eq_getElem h, Option.getD_some]
theorem iat_mem {l : List Ins} {k : Nat} (h : k < l.length) : iat l k ∈ l := List.mem_of_getElem? (iat_eq h)
/-- a row of instructions: what number k holds -/
theorem ins_at {w : World} {B n : Nat} {A : Option Addr} {l : List Ins} (h : RR w B 3 A n (l.map Ins.cells)) {k : Nat} (hk : k < n) :
    ∃ b off, A = some ⟨b, off, none⟩ ∧ b < B ∧ w.cell? ⟨b, off + k * 3, none⟩ = some (.int .u8 ((iat l k).op.toNat : Int)) ∧ w.cell? ⟨b, off + k * 3 + 1, none⟩ = some (.int .i64 (iat l k).a) ∧ w.cell? ⟨b, off + k * 3 + 2, none⟩ = some (.int .i64 (iat l k).b) := by
  have hl : l.length = n := by rw [← h.len, List.length_map]
  obtain ⟨b, off, cs, rfl, hb, hcs, _, hr⟩ := h.at_ hk
  have e : cs = (iat l k).cells := by
    rw [List.getElem?_map, iat_eq (by omega)] at hcs
    exact (Option.some.inj hcs).symm
  subst e
  exact ⟨b, off, rfl, hb, hr 0 _ rfl, hr 1 _ rfl, hr 2 _ rfl⟩
/-- a send: message, routes, a block's place -/
structure Snd where
  msg : Int
  rts : List Int
  blk : Int
structure Snd.OK (s : Snd) : Prop where
  msg : -9223372036854775808 ≤ s.msg ∧ s.msg ≤ 9223372036854775807
  blk : -9223372036854775808 ≤ s.blk ∧ s.blk ≤ 9223372036854775807
def dat (l : List Snd) (k : Nat) : Snd := l.getD k ⟨0, [], 0⟩
theorem dat_eq {l : List Snd} {k : Nat} (h : k < l.length) : l[k]? = some (dat l k) := by
  unfold dat
  rw [List.getD_eq_getElem?_getD, List.getElem?_eq_getElem h, Option.getD_some]
theorem dat_mem {l : List Snd} {k : Nat} (h : k < l.length) : dat l k ∈ l := List.mem_of_getElem? (dat_eq h)
def rat (l : List (List Sp)) (k : Nat) : List Sp := l.getD k []
theorem rat_eq {l : List (List Sp)} {k : Nat} (h : k < l.length) : l[k]? = some (rat l k) := by
  unfold rat
  rw [List.getD_eq_getElem?_getD, List.getElem?_eq_getElem h, Option.getD_some]
theorem rat_mem {l : List (List Sp)} {k : Nat} (h : k < l.length) : rat l k ∈ l := List.mem_of_getElem? (rat_eq h)
/-- routes: a row of slices, each a row of stops -/
def RRt (w : World) (B : Nat) (A : Option Addr) (n : Nat) (rs : List (List Sp)) : Prop :=
  rs.length = n ∧ ∃ vs, Reads w B 1 A n vs ∧ ∀ i, i < n → ∃ Ai ni ci, vs[i]? = some (.slice Ai ni ci) ∧ ni ≤ ci ∧ RR w B 3 Ai ni ((rat rs i).map Sp.cells)
/-- sends: a row of three cells each, the middle one a slice of numbers -/
def RSn (w : World) (B : Nat) (A : Option Addr) (n : Nat) (ss : List Snd) : Prop :=
  ss.length = n ∧ ∃ css : List (List Value), RR w B 3 A n css ∧ ∀ i, i < n → ∃ Ai ni ci, css[i]? = some [.int .i64 (dat ss i).msg, .slice Ai ni ci, .int .i64 (dat ss i).blk] ∧ ni ≤ ci ∧ RI w B Ai ni (dat ss i).rts
section
variable {w w' : World} {B B' n : Nat} {A : Option Addr} {rs : List (List Sp)} {ss : List Snd}
theorem RRt.len (h : RRt w B A n rs) : rs.length = n := h.1
theorem RRt.below (h : RRt w B A n rs) (hb : Below B w w') : RRt w' B A n rs := by
  obtain ⟨hl, vs, hr, hi⟩ := h
  refine ⟨hl, vs, hr.below hb, fun i him => ?_⟩
  obtain ⟨Ai, ni, ci, hv, hc, hrow⟩ := hi i him
  exact ⟨Ai, ni, ci, hv, hc, hrow.below hb⟩
theorem RRt.more (h : RRt w B A n rs) (hB : B ≤ B') : RRt w B' A n rs := by
  obtain ⟨hl, vs, hr, hi⟩ := h
  refine ⟨hl, vs, hr.more hB, fun i him => ?_⟩
  obtain ⟨Ai, ni, ci, hv, hc, hrow⟩ := hi i him
  exact ⟨Ai, ni, ci, hv, hc, hrow.more hB⟩
theorem RRt.at_ {k : Nat} (h : RRt w B A n rs) (hk : k < n) : ∃ ad Ai ni ci, A = some ad ∧ ad.block < B ∧ w.cell? (ad.add k) = some (.slice Ai ni ci) ∧ ni ≤ ci ∧ RR w B 3 Ai ni ((rat rs k).map Sp.cells) := by
  obtain ⟨hl, vs, hr, hi⟩ := h
  obtain ⟨Ai, ni, ci, hv, hc, hrow⟩ := hi k hk
  obtain ⟨ad, hA, hb, hcell⟩ := Reads.some_ hr (by have := (List.getElem?_eq_some_iff.1 hv).1; omega)
  exact ⟨ad, Ai, ni, ci, hA, hb, hcell.get hv, hc, hrow⟩
theorem RSn.len (h : RSn w B A n ss) : ss.length = n := h.1
theorem RSn.below (h : RSn w B A n ss) (hb : Below B w w') : RSn w' B A n ss := by
  obtain ⟨hl, css, hr, hi⟩ := h
  refine ⟨hl, css, hr.below hb, fun i him => ?_⟩
  obtain ⟨Ai, ni, ci, hv, hc, hrow⟩ := hi i him
  exact ⟨Ai, ni, ci, hv, hc, hrow.below hb⟩
theorem RSn.more (h : RSn w B A n ss) (hB : B ≤ B') : RSn w B' A n ss := by
  obtain ⟨hl, css, hr, hi⟩ := h
  refine ⟨hl, css, hr.more hB, fun i him => ?_⟩
  obtain ⟨Ai, ni, ci, hv, hc, hrow⟩ := hi i him
  exact ⟨Ai, ni, ci, hv, hc, hrow.more hB⟩
theorem RSn.at_ {k : Nat} (h : RSn w B A n ss) (hk : k < n) : ∃ b off Ai ni ci, A = some ⟨b, off, none⟩ ∧ b < B ∧ w.cell? ⟨b, off + k * 3, none⟩ = some (.int .i64 (dat ss k).msg) ∧ w.cell? ⟨b, off + k * 3 + 1, none⟩ = some (.slice Ai ni ci) ∧ w.cell? ⟨b, off + k * 3 + 2, none⟩ = some (.int .i64 (dat ss k).blk) ∧ ni ≤ ci ∧ RI w B Ai ni (dat ss k).rts := by
  obtain ⟨hl, css, hr, hi⟩ := h
  obtain ⟨Ai, ni, ci, hv, hc, hrow⟩ := hi k hk
  obtain ⟨b, off, cs, rfl, hb, hcs, _, hg⟩ := hr.at_ hk
  rw [hv] at hcs
  obtain rfl := Option.some.inj hcs
  exact ⟨b, off, Ai, ni, ci, rfl, hb, hg 0 _ rfl, hg 1 _ rfl, hg 2 _ rfl, hc, hrow⟩
end
/-- a program -/
structure Prg where
  code : List Ins
  msgs : List (List UInt8)
  rts : List (List Sp)
  snds : List Snd
  vars : Int
  stack : Int
  blocks : Int
  fuel : Int
/-- where a program's slices lie -/
structure Pad where
  A1 : Option Addr
  n1 : Nat
  c1 : Nat
  A2 : Option Addr
  n2 : Nat
  c2 : Nat
  A3 : Option Addr
  n3 : Nat
  c3 : Nat
  A4 : Option Addr
  n4 : Nat
  c4 : Nat
/-- the eight cells of a program -/
def pcs (d : Pad) (p : Prg) : Array Value := #[.slice d.A1 d.n1 d.c1, .slice d.A2 d.n2 d.c2, .slice d.A3 d.n3 d.c3, .slice d.A4 d.n4 d.c4, .int .i64 p.vars, .int .i64 p.stack, .int .i64 p.blocks, .int .i64 p.fuel]
structure PR (w : World) (B : Nat) (d : Pad) (p : Prg) : Prop where
  code : RR w B 3 d.A1 d.n1 (p.code.map Ins.cells)
  msgs : RBB w B d.A2 d.n2 p.msgs
  rts : RRt w B d.A3 d.n3 p.rts
  snds : RSn w B d.A4 d.n4 p.snds
  k1 : d.n1 ≤ d.c1
  k2 : d.n2 ≤ d.c2
  k3 : d.n3 ≤ d.c3
  k4 : d.n4 ≤ d.c4
  b1 : d.n1 ≤ 140737488355328
  b2 : d.n2 ≤ 140737488355328
  b3 : d.n3 ≤ 140737488355328
  b4 : d.n4 ≤ 140737488355328
structure Prg.OK (p : Prg) : Prop where
  code : ∀ i ∈ p.code, i.OK
  rts : ∀ r ∈ p.rts, ∀ s ∈ r, s.OK
  snds : ∀ s ∈ p.snds, s.OK
  vars : -9223372036854775808 ≤ p.vars ∧ p.vars ≤ 9223372036854775807
  stack : -9223372036854775808 ≤ p.stack ∧ p.stack ≤ 9223372036854775807
  blocks : -9223372036854775808 ≤ p.blocks ∧ p.blocks ≤ 9223372036854775807
  fuel : -9223372036854775808 ≤ p.fuel ∧ p.fuel ≤ 9223372036854775807
theorem PR.below {w w' : World} {B : Nat} {d : Pad} {p : Prg} (h : PR w B d p) (hb : Below B w w') : PR w' B d p :=
  ⟨h.code.below hb, h.msgs.below hb, h.rts.below hb, h.snds.below hb, h.k1, h.k2, h.k3, h.k4, h.b1, h.b2, h.b3, h.b4⟩
theorem PR.more {w : World} {B B' : Nat} {d : Pad} {p : Prg} (h : PR w B d p) (hB : B ≤ B') : PR w B' d p :=
  ⟨h.code.more hB, h.msgs.more hB, h.rts.more hB, h.snds.more hB, h.k1, h.k2, h.k3, h.k4, h.b1, h.b2, h.b3, h.b4⟩
end Go.Proofs.YtkmcjjoicpgjfaaDoor
