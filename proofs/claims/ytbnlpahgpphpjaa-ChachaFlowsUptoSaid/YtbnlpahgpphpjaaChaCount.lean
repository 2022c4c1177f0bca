/-
  Contracts of chacha.Count and of Counted.Next: a flow whose calls of Next are counted. Conditions: a flow lies at the address, its place is within the longest stream, and its count has room.
-/
import Derived.Test.YtbnlpahgpphpjaaChaFlow
import Derived.Test.YtbnlpahgpphpjaaRowsOf
import Derived.Deep.MidRow
import Derived.Laws.Tables
namespace Go.Proofs.Ytbnlpahgpphpjaa
open Go Go.RowKit Go.Sh

set_option maxRecDepth 100000 in
theorem built_counted (key : List UInt8) (h : key.length = 32) : Try.prog.built 64 [(0, .agg (bv key ++ [Value.int .i64 0]).toArray)] = some (bv key ++ [Value.int .i64 0, .int .i64 0]).toArray := by
  match key, h with
  | [a0, a1, a2, a3, a4, a5, a6, a7, a8, a9, a10, a11, a12, a13, a14, a15, a16, a17, a18, a19, a20, a21, a22, a23, a24, a25, a26, a27, a28, a29, a30, a31], _ =>
    show Try.prog.built 64 [(0, .agg #[.int .u8 (a0.toNat : Int), .int .u8 (a1.toNat : Int), .int .u8 (a2.toNat : Int), .int .u8 (a3.toNat : Int), .int .u8 (a4.toNat : Int), .int .u8 (a5.toNat : Int), .int .u8 (a6.toNat : Int), .int .u8 (a7.toNat : Int), .int .u8 (a8.toNat : Int), .int .u8 (a9.toNat : Int), .int .u8 (a10.toNat : Int), .int .u8 (a11.toNat : Int), .int .u8 (a12.toNat : Int), .int .u8 (a13.toNat : Int), .int .u8 (a14.toNat : Int), .int .u8 (a15.toNat : Int), .int .u8 (a16.toNat : Int), .int .u8 (a17.toNat : Int), .int .u8 (a18.toNat : Int), .int .u8 (a19.toNat : Int), .int .u8 (a20.toNat : Int), .int .u8 (a21.toNat : Int), .int .u8 (a22.toNat : Int), .int .u8 (a23.toNat : Int), .int .u8 (a24.toNat : Int), .int .u8 (a25.toNat : Int), .int .u8 (a26.toNat : Int), .int .u8 (a27.toNat : Int), .int .u8 (a28.toNat : Int), .int .u8 (a29.toNat : Int), .int .u8 (a30.toNat : Int), .int .u8 (a31.toNat : Int), .int .i64 0])] = some #[.int .u8 (a0.toNat : Int), .int .u8 (a1.toNat : Int), .int .u8 (a2.toNat : Int), .int .u8 (a3.toNat : Int), .int .u8 (a4.toNat : Int), .int .u8 (a5.toNat : Int), .int .u8 (a6.toNat : Int), .int .u8 (a7.toNat : Int), .int .u8 (a8.toNat : Int), .int .u8 (a9.toNat : Int), .int .u8 (a10.toNat : Int), .int .u8 (a11.toNat : Int), .int .u8 (a12.toNat : Int), .int .u8 (a13.toNat : Int), .int .u8 (a14.toNat : Int), .int .u8 (a15.toNat : Int), .int .u8 (a16.toNat : Int), .int .u8 (a17.toNat : Int), .int .u8 (a18.toNat : Int), .int .u8 (a19.toNat : Int), .int .u8 (a20.toNat : Int), .int .u8 (a21.toNat : Int), .int .u8 (a22.toNat : Int), .int .u8 (a23.toNat : Int), .int .u8 (a24.toNat : Int), .int .u8 (a25.toNat : Int), .int .u8 (a26.toNat : Int), .int .u8 (a27.toNat : Int), .int .u8 (a28.toNat : Int), .int .u8 (a29.toNat : Int), .int .u8 (a30.toNat : Int), .int .u8 (a31.toNat : Int), .int .i64 0, .int .i64 0]
    generalize (.int .u8 (a0.toNat : Int) : Value) = z0
    generalize (.int .u8 (a1.toNat : Int) : Value) = z1
    generalize (.int .u8 (a2.toNat : Int) : Value) = z2
    generalize (.int .u8 (a3.toNat : Int) : Value) = z3
    generalize (.int .u8 (a4.toNat : Int) : Value) = z4
    generalize (.int .u8 (a5.toNat : Int) : Value) = z5
    generalize (.int .u8 (a6.toNat : Int) : Value) = z6
    generalize (.int .u8 (a7.toNat : Int) : Value) = z7
    generalize (.int .u8 (a8.toNat : Int) : Value) = z8
    generalize (.int .u8 (a9.toNat : Int) : Value) = z9
    generalize (.int .u8 (a10.toNat : Int) : Value) = z10
    generalize (.int .u8 (a11.toNat : Int) : Value) = z11
    generalize (.int .u8 (a12.toNat : Int) : Value) = z12
    generalize (.int .u8 (a13.toNat : Int) : Value) = z13
    generalize (.int .u8 (a14.toNat : Int) : Value) = z14
    generalize (.int .u8 (a15.toNat : Int) : Value) = z15
    generalize (.int .u8 (a16.toNat : Int) : Value) = z16
    generalize (.int .u8 (a17.toNat : Int) : Value) = z17
    generalize (.int .u8 (a18.toNat : Int) : Value) = z18
    generalize (.int .u8 (a19.toNat : Int) : Value) = z19
    generalize (.int .u8 (a20.toNat : Int) : Value) = z20
    generalize (.int .u8 (a21.toNat : Int) : Value) = z21
    generalize (.int .u8 (a22.toNat : Int) : Value) = z22
    generalize (.int .u8 (a23.toNat : Int) : Value) = z23
    generalize (.int .u8 (a24.toNat : Int) : Value) = z24
    generalize (.int .u8 (a25.toNat : Int) : Value) = z25
    generalize (.int .u8 (a26.toNat : Int) : Value) = z26
    generalize (.int .u8 (a27.toNat : Int) : Value) = z27
    generalize (.int .u8 (a28.toNat : Int) : Value) = z28
    generalize (.int .u8 (a29.toNat : Int) : Value) = z29
    generalize (.int .u8 (a30.toNat : Int) : Value) = z30
    generalize (.int .u8 (a31.toNat : Int) : Value) = z31
    kernel_rfl

/-- a composite literal, its value laid -/
theorem wl_build {P : Program} {ops : Array Oper} {rest : List Oper} {o : Oper} {a : Act} {w : World} {Q : Exit → Act → World → Prop} (hw : Region.wanted o (yielded ops a.tmps) = true) (t : TypeId) (parts : List (Nat × Operand)) (ho : o.op = .build t parts.toArray)
    (vals : List (Nat × Value)) (hv : (parts.map fun (i, x) => (i, a.eval x)) = vals) (cells : Array Value) (hc : P.built t vals = some cells) (h : wpList P ops Q rest (a.put o.dst (.agg cells)) w) : wpList P ops Q (o :: rest) a w := by
  refine wl_step hw fun K hK => ?_
  subst hv
  have hc' : P.built t (parts.toArray.map fun (i, x) => (i, a.eval x)).toList = some cells := by simpa using hc
  refine wp_build t parts.toArray ho (by rw [hc']; rfl) ?_
  rw [hc']
  exact hK _ _ h

/-- what Count hands back -/
def CountPost (w : World) (n : Nat) (key : List UInt8) (e : Ending) (w' : World) : Prop :=
  (n = 32 ∧ ∃ p, e = .returned (.tuple #[.pointer (some ⟨p, 0, none⟩), .int .i64 0]) ∧ w.heap.size ≤ p ∧ FlowAt w' 64 p [.int .i64 0] key 0 ∧ Below w.heap.size w w') ∨
  (n ≠ 32 ∧ e = .returned (.tuple #[.pointer none, .int .i64 2]) ∧ w = w')

set_option maxHeartbeats 1000000 in
theorem Count_any (A : Option Addr) (n c : Nat) (key : List UInt8) (w : World) (B : Nat) (hk : RB w B A n key) (hB : B ≤ w.heap.size) :
    Calls Try.prog 29 #[.slice A n c] w (CountPost w n key) := by
  have HK := Lib.hid hk
  clear hk
  go_enter Try.func29, Try.ntmps29
  go_wp2_with fail
  refine (New_any A n c key w B HK.out hB).mono ?_
  rintro e w1 (⟨h32, p, rfl, hp, hf, hb⟩ | ⟨h32, rfl, rfl⟩)
  · have HF := Lib.hid hf
    have HB1 := Lib.hid hb
    have HR := Lib.hid (blk_range hf.blk)
    have hz1 := hb.size
    have HI := Lib.hid (show (Try.prog.info? 62).map (·.size) = some (bv key ++ [Value.int .i64 ((0 : Nat) : Int)]).length by rw [List.length_append, length_bv, hf.len]; kernel_rfl)
    have hbuild := built_counted key hf.len
    obtain ⟨cs, hcs⟩ : ∃ cs, (bv key ++ [Value.int .i64 0]).toArray = cs := ⟨_, rfl⟩
    obtain ⟨ds, hds⟩ : ∃ ds, (bv key ++ [Value.int .i64 0, .int .i64 0]).toArray = ds := ⟨_, rfl⟩
    rw [hcs, hds] at hbuild
    have HBT := Lib.hid hbuild
    have HCS := Lib.hid hcs
    have HDS := Lib.hid hds
    clear hcs hds hf hb hbuild
    go_wp2_with (first | (refine wpList_load_mid rfl 62 _ rfl p 0 rfl (bv key ++ [Value.int .i64 ((0 : Nat) : Int)]) _ HR.out Try.underlying62 rfl HI.out ?_; rw [show (bv key ++ [Value.int .i64 ((0 : Nat) : Int)]).toArray = cs from HCS.out]) | (refine wl_build rfl 64 [(0, .tmp 16)] rfl [(0, .agg cs)] rfl ds HBT.out ?_))
    go_ret2
    refine .inl ⟨h32, w1.heap.size, rfl, hz1, ⟨?_, HF.out.len⟩, HB1.out.alloc hz1 _⟩
    rw [heap_alloc_new, ← HDS.out]
    rfl
  · go_wp2_with fail
    go_ret2
    exact .inr ⟨h32, rfl, rfl⟩

theorem FlowAt.rest0 {w : World} {ty : TypeId} {p u : Nat} {x : Value} {key : List UInt8} (h : FlowAt w ty p [x] key u) : w.cell? ⟨p, 33, none⟩ = some x := by
  rw [blk_cell h.blk, List.getElem?_toArray, List.getElem?_append_right (by rw [length_bv, h.len]; decide), length_bv, h.len]
  rfl
theorem FlowAt.setRest {w : World} {ty : TypeId} {p u : Nat} {x : Value} {key : List UInt8} (h : FlowAt w ty p [x] key u) (y : Value) : FlowAt (w.setCell ⟨p, 33, none⟩ y) ty p [y] key u := by
  refine ⟨?_, h.len⟩
  rw [blk_set h.blk]
  congr 2
  rw [List.setIfInBounds_toArray]
  congr 1
  rw [List.set_append_right _ _ (by rw [length_bv, h.len]; decide), length_bv, h.len]
  rfl

/-- how many calls are counted behind one more -/
def cntN (u : Nat) (n : Int) (k : Nat) : Nat := if nxtE u n = 0 then k + 1 else k
theorem nxtE_cases (u : Nat) (n : Int) : nxtE u n = 0 ∨ nxtE u n = 1 ∨ nxtE u n = 11 := by
  unfold nxtE
  split
  · simp
  · split <;> simp
set_option maxHeartbeats 1000000 in
theorem CNext_any (p : Nat) (k : Nat) (key : List UInt8) (u : Nat) (n : Int) (w : World) (hf : FlowAt w 64 p [.int .i64 (k : Int)] key u) (hu : u ≤ 65536) (hk : k ≤ 1099511627776) :
    Calls Try.prog 33 #[.pointer (some ⟨p, 0, none⟩), .int .i64 n] w (FlowPost w 64 p [.int .i64 (cntN u n k : Nat)] key (nxtU u n) (nxtL key u n) (nxtE u n)) := by
  have HF := Lib.hid hf
  have HC := Lib.hid (show cntN u n k = if nxtE u n = 0 then k + 1 else k from rfl)
  have HE := Lib.hid (nxtE_cases u n)
  have hlt := hf.lt
  have HN := Lib.hid (Next_any _ p [.int .i64 (k : Int)] key u n w hf hu)
  clear hf
  generalize cntN u n k = kk at *
  generalize nxtE u n = er at *
  generalize nxtL key u n = nl at *
  generalize nxtU u n = nu at *
  go_enter Try.func33, Try.ntmps33
  go_wp2_with fail
  refine HN.out.mono ?_
  rintro e w1 ⟨A1, n1, c1, rfl, hl1, ho1, hf1, hg1⟩
  have HL1 := Lib.hid hl1
  have HO1 := Lib.hid ho1
  have HF1 := Lib.hid hf1
  have HG1 := Lib.hid hg1
  have hcell := hf1.rest0
  have hfree := hf1.free 33
  clear hl1 ho1 hf1 hg1
  rcases HE.out with rfl | rfl | rfl
  · have hk2 := HC.out
    rw [if_pos rfl] at hk2
    subst hk2
    go_wp2_with fail
    go_ret2
    have e4 : (k : Int) + 1 = ((k + 1 : Nat) : Int) := by omega
    rw [e4]
    refine ⟨_, n1, c1, rfl, HL1.out, ?_, HF1.out.setRest _, grown_trans HG1.out (grown_setCell w1 p 33 _)⟩
    exact HO1.out.kept (grown_setCell w1 p 33 _) (far_own HO1.out hlt)
  · have hk2 := HC.out
    rw [if_neg (by decide)] at hk2
    subst hk2
    go_wp2_with fail
    go_ret2
    exact ⟨_, n1, c1, rfl, HL1.out, HO1.out, HF1.out, HG1.out⟩
  · have hk2 := HC.out
    rw [if_neg (by decide)] at hk2
    subst hk2
    go_wp2_with fail
    go_ret2
    exact ⟨_, n1, c1, rfl, HL1.out, HO1.out, HF1.out, HG1.out⟩
end Go.Proofs.Ytbnlpahgpphpjaa
