/-
  An analysis of a program in plain Lean (what is known of each instruction), and the memory that holds it. Contract of search.find. Conditions: a program in form.
-/
import Derived.Test.YtkmcjjoicpgjfaaVerRefers
import Derived.Deep.RegionHeld3
namespace Go.Proofs.Ytkmcjjoicpgjfaa
open Go Go.RowKit Go.Sh

/-- an analysis: heights (-1: not reached), timers, waiting, the first that may wait, the peak -/
structure St where
  hs : List Int
  ts : List Bool
  wt : List Bool
  fs : Nat
  pk : Int
def tv (l : List Bool) : List Value := l.map Value.bool
theorem length_tv (l : List Bool) : (tv l).length = l.length := by simp [tv]
def bat (l : List Bool) (k : Nat) : Bool := l.getD k false
theorem tv_at (l : List Bool) {k : Nat} (h : k < l.length) : (tv l)[k]? = some (.bool (bat l k)) := by
  unfold tv bat
  rw [List.getElem?_map, List.getD_eq_getElem?_getD, List.getElem?_eq_getElem h]
  rfl
theorem iv_at' (l : List Int) {k : Nat} (h : k < l.length) : (iv l)[k]? = some (.int .i64 (it l k)) := by
  unfold iv it
  rw [List.getElem?_map, List.getD_eq_getElem?_getD, List.getElem?_eq_getElem h]
  rfl
theorem tv_set (l : List Bool) (k : Nat) (b : Bool) : (tv l).set k (.bool b) = tv (l.set k b) := by simp [tv, List.map_set]
theorem iv_set (l : List Int) (k : Nat) (x : Int) : (iv l).set k (.int .i64 x) = iv (l.set k x) := by simp [iv, List.map_set]
/-- the cells of a search -/
def scs (d : Pad) (p : Prg) (gh gt gw n : Nat) (s : St) : List Value :=
  [.slice (some ⟨gh, 0, none⟩) n n, .slice (some ⟨gt, 0, none⟩) n n, .int .i64 s.pk] ++ (pcs d p).toList ++ [.slice (some ⟨gw, 0, none⟩) n n, .int .i64 (s.fs : Int)]
/-- the blocks of a search are four different ones, from G on -/
structure Apt (G q gh gt gw : Nat) : Prop where
  lq : G ≤ q
  lh : G ≤ gh
  lt : G ≤ gt
  lw : G ≤ gw
  qh : q ≠ gh
  qt : q ≠ gt
  qw : q ≠ gw
  ht : gh ≠ gt
  hw : gh ≠ gw
  tw : gt ≠ gw
/-- a search lies in block q -/
structure SM (w : World) (d : Pad) (p : Prg) (q gh gt gw n : Nat) (s : St) : Prop where
  blk : w.heap[q]? = some (.cells (scs d p gh gt gw n s).toArray 69 (0, 0))
  H : w.heap[gh]? = some (.cells (iv s.hs).toArray 3 (0, 0))
  T : w.heap[gt]? = some (.cells (tv s.ts).toArray 4 (0, 0))
  W : w.heap[gw]? = some (.cells (tv s.wt).toArray 4 (0, 0))
  lh : s.hs.length = n
  lt : s.ts.length = n
  lw : s.wt.length = n
section
variable {w w' : World} {d : Pad} {p : Prg} {G q gh gt gw n : Nat} {s : St}
theorem SM.keep (h : SM w d p q gh gt gw n s) (e1 : w'.heap[q]? = w.heap[q]?) (e2 : w'.heap[gh]? = w.heap[gh]?) (e3 : w'.heap[gt]? = w.heap[gt]?) (e4 : w'.heap[gw]? = w.heap[gw]?) : SM w' d p q gh gt gw n s :=
  ⟨e1.trans h.blk, e2.trans h.H, e3.trans h.T, e4.trans h.W, h.lh, h.lt, h.lw⟩
theorem SM.below {B : Nat} (h : SM w d p q gh gt gw n s) (hb : Below B w w') (h1 : q < B) (h2 : gh < B) (h3 : gt < B) (h4 : gw < B) : SM w' d p q gh gt gw n s :=
  h.keep (hb.block q h1) (hb.block gh h2) (hb.block gt h3) (hb.block gw h4)
theorem SM.drewN (h : SM w d p q gh gt gw n s) (k : Nat) : SM (w.drewN k) d p q gh gt gw n s := h.keep rfl rfl rfl rfl
theorem SM.q_lt (h : SM w d p q gh gt gw n s) : q < w.heap.size := (Array.getElem?_eq_some_iff.1 h.blk).1
theorem SM.h_lt (h : SM w d p q gh gt gw n s) : gh < w.heap.size := (Array.getElem?_eq_some_iff.1 h.H).1
theorem SM.t_lt (h : SM w d p q gh gt gw n s) : gt < w.heap.size := (Array.getElem?_eq_some_iff.1 h.T).1
theorem SM.w_lt (h : SM w d p q gh gt gw n s) : gw < w.heap.size := (Array.getElem?_eq_some_iff.1 h.W).1
theorem SM.new (h : SM w d p q gh gt gw n s) (hb : Below w.heap.size w w') : SM w' d p q gh gt gw n s := h.below hb h.q_lt h.h_lt h.t_lt h.w_lt
theorem SM.c0 (h : SM w d p q gh gt gw n s) : w.cell? ⟨q, 0, none⟩ = some (.slice (some ⟨gh, 0, none⟩) n n) := by rw [blk_cell h.blk]; rfl
theorem SM.c1 (h : SM w d p q gh gt gw n s) : w.cell? ⟨q, 1, none⟩ = some (.slice (some ⟨gt, 0, none⟩) n n) := by rw [blk_cell h.blk]; rfl
theorem SM.c2 (h : SM w d p q gh gt gw n s) : w.cell? ⟨q, 2, none⟩ = some (.int .i64 s.pk) := by rw [blk_cell h.blk]; rfl
theorem SM.c3 (h : SM w d p q gh gt gw n s) : w.cell? ⟨q, 3, none⟩ = some (.slice d.A1 d.n1 d.c1) := by rw [blk_cell h.blk]; rfl
theorem SM.c8 (h : SM w d p q gh gt gw n s) : w.cell? ⟨q, 8, none⟩ = some (.int .i64 p.stack) := by rw [blk_cell h.blk]; rfl
theorem SM.c11 (h : SM w d p q gh gt gw n s) : w.cell? ⟨q, 11, none⟩ = some (.slice (some ⟨gw, 0, none⟩) n n) := by rw [blk_cell h.blk]; rfl
theorem SM.c12 (h : SM w d p q gh gt gw n s) : w.cell? ⟨q, 12, none⟩ = some (.int .i64 (s.fs : Int)) := by rw [blk_cell h.blk]; rfl
theorem SM.ch (h : SM w d p q gh gt gw n s) {k : Nat} (hk : k < n) : w.cell? ⟨gh, k, none⟩ = some (.int .i64 (it s.hs k)) := by rw [blk_cell h.H, List.getElem?_toArray, iv_at' _ (by rw [h.lh]; exact hk)]
theorem SM.ct (h : SM w d p q gh gt gw n s) {k : Nat} (hk : k < n) : w.cell? ⟨gt, k, none⟩ = some (.bool (bat s.ts k)) := by rw [blk_cell h.T, List.getElem?_toArray, tv_at _ (by rw [h.lt]; exact hk)]
theorem SM.cw (h : SM w d p q gh gt gw n s) {k : Nat} (hk : k < n) : w.cell? ⟨gw, k, none⟩ = some (.bool (bat s.wt k)) := by rw [blk_cell h.W, List.getElem?_toArray, tv_at _ (by rw [h.lw]; exact hk)]
theorem set_blk {P : World} {g k : Nat} {xs : List Value} {ty : TypeId} {v : Value} (h : P.heap[g]? = some (.cells xs.toArray ty (0, 0))) : (P.setCell ⟨g, k, none⟩ v).heap[g]? = some (.cells (xs.set k v).toArray ty (0, 0)) := by
  rw [blk_set h, List.setIfInBounds_toArray]
theorem far_blk {P : World} {g b k : Nat} {v : Value} (h : b ≠ g) : (P.setCell ⟨g, k, none⟩ v).heap[b]? = P.heap[b]? := Below.heap_setCell P ⟨g, k, none⟩ v b h
set_option maxRecDepth 100000 in
theorem SM.setH (h : SM w d p q gh gt gw n s) (a : Apt G q gh gt gw) (k : Nat) (x : Int) : SM (w.setCell ⟨gh, k, none⟩ (.int .i64 x)) d p q gh gt gw n { s with hs := s.hs.set k x } :=
  ⟨(far_blk a.qh).trans h.blk, by rw [set_blk h.H, iv_set], (far_blk (Ne.symm a.ht)).trans h.T, (far_blk (Ne.symm a.hw)).trans h.W, by simpa using h.lh, h.lt, h.lw⟩
set_option maxRecDepth 100000 in
theorem SM.setT (h : SM w d p q gh gt gw n s) (a : Apt G q gh gt gw) (k : Nat) (x : Bool) : SM (w.setCell ⟨gt, k, none⟩ (.bool x)) d p q gh gt gw n { s with ts := s.ts.set k x } :=
  ⟨(far_blk a.qt).trans h.blk, (far_blk a.ht).trans h.H, by rw [set_blk h.T, tv_set], (far_blk (Ne.symm a.tw)).trans h.W, h.lh, by simpa using h.lt, h.lw⟩
set_option maxRecDepth 100000 in
theorem SM.setW (h : SM w d p q gh gt gw n s) (a : Apt G q gh gt gw) (k : Nat) (x : Bool) : SM (w.setCell ⟨gw, k, none⟩ (.bool x)) d p q gh gt gw n { s with wt := s.wt.set k x } :=
  ⟨(far_blk a.qw).trans h.blk, (far_blk a.hw).trans h.H, (far_blk a.tw).trans h.T, by rw [set_blk h.W, tv_set], h.lh, h.lt, by simpa using h.lw⟩
theorem SM.setF (h : SM w d p q gh gt gw n s) (a : Apt G q gh gt gw) (x : Nat) : SM (w.setCell ⟨q, 12, none⟩ (.int .i64 (x : Int))) d p q gh gt gw n { s with fs := x } :=
  ⟨by rw [set_blk h.blk]; rfl, (far_blk (Ne.symm a.qh)).trans h.H, (far_blk (Ne.symm a.qt)).trans h.T, (far_blk (Ne.symm a.qw)).trans h.W, h.lh, h.lt, h.lw⟩
theorem SM.setP (h : SM w d p q gh gt gw n s) (a : Apt G q gh gt gw) (x : Int) : SM (w.setCell ⟨q, 2, none⟩ (.int .i64 x)) d p q gh gt gw n { s with pk := x } :=
  ⟨by rw [set_blk h.blk]; rfl, (far_blk (Ne.symm a.qh)).trans h.H, (far_blk (Ne.symm a.qt)).trans h.T, (far_blk (Ne.symm a.qw)).trans h.W, h.lh, h.lt, h.lw⟩
end
/-- an instruction is reached -/
def findS (n : Nat) (s : St) (at_ h : Int) (t : Bool) : Int × St :=
  if (n : Int) ≤ at_ then (14, s)
  else if 0 ≤ it s.hs at_.toNat then (if bat s.ts at_.toNat != t then (10, s) else if it s.hs at_.toNat ≠ h then (13, s) else (0, s))
  else (0, { s with hs := s.hs.set at_.toNat h, ts := s.ts.set at_.toNat t, wt := s.wt.set at_.toNat true, fs := min s.fs at_.toNat })
end Go.Proofs.Ytkmcjjoicpgjfaa
