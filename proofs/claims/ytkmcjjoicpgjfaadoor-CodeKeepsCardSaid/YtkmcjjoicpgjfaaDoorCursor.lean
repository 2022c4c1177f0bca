/-
  Contracts of codec.NewCursor, the methods Left, Done, Take and Number of codec.Cursor, and shallotref01.Over.
-/
import Derived.Test.YtkmcjjoicpgjfaaDoorCut
import Derived.Test.YtkmcjjoicpgjfaaDoorGet
import Derived.Deep.RegionHeld3
namespace Go.Proofs.YtkmcjjoicpgjfaaDoor
open Go Go.RowKit Go.Sh

/-- p is a cursor of the call's own over the bytes l, a of which have been taken -/
def CurOK (w : World) (base p : Nat) (l : List UInt8) (a : Nat) : Prop :=
  base ≤ p ∧ a ≤ l.length ∧ ∃ A n c, w.heap[p]? = some (.cells #[.slice A n c, .int .i64 (a : Int)] 112 (0, 0)) ∧ w.ownsRow base 5 1 (.slice A n c) n (bv l)
theorem CurOK.lt {w : World} {base p : Nat} {l : List UInt8} {a : Nat} (h : CurOK w base p l a) : p < w.heap.size := by
  obtain ⟨_, _, _, _, _, h, _⟩ := h
  exact (Array.getElem?_eq_some_iff.1 h).1
theorem CurOK.len {w : World} {base p : Nat} {l : List UInt8} {a : Nat} (h : CurOK w base p l a) : a ≤ l.length := h.2.1
theorem CurOK.grown {w w' : World} {base p : Nat} {l : List UInt8} {a : Nat} {row : Option Nat} (h : CurOK w base p l a) (hg : w.grownBy w' row) (hp : row ≠ some p) (hrow : ∀ A n c, w.heap[p]? = some (.cells #[.slice A n c, .int .i64 (a : Int)] 112 (0, 0)) → (Value.slice A n c).ownBlock = none ∨ (Value.slice A n c).ownBlock ≠ row) : CurOK w' base p l a := by
  have hlt := h.lt
  obtain ⟨h1, h2, A, n, c, h3, h4⟩ := h
  exact ⟨h1, h2, A, n, c, (hg.block p hlt (fun e => hp e.symm)).trans h3, h4.kept hg (hrow A n c h3)⟩
theorem CurOK.later {w w' : World} {base p : Nat} {l : List UInt8} {a : Nat} (h : CurOK w base p l a) (hb : Below w.heap.size w w') : CurOK w' base p l a := by
  have hlt := h.lt
  obtain ⟨h1, h2, A, n, c, h3, h4⟩ := h
  exact ⟨h1, h2, A, n, c, (hb.block p hlt).trans h3, own_later h4 hb⟩

set_option maxRecDepth 100000 in
theorem NewCursor_any (A : Option Addr) (n c : Nat) (l : List UInt8) (w : World) (B : Nat) (hr : RB w B A n l) (hB : B ≤ w.heap.size) (hn : n ≤ 140737488355328) :
    Calls Tryd.prog 40 #[.slice A n c] w (fun e w' => ∃ p, e = .returned (.pointer (some ⟨p, 0, none⟩)) ∧ CurOK w' w.heap.size p l 0 ∧ Below w.heap.size w w') := by
  go_enter Tryd.func40, Tryd.ntmps40
  go_wp2_with fail
  refine (clone_any _ _ _ l _ B hr hB hn).mono ?_
  rintro e w1 ⟨g1, c1, rfl, hown, hb⟩
  have HO := Lib.hid hown
  have HB := Lib.hid hb
  have hz := hb.size
  clear hown hb
  go_wp2
  go_ret
  refine ⟨w1.heap.size, rfl, ⟨hz, by omega, _, _, _, heap_alloc_new w1 _, HO.out.alloc _⟩, HB.out.alloc hz _⟩

theorem cur_cells {w : World} {p : Nat} {x y : Value} {t : TypeId} (h : w.heap[p]? = some (.cells #[x, y] t (0, 0))) : w.cell? ⟨p, 0, none⟩ = some x ∧ w.cell? ⟨p, 1, none⟩ = some y ∧ w.frozen? ⟨p, 0, none⟩ = false ∧ w.frozen? ⟨p, 1, none⟩ = false := by
  refine ⟨?_, ?_, ?_, ?_⟩
  · rw [cell_of_row w p 0 _ _ _ h]; rfl
  · rw [cell_of_row w p 1 _ _ _ h]; rfl
  · exact frozen_of_row w p 0 _ _ h
  · exact frozen_of_row w p 1 _ _ h

set_option maxRecDepth 100000 in
theorem Left_any (p : Nat) (base : Nat) (l : List UInt8) (a : Nat) (w : World) (h : CurOK w base p l a) (hl : l.length ≤ 140737488355328) :
    Calls Tryd.prog 46 #[.pointer (some ⟨p, 0, none⟩)] w (fun e w' => e = .returned (.int .i64 ((l.length - a : Nat) : Int)) ∧ ∃ k, w' = w.drewN k) := by
  obtain ⟨_, h2, A, n, c, h3, h4⟩ := h
  obtain ⟨c0, c1, _, _⟩ := cur_cells h3
  have hlen : l.length = n := by have := h4.1; rw [length_bv] at this; omega
  have HE := Lib.hid (show ((l.length - a : Nat) : Int) = (n : Int) - (a : Int) by omega)
  have ha : a ≤ n := by omega
  have hn : n ≤ 140737488355328 := by omega
  clear h2 h3 h4 hlen hl
  go_enter Tryd.func46, Tryd.ntmps46
  go_wp2
  go_quiet (fail)
  go_wp2
  go_ret
  refine ⟨?_, nq, rfl⟩
  rw [HE.out]
  simp
  try (rw [IntKind.wrap_i64]; omega)

/-- every byte turned by 0x5A -/
def turn (l : List UInt8) : List UInt8 := l.map fun x => x ^^^ 90
def turnK (l : List UInt8) (k : Nat) : List UInt8 := (l.take k).map (fun x => x ^^^ 90) ++ l.drop k
theorem length_turnK (l : List UInt8) (k : Nat) : (turnK l k).length = l.length := by simp [turnK]; omega
theorem bt_turnK {l : List UInt8} {k : Nat} (h : k < l.length) : bt (turnK l k) k = bt l k := by
  unfold bt turnK
  simp only [List.getD_eq_getElem?_getD]
  rw [List.getElem?_append_right (by simp; omega)]
  simp
  rw [show k - min k l.length = 0 by omega]
  simp
theorem turnK_succ {l : List UInt8} {k : Nat} (h : k < l.length) : turnK l (k + 1) = (turnK l k).set k (l.getD k 0 ^^^ 90) := by
  unfold turnK
  have hl : ((l.take k).map (fun x => x ^^^ 90)).length = k := by simp; omega
  rw [List.set_append_right _ _ (by omega), hl, Nat.sub_self, List.drop_eq_getElem_cons (show k < l.length from h), List.set_cons_zero, List.take_succ_eq_append_getElem h, List.map_append, List.append_assoc]
  simp [h]
theorem bv_put (l : List UInt8) (i : Nat) (x : UInt8) : (bv l).set i (.int .u8 (x.toNat : Int)) = bv (l.set i x) := by simp [bv, List.map_set]

set_option maxRecDepth 100000 in
theorem Over_any (g n c base : Nat) (l : List UInt8) (w : World) (h : w.ownsRow base 5 1 (.slice (some ⟨g, 0, none⟩) n c) n (bv l)) (hn : n ≤ 140737488355328) :
    Calls Tryd.prog 22 #[.slice (some ⟨g, 0, none⟩) n c] w (fun e w' => e = .returned (.tuple #[]) ∧ w'.ownsRow base 5 1 (.slice (some ⟨g, 0, none⟩) n c) n (bv (turn l)) ∧ w.grownBy w' (some g)) := by
  have hlen : l.length = n := by have := h.1; rw [length_bv] at this; omega
  have HL := Lib.hid hlen
  have H0 := Lib.hid h
  clear h hlen
  go_enter Tryd.func22, Tryd.ntmps22
  go_wp2
  go_loopw [2] (fun i wr => ∃ k : Nat, k ≤ n ∧ i = .int .i64 k ∧ wr.ownsRow base 5 1 (.slice (some ⟨g, 0, none⟩) n c) n (bv (turnK l k)) ∧ w.grownBy wr (some g)) (fun i _ => n - (intOf i).toNat)
  case atStart => exact ⟨0, by omega, rfl, by simpa [turnK] using H0.out, World.grownBy.refl _ _⟩
  case round =>
    obtain ⟨k, hk, rfl, hown, hg⟩ := hrel
    have HO := Lib.hid hown
    have HG := Lib.hid hg
    clear hown hg
    by_cases hlt : k < n
    · have hc := HO.out.cellAt k (by omega)
      rw [bv_at _ _ (by rw [length_turnK, HL.out]; exact hlt), bt_turnK (by rw [HL.out]; exact hlt)] at hc
      have hf := HO.out.frozenAt k
      go_wp2
      refine ⟨⟨k + 1, by omega, by go_num, ?_, HG.out.trans (HO.out.stored k _).2⟩, by simp [intOf]; omega⟩
      have h := (HO.out.stored k (.int .u8 ((l.getD k 0 ^^^ 90).toNat : Int))).1
      rw [bv_put, ← turnK_succ (by rw [HL.out]; exact hlt)] at h
      unfold bt
      have e : bits BinOp.xor IntKind.u8 ((l.getD k 0).toNat : Int) 90 = ((l.getD k 0 ^^^ 90).toNat : Int) := bits_u8_xor (l.getD k 0) 90
      rw [e]
      exact h
    · obtain rfl : k = n := by omega
      have hfin := HO.out
      rw [show turnK l k = turn l by simp [turnK, turn, List.take_of_length_le (Nat.le_of_eq HL.out), List.drop_eq_nil_of_le (Nat.le_of_eq HL.out)]] at hfin
      have HF := Lib.hid hfin
      clear hfin
      go_wp2
      go_end0
      exact ⟨rfl, HF.out, HG.out⟩

/-- what a Take gives: the error's number and the bytes; the cursor has gone on by so many -/
def takE (n a : Nat) (k : Int) : Int := if k < 0 then 1 else if ((n - a : Nat) : Int) < k then 2 else 0
def takL (l : List UInt8) (a : Nat) (k : Int) : List UInt8 := if takE l.length a k = 0 then (l.drop a).take k.toNat else []
def takN (n a : Nat) (k : Int) : Nat := if takE n a k = 0 then a + k.toNat else a
theorem own_off {w : World} {base e size n p : Nat} {v : Value} {xs : List Value} {cs : Array Value} {t : TypeId} {fr : Nat × Nat} (h : w.ownsRow base e size v n xs) (hp : w.heap[p]? = some (.cells cs t fr)) (hne : e ≠ t) : v.ownBlock = none ∨ v.ownBlock ≠ some p := by
  rcases h.2 with ⟨rfl, _⟩ | ⟨g, cap, cur, rfl, _, hgg, _⟩
  · exact .inl rfl
  · refine .inr fun he => ?_
    simp only [Value.ownBlock, Option.some.injEq] at he
    subst he
    rw [hgg] at hp
    simp only [Option.some.injEq, Obj.cells.injEq] at hp
    exact hne hp.2.1
theorem grown_set (w : World) (b i : Nat) (v : Value) : w.grownBy (w.setCell ⟨b, i, none⟩ v) (some b) :=
  ⟨rfl, rfl, rfl, by simp [World.setCell], fun k _ hk => Below.heap_setCell _ _ _ _ (fun e => hk (by simp [e]))⟩
theorem cur_set {w : World} {p : Nat} {x y : Value} {t : TypeId} (h : w.heap[p]? = some (.cells #[x, y] t (0, 0))) (v : Value) : (w.setCell ⟨p, 1, none⟩ v).heap[p]? = some (.cells #[x, v] t (0, 0)) := by
  simp [World.setCell, Array.getElem?_modify, h]
/-- the cursor gone on -/
theorem CurOK.step {w : World} {base p : Nat} {l : List UInt8} {a : Nat} (h : CurOK w base p l a) (k : Nat) (hk : k ≤ l.length) : CurOK (w.setCell ⟨p, 1, none⟩ (.int .i64 (k : Int))) base p l k := by
  obtain ⟨h1, h2, A, n, c, h3, h4⟩ := h
  exact ⟨h1, hk, A, n, c, cur_set h3 _, h4.kept (grown_set w p 1 _) (own_off h4 h3 (by decide))⟩
theorem grown_of_below {w w' : World} (h : Below w.heap.size w w') (row : Option Nat) : w.grownBy w' row := ⟨h.os, h.tape, h.output, h.size, fun k hk _ => h.block k hk⟩

theorem grown_drewN (w : World) (k : Nat) (row : Option Nat) : w.grownBy (w.drewN k) row := ⟨rfl, rfl, rfl, Nat.le_refl _, fun _ _ _ => rfl⟩
theorem CurOK.drewN {w : World} {base p : Nat} {l : List UInt8} {a : Nat} (h : CurOK w base p l a) (k : Nat) : CurOK (w.drewN k) base p l a := h

/-- the same, all below top -/
def CurTop (w : World) (base top p : Nat) (l : List UInt8) (a : Nat) : Prop :=
  CurOK w base p l a ∧ p < top ∧ ∀ A n c, w.heap[p]? = some (.cells #[.slice A n c, .int .i64 (a : Int)] 112 (0, 0)) → ∀ k, (Value.slice A n c).ownBlock = some k → k < top
theorem CurOK.low {w : World} {base base' p : Nat} {l : List UInt8} {a : Nat} (h : CurOK w base p l a) (hb : base' ≤ base) : CurOK w base' p l a := by
  obtain ⟨h1, h2, A, n, c, h3, h4⟩ := h
  exact ⟨by omega, h2, A, n, c, h3, own_base h4 hb⟩
theorem CurOK.top {w : World} {base p : Nat} {l : List UInt8} {a : Nat} (h : CurOK w base p l a) : CurTop w base w.heap.size p l a := by
  refine ⟨h, h.lt, fun A n c h3' k hk => ?_⟩
  obtain ⟨h1, h2, A, n, c, h3, h4⟩ := h
  rw [h3] at h3'
  simp only [Option.some.injEq, Obj.cells.injEq, Array.mk.injEq, List.cons.injEq, Value.slice.injEq, and_true] at h3'
  obtain ⟨rfl, rfl, rfl⟩ := h3'
  exact (h4.lt k hk).2
/-- a write at or above the top leaves it -/
theorem CurTop.over {w w' : World} {base top p z : Nat} {l : List UInt8} {a : Nat} (h : CurTop w base top p l a) (hg : w.grownBy w' (some z)) (hz : top ≤ z) : CurOK w' base p l a := by
  obtain ⟨h1, h2, h3⟩ := h
  refine h1.grown hg (fun e => by simp only [Option.some.injEq] at e; omega) fun A n c hh => ?_
  have := h3 A n c hh
  rcases ho : (Value.slice A n c).ownBlock with _ | k
  · exact .inl rfl
  · refine .inr fun e => ?_
    simp only [Option.some.injEq] at e
    have := this k ho
    omega
/-- a write below the base leaves it -/
theorem CurOK.under {w w' : World} {base p z : Nat} {l : List UInt8} {a : Nat} (h : CurOK w base p l a) (hg : w.grownBy w' (some z)) (hz : z < base) : CurOK w' base p l a := by
  have hp := h.1
  refine h.grown hg (fun e => by simp only [Option.some.injEq] at e; omega) fun A n c hh => ?_
  obtain ⟨h1, h2, A', n', c', h3, h4⟩ := h
  rw [h3] at hh
  simp only [Option.some.injEq, Obj.cells.injEq, Array.mk.injEq, List.cons.injEq, Value.slice.injEq, and_true] at hh
  obtain ⟨rfl, rfl, rfl⟩ := hh
  rcases ho : (Value.slice A' n' c').ownBlock with _ | k
  · exact .inl rfl
  · refine .inr fun e => ?_
    simp only [Option.some.injEq] at e
    have := (h4.lt k ho).1
    omega
theorem CurTop.later {w w' : World} {base top p : Nat} {l : List UInt8} {a : Nat} (h : CurTop w base top p l a) (hb : Below w.heap.size w w') : CurTop w' base top p l a :=
  ⟨h.1.later hb, h.2.1, fun A n c h3 => h.2.2 A n c ((hb.block p h.1.lt).symm.trans h3)⟩
theorem CurTop.step {w : World} {base top p : Nat} {l : List UInt8} {a : Nat} (h : CurTop w base top p l a) (k : Nat) (hk : k ≤ l.length) : CurTop (w.setCell ⟨p, 1, none⟩ (.int .i64 (k : Int))) base top p l k := by
  refine ⟨h.1.step k hk, h.2.1, fun A n c h3 => ?_⟩
  obtain ⟨⟨h1, h2, A', n', c', h3', h4⟩, _, hh⟩ := h
  rw [cur_set h3'] at h3
  simp only [Option.some.injEq, Obj.cells.injEq, Array.mk.injEq, List.cons.injEq, Value.slice.injEq, and_true] at h3
  obtain ⟨rfl, rfl, rfl⟩ := h3
  exact hh _ _ _ h3'

def TakePost (w : World) (base p : Nat) (l : List UInt8) (a : Nat) (k : Int) (e : Ending) (w' : World) : Prop :=
  ∃ A n c, e = .returned (.tuple #[.slice A n c, .int .i64 (takE l.length a k)]) ∧ (takL l a k).length = n ∧ w'.ownsRow w.heap.size 5 1 (.slice A n c) n (bv (takL l a k)) ∧ (takE l.length a k = 0 → ∃ g, A = some ⟨g, 0, none⟩) ∧ CurTop w' base w.heap.size p l (takN l.length a k) ∧ w.grownBy w' (some p)

set_option maxRecDepth 100000 in
theorem Take_any (p : Nat) (base : Nat) (l : List UInt8) (a : Nat) (k : Int) (w : World) (h : CurOK w base p l a) (hl : l.length ≤ 140737488355328) :
    Calls Tryd.prog 77 #[.pointer (some ⟨p, 0, none⟩), .int .i64 k] w (TakePost w base p l a k) := by
  have HC := Lib.hid h
  have ha := h.len
  clear h
  by_cases hneg : k < 0
  · have E1 := Lib.hid (show takE l.length a k = 1 by simp [takE, hneg])
    have E2 := Lib.hid (show takL l a k = [] by simp [takL, E1.out])
    have E3 := Lib.hid (show takN l.length a k = a by simp [takN, E1.out])
    go_enter Tryd.func77, Tryd.ntmps77
    go_wp2
    go_ret2
    unfold TakePost
    rw [E1.out, E2.out, E3.out]
    exact ⟨none, 0, 0, rfl, rfl, World.ownsRow_nil _ _ _ _, fun h => absurd h (by decide), HC.out.top, World.grownBy.refl _ _⟩
  · obtain ⟨kn, rfl⟩ := Int.eq_ofNat_of_zero_le (show 0 ≤ k by omega)
    by_cases hbig : l.length - a < kn
    · have E1 := Lib.hid (show takE l.length a (kn : Int) = 2 by simp only [takE]; rw [if_neg hneg, if_pos (by omega)])
      have E2 := Lib.hid (show takL l a (kn : Int) = [] by simp [takL, E1.out])
      have E3 := Lib.hid (show takN l.length a (kn : Int) = a by simp [takN, E1.out])
      go_enter Tryd.func77, Tryd.ntmps77
      go_wp2_with fail
      refine (Left_any p base l a _ HC.out hl).mono ?_
      rintro e w1 ⟨rfl, nd, rfl⟩
      go_wp2
      go_ret2
      unfold TakePost
      rw [E1.out, E2.out, E3.out]
      exact ⟨none, 0, 0, rfl, rfl, World.ownsRow_nil _ _ _ _, fun h => absurd h (by decide), (HC.out.drewN _).top, grown_drewN _ _ _⟩
    · have E1 := Lib.hid (show takE l.length a (kn : Int) = 0 by simp only [takE]; rw [if_neg hneg, if_neg (by omega)])
      have E2 := Lib.hid (show takL l a (kn : Int) = (l.drop a).take kn by simp [takL, E1.out])
      have E3 := Lib.hid (show takN l.length a (kn : Int) = a + kn by simp [takN, E1.out])
      go_enter Tryd.func77, Tryd.ntmps77
      go_wp2_with fail
      refine (Left_any p base l a _ HC.out hl).mono ?_
      rintro e w1 ⟨rfl, nd, rfl⟩
      have HC1 := Lib.hid (HC.out.drewN nd)
      have HG1 := Lib.hid (grown_drewN w nd (some p))
      have hz1 : (w.drewN nd).heap.size = w.heap.size := rfl
      generalize w.drewN nd = w1 at *
      have HZ1 := Lib.hid hz1
      have hlt1 := HC1.out.lt
      obtain ⟨hbp, _, A, n, c, h3, h4⟩ := HC1.out
      obtain ⟨c0, c1, f0, f1⟩ := cur_cells h3
      have hlen : l.length = n := by have := h4.1; rw [length_bv] at this; omega
      have hcap := own_cap h4
      have hpn : a + kn ≤ n := by omega
      have hn : n ≤ 140737488355328 := by omega
      have HN := Lib.hid hlen
      have H3 := Lib.hid h3
      have H4 := Lib.hid h4
      have HRB := Lib.hid (((RB.of_own h4).cut (k := a) (cap := c) (by omega) hcap).take (k := kn) (by omega))
      have hsl := run_sl TB (P := Tryd.prog)
      obtain ⟨A3, hA3⟩ : ∃ A3, A3 = (if c = a then A else A.map (·.add a)) := ⟨_, rfl⟩
      have hrun : ∀ W, (Instr.slice 39 (.slice A n c) (some (.int .i64 (a : Int))) (some (.int .i64 ((a : Int) + (kn : Int)))) none).run Tryd.prog W = .ok (.slice A3 kn (c - a)) W := fun W => by
        have := run_sl TB W A n c .i64 .i64 a (a + kn) (by omega) (by omega)
        rw [Nat.mul_one, Nat.add_sub_cancel_left, ← hA3, show ((a + kn : Nat) : Int) = (a : Int) + (kn : Int) by omega] at this
        exact this
      rw [← hA3] at HRB
      have e1 : IntKind.i64.wrap ((a : Int) + (kn : Int)) = (a : Int) + (kn : Int) := by rw [IntKind.wrap_i64]; omega
      clear hsl hA3 h3 h4 hlen hz1
      go_wp2_with fail
      go_region_held3 (fun w' => w'.cell? ⟨p, 0, none⟩ = some (.slice A n c) ∧ w'.cell? ⟨p, 1, none⟩ = some (.int .i64 (a : Int))) (go_keep) (first | (go_at_call 65; refine (clone_any _ _ _ _ _ _ (by exact HRB.out) (by exact Nat.le_refl _) (by omega)).mono ?_; rintro e w2 ⟨g2, cc2, rfl, hown2, hb2⟩; have k0 := hb2.cell (p := ⟨p, 0, none⟩) hlt1; have k1 := hb2.cell (p := ⟨p, 1, none⟩) hlt1))
      have f1' : w2.frozen? ⟨p, 1, none⟩ = false := (hb2.frozen (p := ⟨p, 1, none⟩) hlt1).trans f1
      have HW := Lib.hid hown2
      have HB2 := Lib.hid hb2
      clear hown2 hb2 k0 k1 f0 f1 c0 c1 hrun e1
      go_wp2
      go_ret2
      unfold TakePost
      rw [E1.out, E2.out, E3.out]
      have hC2 : CurTop w2 base w1.drew.heap.size p l a := CurTop.later (w := w1.drew) (CurOK.top (w := w1.drew) HC1.out) HB2.out
      have hw := HW.out
      rw [show w1.drew.heap.size = w.heap.size from HZ1.out] at hw hC2
      have hp2 := hC2.1
      obtain ⟨_, _, A', n', c', h3', _⟩ := hp2
      refine ⟨_, _, _, rfl, ?_, hw.kept (grown_set _ p 1 _) (own_off hw h3' (by decide)), fun _ => ⟨_, rfl⟩, ?_, ?_⟩
      · rw [List.length_take, List.length_drop]; omega
      · have hst := hC2.step (a + kn) (by omega)
        rw [show ((a + kn : Nat) : Int) = (a : Int) + (kn : Int) by omega] at hst
        exact hst
      · have hg2 : w1.grownBy w2 (some p) := ⟨HB2.out.os, HB2.out.tape, HB2.out.output, HB2.out.size, fun k hk _ => HB2.out.block k hk⟩
        exact (HG1.out.trans hg2).trans (grown_set _ p 1 _)

def numN (o : Int) (n a : Nat) (d : Int) : Nat := if getE o n a d = 0 then a + d.toNat else a
def NumPost (w : World) (base p : Nat) (l : List UInt8) (a : Nat) (o d : Int) (e : Ending) (w' : World) : Prop :=
  e = .returned (.tuple #[.int .u64 (getV o l l.length a d : Nat), .int .i64 (getE o l.length a d)]) ∧ CurOK w' base p l (numN o l.length a d) ∧ w.grownBy w' (some p)

theorem GetPost.quiet {P : Program} {f : FuncId} {args : Array Value} {w : World} {n v : Nat} {er : Int} (h : Calls P f args (w.drewN n) (GetPost (w.drewN n) v er)) :
    Calls P f args (w.drewN n) fun e w'' => e = .returned (.tuple #[.int .u64 (v : Int), .int .i64 er]) ∧ ∃ m, w'' = w.drewN m := by
  refine h.mono fun e w'' hh => ?_
  obtain ⟨h1, rfl⟩ := hh
  exact ⟨h1, n, rfl⟩

set_option maxRecDepth 100000 in
theorem Number_any (p : Nat) (base : Nat) (l : List UInt8) (a : Nat) (o d : Int) (w : World) (h : CurOK w base p l a) (hl : l.length ≤ 140737488355328) :
    Calls Tryd.prog 66 #[.pointer (some ⟨p, 0, none⟩), .int .i64 o, .int .i64 d] w (NumPost w base p l a o d) := by
  have HC := Lib.hid h
  have ha := h.len
  obtain ⟨hbp, _, A, n, c, h3, h4⟩ := HC.out
  obtain ⟨c0, c1, f0, f1⟩ := cur_cells h3
  have hlen : l.length = n := by have := h4.1; rw [length_bv] at this; omega
  subst hlen
  have HR := Lib.hid (RB.of_own h4)
  have HQ := Lib.hid (fun W (hW : W.heap = w.heap) => Get_any o A l.length c l (a : Int) d W _ (RB.of_own (show W.ownsRow base 5 1 (.slice A l.length c) l.length (bv l) from ⟨h4.1, by rw [hW]; exact h4.2⟩)) hl (by omega))
  clear h h3 h4
  by_cases h0 : getE o l.length (a : Int) d = 0
  · have E3 := Lib.hid (show numN o l.length a d = a + d.toNat by simp [numN, h0])
    have hd : okW o d = true ∧ (a : Int) + d ≤ l.length := by
      unfold getE at h0
      split at h0
      · exact absurd h0 (by decide)
      · rename_i hh
        split at h0
        · exact absurd h0 (by decide)
        · exact ⟨by simpa using fun e => hh (.inl e), by omega⟩
    obtain ⟨_, d1, d2⟩ := okW_yes hd.1
    have hd2 := hd.2
    obtain ⟨dn, rfl⟩ := Int.eq_ofNat_of_zero_le (show 0 ≤ d by omega)
    have t1 : (getE o l.length (a : Int) (dn : Int) != 0) = false := by simp [h0]
    have HV := Lib.hid h0
    rw [h0] at HQ
    unfold NumPost
    rw [HV.out, E3.out]
    generalize getV o l l.length (a : Int) (dn : Int) = v at *
    clear h0 hd t1
    go_enter Tryd.func66, Tryd.ntmps66
    go_wp2_with fail
    go_quiet ((go_at_call 76; exact GetPost.quiet (HQ.out _ rfl)))
    go_wp2
    go_ret2
    refine ⟨rfl, ?_, (grown_drewN w _ _).trans (grown_set _ p 1 _)⟩
    have hst := (HC.out.drewN nq).step (a + dn) (by omega)
    rw [show ((a + dn : Nat) : Int) = (a : Int) + (dn : Int) by omega] at hst
    exact hst
  · have t1 : (getE o l.length (a : Int) d != 0) = true := by simp [h0]
    have E3 := Lib.hid (show numN o l.length a d = a by simp [numN, h0])
    have EV := Lib.hid (show getV o l l.length a d = 0 by simp [getV, h0])
    rw [EV.out] at HQ
    unfold NumPost
    rw [EV.out, E3.out]
    generalize getE o l.length (a : Int) d = ge at *
    clear h0
    go_enter Tryd.func66, Tryd.ntmps66
    go_wp2_with fail
    go_quiet ((go_at_call 76; exact GetPost.quiet (HQ.out _ rfl)))
    go_wp2
    go_ret2
    exact ⟨by simp, HC.out.drewN _, grown_drewN _ _ _⟩
end Go.Proofs.YtkmcjjoicpgjfaaDoor
