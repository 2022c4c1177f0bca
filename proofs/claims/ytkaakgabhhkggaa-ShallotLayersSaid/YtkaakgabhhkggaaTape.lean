/-
  Contracts of codec.clone, of codec.NewCursor and the methods Left, Done and Take of codec.Cursor for a cursor that begins a block, whatever lies behind it, and of shallotref01.Over, tape.NewTape and Tape.Draw.
-/
import Derived.Test.YtkaakgabhhkggaaCopy
import Derived.Deep.RegionHeld3
namespace Go.Proofs.Ytkaakgabhhkggaa
open Go Go.RowKit Go.Sh

set_option maxRecDepth 100000 in
theorem clone_any (A : Option Addr) (n c : Nat) (l : List UInt8) (w : World) (B : Nat) (hr : RB w B A n l) (hB : B ≤ w.heap.size) (hn : n ≤ 140737488355328) :
    Calls Try.prog 50 #[.slice A n c] w (RetB w n l) := by
  have HL := Lib.hid hr.len
  have HR := Lib.hid hr
  clear hr
  go_enter Try.func50, Try.ntmps50
  go_wp2_with (at_make; refine wl_makeB TB rfl (.tmp 5) (.tmp 5) rfl .i64 .i64 _ _ rfl rfl n ?m1 ?m2 ?m3 w.heap.size (Nat.le_refl _) ?m5)
  case m1 => rfl
  case m2 => rfl
  case m3 => omega
  case m5 =>
    intro w1 hown hg _
    have HO := Lib.hid hown
    have HB := Lib.hid (show Below w.heap.size w w1 from (Below.refl _ _).grown hg (Nat.le_refl _) (by simp))
    clear hown hg
    go_wp2_with (with_reducible refine wl_copy TB rfl (.tmp 7) (.tmp 8) rfl _ n n rfl A n c rfl w.heap.size _ HO.out B (bv l) ?c1 (bv_one l) ?c2)
    case c1 => exact HR.out.below (HB.out.mono hB)
    case c2 =>
      intro w2 hown2 hg2
      rw [List.take_of_length_le (by rw [length_bv, HL.out]; exact Nat.le_refl _), List.drop_eq_nil_of_le (by rw [length_bv, length_zs]; exact Nat.le_refl _), List.append_nil] at hown2
      have HO2 := Lib.hid hown2
      have HB2 := Lib.hid (HB.out.grown hg2 HB.out.size (by simp [Value.ownBlock]))
      clear hown2 hg2
      go_wp2
      go_ret
      exact ⟨_, n, rfl, HO2.out, HB2.out⟩

/-- p is a cursor of the call's own over the bytes l, a of which have been taken -/
def CurG (t : TypeId) (suf : List Value) (S : Value) (w : World) (base p : Nat) (l : List UInt8) (a : Nat) : Prop :=
  base ≤ p ∧ a ≤ l.length ∧ ∃ A n c, S = .slice A n c ∧ w.heap[p]? = some (.cells (.slice A n c :: .int .i64 (a : Int) :: suf).toArray t (0, 0)) ∧ w.ownsRow base 5 1 (.slice A n c) n (bv l)
theorem CurG.lt {t : TypeId} {suf : List Value} {S : Value} {w : World} {base p : Nat} {l : List UInt8} {a : Nat} (h : CurG t suf S w base p l a) : p < w.heap.size := by
  obtain ⟨_, _, _, _, _, _, h, _⟩ := h
  exact (Array.getElem?_eq_some_iff.1 h).1
theorem CurG.len {t : TypeId} {suf : List Value} {S : Value} {w : World} {base p : Nat} {l : List UInt8} {a : Nat} (h : CurG t suf S w base p l a) : a ≤ l.length := h.2.1
theorem CurG.grown {t : TypeId} {suf : List Value} {S : Value} {w w' : World} {base p : Nat} {l : List UInt8} {a : Nat} {row : Option Nat} (h : CurG t suf S w base p l a) (hg : w.grownBy w' row) (hp : row ≠ some p) (hrow : S.ownBlock = none ∨ S.ownBlock ≠ row) : CurG t suf S w' base p l a := by
  have hlt := h.lt
  obtain ⟨h1, h2, A, n, c, rfl, h3, h4⟩ := h
  exact ⟨h1, h2, A, n, c, rfl, (hg.block p hlt (fun e => hp e.symm)).trans h3, h4.kept hg hrow⟩
theorem CurG.later {t : TypeId} {suf : List Value} {S : Value} {w w' : World} {base p : Nat} {l : List UInt8} {a : Nat} (h : CurG t suf S w base p l a) (hb : Below w.heap.size w w') : CurG t suf S w' base p l a := by
  have hlt := h.lt
  obtain ⟨h1, h2, A, n, c, rfl, h3, h4⟩ := h
  exact ⟨h1, h2, A, n, c, rfl, (hb.block p hlt).trans h3, own_later h4 hb⟩

set_option maxRecDepth 100000 in
theorem NewCursor_any (A : Option Addr) (n c : Nat) (l : List UInt8) (w : World) (B : Nat) (hr : RB w B A n l) (hB : B ≤ w.heap.size) (hn : n ≤ 140737488355328) :
    Calls Try.prog 37 #[.slice A n c] w (fun e w' => ∃ p S, e = .returned (.pointer (some ⟨p, 0, none⟩)) ∧ CurG 54 [] S w' w.heap.size p l 0 ∧ Below w.heap.size w w') := by
  go_enter Try.func37, Try.ntmps37
  go_wp2_with fail
  refine (clone_any _ _ _ l _ B hr hB hn).mono ?_
  rintro e w1 ⟨g1, c1, rfl, hown, hb⟩
  have HO := Lib.hid hown
  have HB := Lib.hid hb
  have hz := hb.size
  clear hown hb
  go_wp2
  go_ret
  refine ⟨w1.heap.size, _, rfl, ⟨hz, by omega, _, _, _, rfl, heap_alloc_new w1 _, HO.out.alloc _⟩, HB.out.alloc hz _⟩

theorem cur_cells {w : World} {p : Nat} {x y : Value} {suf : List Value} {t : TypeId} (h : w.heap[p]? = some (.cells (x :: y :: suf).toArray t (0, 0))) : w.cell? ⟨p, 0, none⟩ = some x ∧ w.cell? ⟨p, 1, none⟩ = some y ∧ w.frozen? ⟨p, 0, none⟩ = false ∧ w.frozen? ⟨p, 1, none⟩ = false := by
  refine ⟨?_, ?_, ?_, ?_⟩
  · rw [cell_of_row w p 0 _ _ _ h]; rfl
  · rw [cell_of_row w p 1 _ _ _ h]; rfl
  · exact frozen_of_row w p 0 _ _ h
  · exact frozen_of_row w p 1 _ _ h

set_option maxRecDepth 100000 in
theorem Left_any (t : TypeId) (suf : List Value) (S : Value) (p : Nat) (base : Nat) (l : List UInt8) (a : Nat) (w : World) (h : CurG t suf S w base p l a) (hl : l.length ≤ 140737488355328) :
    Calls Try.prog 17 #[.pointer (some ⟨p, 0, none⟩)] w (fun e w' => e = .returned (.int .i64 ((l.length - a : Nat) : Int)) ∧ ∃ k, w' = w.drewN k) := by
  obtain ⟨_, h2, A, n, c, rfl, h3, h4⟩ := h
  obtain ⟨c0, c1, _, _⟩ := cur_cells h3
  have hlen : l.length = n := by have := h4.1; rw [length_bv] at this; omega
  have HE := Lib.hid (show ((l.length - a : Nat) : Int) = (n : Int) - (a : Int) by omega)
  have ha : a ≤ n := by omega
  have hn : n ≤ 140737488355328 := by omega
  clear h2 h3 h4 hlen hl
  go_enter Try.func17, Try.ntmps17
  go_wp2
  go_quiet (fail)
  go_wp2
  go_ret
  refine ⟨?_, nq, rfl⟩
  rw [HE.out]
  simp
  try (rw [IntKind.wrap_i64]; omega)

set_option maxRecDepth 100000 in
theorem Done_any (t : TypeId) (suf : List Value) (S : Value) (p : Nat) (base : Nat) (l : List UInt8) (a : Nat) (w : World) (h : CurG t suf S w base p l a) :
    Calls Try.prog 19 #[.pointer (some ⟨p, 0, none⟩)] w (fun e w' => e = .returned (.int .i64 (a : Int)) ∧ w = w') := by
  obtain ⟨_, h2, A, n, c, rfl, h3, h4⟩ := h
  obtain ⟨c0, c1, _, _⟩ := cur_cells h3
  clear h2 h3 h4
  go_enter Try.func19, Try.ntmps19
  go_wp2
  go_ret
  exact ⟨rfl, rfl⟩

/-- every byte turned by 0x5A -/
def turn (l : List UInt8) : List UInt8 := l.map fun x => x ^^^ 90
def turnK (l : List UInt8) (k : Nat) : List UInt8 := (l.take k).map (fun x => x ^^^ 90) ++ l.drop k
theorem length_turnK (l : List UInt8) (k : Nat) : (turnK l k).length = l.length := by simp [turnK]; omega
theorem bt_turnK {l : List UInt8} {k : Nat} (h : k < l.length) : bt (turnK l k) k = bt l k := by
  unfold bt turnK
  simp only [List.getD_eq_getElem?_getD]
  rw [List.getElem?_append_right (by simp; omega)]
  simp
  rw [show k - min k l.length = 0 by omega]
  simp
theorem turnK_succ {l : List UInt8} {k : Nat} (h : k < l.length) : turnK l (k + 1) = (turnK l k).set k (l.getD k 0 ^^^ 90) := by
  unfold turnK
  have hl : ((l.take k).map (fun x => x ^^^ 90)).length = k := by simp; omega
  rw [List.set_append_right _ _ (by omega), hl, Nat.sub_self, List.drop_eq_getElem_cons (show k < l.length from h), List.set_cons_zero, List.take_succ_eq_append_getElem h, List.map_append, List.append_assoc]
  simp [h]
theorem bv_put (l : List UInt8) (i : Nat) (x : UInt8) : (bv l).set i (.int .u8 (x.toNat : Int)) = bv (l.set i x) := by simp [bv, List.map_set]

/-- what a Take gives: the error's number and the bytes; the cursor has gone on by so many -/
def takE (n a : Nat) (k : Int) : Int := if k < 0 then 1 else if ((n - a : Nat) : Int) < k then 2 else 0
def takL (l : List UInt8) (a : Nat) (k : Int) : List UInt8 := if takE l.length a k = 0 then (l.drop a).take k.toNat else []
def takN (n a : Nat) (k : Int) : Nat := if takE n a k = 0 then a + k.toNat else a
theorem own_off {w : World} {base e size n p : Nat} {v : Value} {xs : List Value} {cs : Array Value} {t : TypeId} {fr : Nat × Nat} (h : w.ownsRow base e size v n xs) (hp : w.heap[p]? = some (.cells cs t fr)) (hne : e ≠ t) : v.ownBlock = none ∨ v.ownBlock ≠ some p := by
  rcases h.2 with ⟨rfl, _⟩ | ⟨g, cap, cur, rfl, _, hgg, _⟩
  · exact .inl rfl
  · refine .inr fun he => ?_
    simp only [Value.ownBlock, Option.some.injEq] at he
    subst he
    rw [hgg] at hp
    simp only [Option.some.injEq, Obj.cells.injEq] at hp
    exact hne hp.2.1
theorem grown_set (w : World) (b i : Nat) (v : Value) : w.grownBy (w.setCell ⟨b, i, none⟩ v) (some b) :=
  ⟨rfl, rfl, rfl, by simp [World.setCell], fun k _ hk => Below.heap_setCell _ _ _ _ (fun e => hk (by simp [e]))⟩
theorem cur_set {w : World} {p : Nat} {x y : Value} {suf : List Value} {t : TypeId} (h : w.heap[p]? = some (.cells (x :: y :: suf).toArray t (0, 0))) (v : Value) : (w.setCell ⟨p, 1, none⟩ v).heap[p]? = some (.cells (x :: v :: suf).toArray t (0, 0)) := by
  simp [World.setCell, Array.getElem?_modify, h]
/-- the cursor gone on -/
theorem CurG.step {t : TypeId} {suf : List Value} {S : Value} (ht : 5 ≠ t) {w : World} {base p : Nat} {l : List UInt8} {a : Nat} (h : CurG t suf S w base p l a) (k : Nat) (hk : k ≤ l.length) : CurG t suf S (w.setCell ⟨p, 1, none⟩ (.int .i64 (k : Int))) base p l k := by
  obtain ⟨h1, h2, A, n, c, rfl, h3, h4⟩ := h
  exact ⟨h1, hk, A, n, c, rfl, cur_set h3 _, h4.kept (grown_set w p 1 _) (own_off h4 h3 ht)⟩
theorem grown_of_below {w w' : World} (h : Below w.heap.size w w') (row : Option Nat) : w.grownBy w' row := ⟨h.os, h.tape, h.output, h.size, fun k hk _ => h.block k hk⟩

theorem grown_drewN (w : World) (k : Nat) (row : Option Nat) : w.grownBy (w.drewN k) row := ⟨rfl, rfl, rfl, Nat.le_refl _, fun _ _ _ => rfl⟩
theorem CurG.drewN {t : TypeId} {suf : List Value} {S : Value} {w : World} {base p : Nat} {l : List UInt8} {a : Nat} (h : CurG t suf S w base p l a) (k : Nat) : CurG t suf S (w.drewN k) base p l a := h

/-- the same, all below top -/
def CurGT (t : TypeId) (suf : List Value) (S : Value) (w : World) (base top p : Nat) (l : List UInt8) (a : Nat) : Prop :=
  CurG t suf S w base p l a ∧ p < top ∧ ∀ k, S.ownBlock = some k → k < top
theorem CurG.low {t : TypeId} {suf : List Value} {S : Value} {w : World} {base base' p : Nat} {l : List UInt8} {a : Nat} (h : CurG t suf S w base p l a) (hb : base' ≤ base) : CurG t suf S w base' p l a := by
  obtain ⟨h1, h2, A, n, c, rfl, h3, h4⟩ := h
  exact ⟨by omega, h2, A, n, c, rfl, h3, own_base h4 hb⟩
theorem CurG.top {t : TypeId} {suf : List Value} {S : Value} {w : World} {base p : Nat} {l : List UInt8} {a : Nat} (h : CurG t suf S w base p l a) : CurGT t suf S w base w.heap.size p l a := by
  refine ⟨h, h.lt, fun k hk => ?_⟩
  obtain ⟨h1, h2, A, n, c, rfl, h3, h4⟩ := h
  exact (h4.lt k hk).2
/-- a write at or above the top leaves it -/
theorem CurGT.over {t : TypeId} {suf : List Value} {S : Value} {w w' : World} {base top p z : Nat} {l : List UInt8} {a : Nat} (h : CurGT t suf S w base top p l a) (hg : w.grownBy w' (some z)) (hz : top ≤ z) : CurGT t suf S w' base top p l a := by
  obtain ⟨h1, h2, h3⟩ := h
  refine ⟨h1.grown hg (fun e => by simp only [Option.some.injEq] at e; omega) ?_, h2, h3⟩
  rcases ho : S.ownBlock with _ | k
  · exact .inl rfl
  · refine .inr fun e => ?_
    simp only [Option.some.injEq] at e
    have := h3 k ho
    omega
/-- a write below the base leaves it -/
theorem CurG.under {t : TypeId} {suf : List Value} {S : Value} {w w' : World} {base p z : Nat} {l : List UInt8} {a : Nat} (h : CurG t suf S w base p l a) (hg : w.grownBy w' (some z)) (hz : z < base) : CurG t suf S w' base p l a := by
  have hp := h.1
  refine h.grown hg (fun e => by simp only [Option.some.injEq] at e; omega) ?_
  obtain ⟨h1, h2, A', n', c', rfl, h3, h4⟩ := h
  rcases ho : (Value.slice A' n' c').ownBlock with _ | k
  · exact .inl rfl
  · refine .inr fun e => ?_
    simp only [Option.some.injEq] at e
    have := (h4.lt k ho).1
    omega
theorem CurGT.later {t : TypeId} {suf : List Value} {S : Value} {w w' : World} {base top p : Nat} {l : List UInt8} {a : Nat} (h : CurGT t suf S w base top p l a) (hb : Below w.heap.size w w') : CurGT t suf S w' base top p l a :=
  ⟨h.1.later hb, h.2⟩

def TakePost (t : TypeId) (suf : List Value) (S : Value) (w : World) (base p : Nat) (l : List UInt8) (a : Nat) (k : Int) (e : Ending) (w' : World) : Prop :=
  ∃ A n c, e = .returned (.tuple #[.slice A n c, .int .i64 (takE l.length a k)]) ∧ (takL l a k).length = n ∧ w'.ownsRow w.heap.size 5 1 (.slice A n c) n (bv (takL l a k)) ∧ (takE l.length a k = 0 → ∃ g, A = some ⟨g, 0, none⟩) ∧ CurG t suf S w' base p l (takN l.length a k) ∧ w.grownBy w' (some p)

set_option maxRecDepth 100000 in
theorem Take_any (t : TypeId) (suf : List Value) (S : Value) (ht : 5 ≠ t) (p : Nat) (base : Nat) (l : List UInt8) (a : Nat) (k : Int) (w : World) (h : CurG t suf S w base p l a) (hl : l.length ≤ 140737488355328) :
    Calls Try.prog 51 #[.pointer (some ⟨p, 0, none⟩), .int .i64 k] w (TakePost t suf S w base p l a k) := by
  have HC := Lib.hid h
  have ha := h.len
  clear h
  by_cases hneg : k < 0
  · have E1 := Lib.hid (show takE l.length a k = 1 by simp [takE, hneg])
    have E2 := Lib.hid (show takL l a k = [] by simp [takL, E1.out])
    have E3 := Lib.hid (show takN l.length a k = a by simp [takN, E1.out])
    go_enter Try.func51, Try.ntmps51
    go_wp2
    go_ret2
    unfold TakePost
    rw [E1.out, E2.out, E3.out]
    exact ⟨none, 0, 0, rfl, rfl, World.ownsRow_nil _ _ _ _, fun h => absurd h (by decide), HC.out, World.grownBy.refl _ _⟩
  · obtain ⟨kn, rfl⟩ := Int.eq_ofNat_of_zero_le (show 0 ≤ k by omega)
    by_cases hbig : l.length - a < kn
    · have E1 := Lib.hid (show takE l.length a (kn : Int) = 2 by simp only [takE]; rw [if_neg hneg, if_pos (by omega)])
      have E2 := Lib.hid (show takL l a (kn : Int) = [] by simp [takL, E1.out])
      have E3 := Lib.hid (show takN l.length a (kn : Int) = a by simp [takN, E1.out])
      go_enter Try.func51, Try.ntmps51
      go_wp2_with fail
      refine (Left_any t suf S p base l a _ HC.out hl).mono ?_
      rintro e w1 ⟨rfl, nd, rfl⟩
      go_wp2
      go_ret2
      unfold TakePost
      rw [E1.out, E2.out, E3.out]
      exact ⟨none, 0, 0, rfl, rfl, World.ownsRow_nil _ _ _ _, fun h => absurd h (by decide), HC.out.drewN _, grown_drewN _ _ _⟩
    · have E1 := Lib.hid (show takE l.length a (kn : Int) = 0 by simp only [takE]; rw [if_neg hneg, if_neg (by omega)])
      have E2 := Lib.hid (show takL l a (kn : Int) = (l.drop a).take kn by simp [takL, E1.out])
      have E3 := Lib.hid (show takN l.length a (kn : Int) = a + kn by simp [takN, E1.out])
      go_enter Try.func51, Try.ntmps51
      go_wp2_with fail
      refine (Left_any t suf S p base l a _ HC.out hl).mono ?_
      rintro e w1 ⟨rfl, nd, rfl⟩
      have HC1 := Lib.hid (HC.out.drewN nd)
      have HG1 := Lib.hid (grown_drewN w nd (some p))
      have hz1 : (w.drewN nd).heap.size = w.heap.size := rfl
      generalize w.drewN nd = w1 at *
      have HZ1 := Lib.hid hz1
      have hlt1 := HC1.out.lt
      obtain ⟨hbp, _, A, n, c, hS, h3, h4⟩ := HC1.out
      obtain ⟨c0, c1, f0, f1⟩ := cur_cells h3
      have hlen : l.length = n := by have := h4.1; rw [length_bv] at this; omega
      have hcap := own_cap h4
      have hpn : a + kn ≤ n := by omega
      have hn : n ≤ 140737488355328 := by omega
      have HN := Lib.hid hlen
      have H3 := Lib.hid h3
      have H4 := Lib.hid h4
      have HRB := Lib.hid (((RB.of_own h4).cut (k := a) (cap := c) (by omega) hcap).take (k := kn) (by omega))
      have hsl := run_sl TB (P := Try.prog)
      obtain ⟨A3, hA3⟩ : ∃ A3, A3 = (if c = a then A else A.map (·.add a)) := ⟨_, rfl⟩
      have hrun : ∀ W, (Instr.slice 22 (.slice A n c) (some (.int .i64 (a : Int))) (some (.int .i64 ((a : Int) + (kn : Int)))) none).run Try.prog W = .ok (.slice A3 kn (c - a)) W := fun W => by
        have := run_sl TB W A n c .i64 .i64 a (a + kn) (by omega) (by omega)
        rw [Nat.mul_one, Nat.add_sub_cancel_left, ← hA3, show ((a + kn : Nat) : Int) = (a : Int) + (kn : Int) by omega] at this
        exact this
      rw [← hA3] at HRB
      have e1 : IntKind.i64.wrap ((a : Int) + (kn : Int)) = (a : Int) + (kn : Int) := by rw [IntKind.wrap_i64]; omega
      clear hsl hA3 h3 h4 hlen hz1
      go_wp2_with fail
      go_region_held3 (fun w' => w'.cell? ⟨p, 0, none⟩ = some (.slice A n c) ∧ w'.cell? ⟨p, 1, none⟩ = some (.int .i64 (a : Int))) (go_keep) (first | (go_at_call 50; refine (clone_any _ _ _ _ _ _ (by exact HRB.out) (by exact Nat.le_refl _) (by omega)).mono ?_; rintro e w2 ⟨g2, cc2, rfl, hown2, hb2⟩; have k0 := hb2.cell (p := ⟨p, 0, none⟩) hlt1; have k1 := hb2.cell (p := ⟨p, 1, none⟩) hlt1))
      have f1' : w2.frozen? ⟨p, 1, none⟩ = false := (hb2.frozen (p := ⟨p, 1, none⟩) hlt1).trans f1
      have HW := Lib.hid hown2
      have HB2 := Lib.hid hb2
      clear hown2 hb2 k0 k1 f0 f1 c0 c1 hrun e1
      go_wp2
      go_ret2
      unfold TakePost
      rw [E1.out, E2.out, E3.out]
      have hC2 : CurG t suf S w2 base p l a := CurG.later (w := w1.drew) HC1.out HB2.out
      have hw := HW.out
      rw [show w1.drew.heap.size = w.heap.size from HZ1.out] at hw
      have hp2 := hC2
      obtain ⟨_, _, A', n', c', _, h3', _⟩ := hp2
      refine ⟨_, _, _, rfl, ?_, hw.kept (grown_set _ p 1 _) (own_off hw h3' ht), fun _ => ⟨_, rfl⟩, ?_, ?_⟩
      · rw [List.length_take, List.length_drop]; omega
      · have hst := hC2.step ht (a + kn) (by omega)
        rw [show ((a + kn : Nat) : Int) = (a : Int) + (kn : Int) by omega] at hst
        exact hst
      · have hg2 : w1.grownBy w2 (some p) := ⟨HB2.out.os, HB2.out.tape, HB2.out.output, HB2.out.size, fun k hk _ => HB2.out.block k hk⟩
        exact (HG1.out.trans hg2).trans (grown_set _ p 1 _)


set_option maxRecDepth 100000 in
theorem NewTape_any (A : Option Addr) (n c : Nat) (l : List UInt8) (w : World) (B : Nat) (hr : RB w B A n l) (hB : B ≤ w.heap.size) (hn : n ≤ 140737488355328) :
    Calls Try.prog 16 #[.slice A n c] w (fun e w' => ∃ p S, e = .returned (.pointer (some ⟨p, 0, none⟩)) ∧ CurG 56 [] S w' w.heap.size p l 0 ∧ Below w.heap.size w w') := by
  go_enter Try.func16, Try.ntmps16
  go_wp2_with fail
  refine (NewCursor_any _ _ _ l _ B hr hB hn).mono ?_
  rintro e w1 ⟨p, _, rfl, ⟨h1, h2, A1, n1, c1, rfl, h3, h4⟩, hb⟩
  obtain ⟨c0, c1', _, _⟩ := cur_cells h3
  have HO := Lib.hid h4
  have HB := Lib.hid hb
  have hz := hb.size
  clear h3 h4 hb
  go_wp2
  go_ret
  exact ⟨w1.heap.size, _, rfl, ⟨hz, by omega, _, _, _, rfl, heap_alloc_new w1 _, HO.out.alloc _⟩, HB.out.alloc hz _⟩

/-- what a Draw gives -/
def drwE (n a : Nat) (k : Int) : Int := if takE n a k = 2 then 8 else takE n a k
def DrawPost (t : TypeId) (suf : List Value) (S : Value) (w : World) (base p : Nat) (l : List UInt8) (a : Nat) (k : Int) (e : Ending) (w' : World) : Prop :=
  ∃ A n c, e = .returned (.tuple #[.slice A n c, .int .i64 (drwE l.length a k)]) ∧ (takL l a k).length = n ∧ w'.ownsRow w.heap.size 5 1 (.slice A n c) n (bv (takL l a k)) ∧ (takE l.length a k = 0 → ∃ g, A = some ⟨g, 0, none⟩) ∧ CurG t suf S w' base p l (takN l.length a k) ∧ w.grownBy w' (some p)

set_option maxRecDepth 100000 in
theorem Draw_any (t : TypeId) (suf : List Value) (S : Value) (ht : 5 ≠ t) (p : Nat) (base : Nat) (l : List UInt8) (a : Nat) (k : Int) (w : World) (h : CurG t suf S w base p l a) (hl : l.length ≤ 140737488355328) :
    Calls Try.prog 38 #[.pointer (some ⟨p, 0, none⟩), .int .i64 k] w (DrawPost t suf S w base p l a k) := by
  go_enter Try.func38, Try.ntmps38
  go_wp2_with fail
  refine (Take_any t suf S ht p base l a k _ h hl).mono ?_
  rintro e w1 ⟨A1, n1, c1, rfl, hn1, hown1, hg1, hc1, hgr⟩
  have HN := Lib.hid hn1
  have HO := Lib.hid hown1
  have HG := Lib.hid hg1
  have HC := Lib.hid hc1
  have HR := Lib.hid hgr
  clear hn1 hown1 hg1 hc1 hgr h
  by_cases he : takE l.length a k = 2
  · have HE := Lib.hid (show drwE l.length a k = 8 by simp [drwE, he])
    have HT := Lib.hid (show takL l a k = [] by simp [takL, he])
    have h2 : (takE l.length a k == 2) = true := by simp [he]
    have HX := Lib.hid he
    clear he
    generalize hX : takE l.length a k = X at *
    go_wp2
    go_ret2
    refine ⟨none, 0, 0, by rw [HE.out]; rfl, by rw [HT.out]; rfl, by rw [HT.out]; exact World.ownsRow_nil _ _ _ _, fun h => ?_, HC.out, HR.out⟩
    have := HX.out
    omega
  · have HE := Lib.hid (show drwE l.length a k = takE l.length a k by simp [drwE, he])
    have h2 : (takE l.length a k == 2) = false := by simpa using he
    clear he
    generalize hX : takE l.length a k = X at *
    go_wp2
    go_ret2
    exact ⟨A1, n1, c1, by rw [HE.out]; rfl, HN.out, HO.out, fun h => HG.out (hX ▸ h), HC.out, HR.out⟩
end Go.Proofs.Ytkaakgabhhkggaa
