/-
  Contract of curve's ladder step. Conditions: the numbers fit.
-/
import Derived.Test.YtgpjidlomhkpeaaLadEx
import Derived.Test.YtgpjidlomhkpeaaFeF
import Derived.Great.BuildSlice
import Derived.Great.Walk
import Derived.Deep.Cut
namespace Go.Proofs.Ytgpjidlomhkpeaa
open Go Go.RowKit Go.Sh

def blkOf : Value → Option Nat
  | .slice (some a) _ _ => some a.block
  | .pointer (some a) => some a.block
  | _ => none
theorem lt_alloc (w : World) (o : Obj) : w.heap.size < (w.alloc o).heap.size := by simp
theorem own_lt {w : World} {b n m i : Nat} {l : List Nat} (h : (if i ∈ l then blkOf (.slice (some ⟨w.heap.size, 0, none⟩) n m) else none) = some b) (o : Obj) : w.heap.size ≤ b ∧ b < (w.alloc o).heap.size := by
  split at h
  · obtain rfl := Option.some.inj h
    exact ⟨Nat.le_refl _, lt_alloc w o⟩
  · cases h
theorem own_ltP {w : World} {b i : Nat} {l : List Nat} (h : (if i ∈ l then blkOf (.pointer (some ⟨w.heap.size, 0, none⟩)) else none) = some b) (o : Obj) : w.heap.size ≤ b ∧ b < (w.alloc o).heap.size := by
  split at h
  · obtain rfl := Option.some.inj h
    exact ⟨Nat.le_refl _, lt_alloc w o⟩
  · cases h
theorem LadB.lt {w : World} {p a b c d e : Nat} (h : LadB w p a b c d e) : p < w.heap.size := (Array.getElem?_eq_some_iff.1 h).1
theorem LadB.below {w w' : World} {p a b c d e B : Nat} (h : LadB w p a b c d e) (hb : Below B w w') (hp : p < B) : LadB w' p a b c d e := (hb.block p hp).trans h
theorem LadB.far {w : World} {p a b c d e q : Nat} (h : LadB w p a b c d e) (hq : p ≠ q) (Y : Array Value) : LadB (w.setRow q Y) p a b c d e := (setRow_other w q _ Y hq).trans h
theorem gb_below {w w1 w2 : World} {o : Option Nat} (h : w.grownBy w1 o) (hb : Below w1.heap.size w1 w2) : w.grownBy w2 o :=
  h.trans ⟨hb.os, hb.tape, hb.output, hb.size, fun k hk _ => hb.block k hk⟩
theorem gb_row {w w1 : World} {o : Option Nat} (h : w.grownBy w1 o) {q : Nat} (hq : w.heap.size ≤ q) (Y : Array Value) : w.grownBy (w1.setRow q Y) o := by
  have h1 := grown_setRow w1 q Y
  exact ⟨h1.os.trans h.os, h1.tape.trans h.tape, h1.output.trans h.output, Nat.le_trans h.size h1.size, fun k hk hne => (setRow_other w1 q k Y (by intro e; subst e; omega)).trans (h.block k hk hne)⟩
theorem gb_rowp {w w1 : World} {p : Nat} (h : w.grownBy w1 (some p)) (Y : Array Value) : w.grownBy (w1.setRow p Y) (some p) := h.trans (grown_setRow w1 p Y)
set_option maxRecDepth 100000 in
theorem pair_cells (x y : Nat) : Try.prog.builtSlice 33 2 [(0, .agg (elc x)), (1, .agg (elc y))] = some (elc x ++ elc y) := by kernel_rfl
set_option maxRecDepth 100000 in
theorem und59 : Try.prog.underlying 59 = some (.slice 33) := by kernel_rfl
theorem op_pair {o : Oper} {a : Act} {w : World} {K : Act → World → Prop} {Q : Exit → Act → World → Prop} (x y : Operand) {X Y : Nat} (ho : o.op = .buildSlice 59 2 #[(0, x), (1, y)]) (hx : a.eval x = .agg (elc X)) (hy : a.eval y = .agg (elc Y))
    (hk : K (a.put o.dst (.slice (some ⟨w.heap.size, 0, none⟩) 2 2)) (w.alloc (.cells (elc X ++ elc Y) 33))) : o.wp Try.prog a w K Q := by
  have hf : Try.prog.builtSlice 33 2 ((#[(0, x), (1, y)] : Array (Nat × Operand)).map fun (i, x) => (i, a.eval x)).toList = some (elc X ++ elc Y) := by
    have : ((#[(0, x), (1, y)] : Array (Nat × Operand)).map fun (i, x) => (i, a.eval x)).toList = [(0, .agg (elc X)), (1, .agg (elc Y))] := by simp [hx, hy]
    rw [this]; exact pair_cells X Y
  unfold Program.builtSlice at hf
  cases hie : Try.prog.info? 33 with
  | none => simp [hie] at hf
  | some ie =>
    simp only [hie] at hf
    cases hz : ie.zero with
    | none => simp [hz] at hf
    | some z =>
      simp only [hz] at hf
      by_cases hc : 2 * ie.size > 2 ^ 24 ∨ 2 * ie.size = 0
      · simp [hc] at hf
      · rw [if_neg hc] at hf
        exact wp_buildSlice 59 33 2 _ ho _ ie z und59 hie hz (fun h' => hc (Or.inl h')) (fun h' => hc (Or.inr h')) hf hk
set_option maxRecDepth 100000 in
theorem op_allocE {o : Oper} {a : Act} {w : World} {K : Act → World → Prop} {Q : Exit → Act → World → Prop} (ho : o.op = .alloc 33)
    (hk : K (a.put o.dst (.pointer (some ⟨w.heap.size, 0, none⟩))) (w.alloc (.cells (elc 0) 33))) : o.wp Try.prog a w K Q := by
  have hrun : (execOp a.eval o).run Try.prog w = .ok (.value (.pointer (some ⟨w.heap.size, 0, none⟩))) (w.alloc (.cells (elc 0) 33)) := by
    unfold execOp
    rw [ho]
    kernel_rfl
  unfold Oper.wp
  rw [hrun, Oper.upon_value]
  exact hk
theorem wl_pair {ops : Array Oper} {rest : List Oper} {o : Oper} {a : Act} {w : World} {Q : Exit → Act → World → Prop} (x y : Operand) {X Y : Nat} (hw : Region.wanted o (yielded ops a.tmps) = true) (ho : o.op = .buildSlice 59 2 #[(0, x), (1, y)]) (hx : a.eval x = .agg (elc X)) (hy : a.eval y = .agg (elc Y))
    (hk : wpList Try.prog ops Q rest (a.put o.dst (.slice (some ⟨w.heap.size, 0, none⟩) 2 2)) (w.alloc (.cells (elc X ++ elc Y) 33))) : wpList Try.prog ops Q (o :: rest) a w :=
  wl_step hw fun _ hK => op_pair x y ho hx hy (hK _ _ hk)
theorem wl_storeL {ops : Array Oper} {rest : List Oper} {op : Oper} {a : Act} {w : World} {Q : Exit → Act → World → Prop} (x y : Operand) {p a1 b1 c1 d1 e1 : Nat} (H : LadB w p a1 b1 c1 d1 e1) (L : List Value) {v off : Nat} (hl : (lcs a1 b1 c1 d1 e1).take off ++ elL v ++ (lcs a1 b1 c1 d1 e1).drop (off + 4) = L)
    (hw : Region.wanted op (yielded ops a.tmps) = true) (ho : op.op = .store 33 x y) (hx : a.eval x = .pointer (some ⟨p, off, none⟩)) (hy : a.eval y = .agg (elc v)) (hfit : off + 4 ≤ 20)
    (hk : wpList Try.prog ops Q rest (a.put op.dst undef) (w.setRow p L.toArray)) : wpList Try.prog ops Q (op :: rest) a w := by
  subst hl
  exact wl_step hw fun _ hK => wp_store_blk 33 x y ho p off (elc v) hx hy (lcs a1 b1 c1 d1 e1).toArray 50 H hfit info4 (elc_one v) (hK _ _ hk)
theorem nxs {ops : Array Oper} {Q : Exit → Act → World → Prop} {rest : List Oper} {A : Act} {w : World} {ds : List Nat} {x : Nat → Value} (hz : Hid (A.tmps.size = 105)) (hf : Hid (A.defers = [])) (hn : ds.Nodup) (hd : ∀ d ∈ ds, d < 105)
    (h : ∀ B : Act, Hid (B.tmps.size = 105) → Hid (B.defers = []) → (∀ k d, ds[k]? = some d → B.eval (.tmp d) = x k) → (∀ s, s ∉ ds → B.eval (.tmp s) = A.eval (.tmp s)) → wpList Try.prog ops Q rest B w) : wpList Try.prog ops Q rest ⟨setAll A.tmps ds 0 x, A.defers⟩ w := by
  refine h _ ((setAll_size _ _ _ _).trans hz.out) hf (fun k d hk => ?_) fun s hs => setAll_out ds A.tmps 0 x s hs
  have h := setAll_in ds A.tmps 0 x k d hn hk (by rw [hz.out]; exact hd d (List.mem_of_getElem? hk))
  rw [Nat.zero_add] at h
  exact h
theorem act_letter {c : Code} {Q : Exit → Act → World → Prop} {A : Act} {w : World} {p : Nat} (h1 : A.eval (.tmp 0) = .pointer (some ⟨p, 0, none⟩)) (h2 : A.tmps.size = 105) (h3 : A.defers = [])
    (h : ∀ B : Act, B.eval (.tmp 0) = .pointer (some ⟨p, 0, none⟩) → Hid (B.tmps.size = 105) → Hid (B.defers = []) → c.wp Try.prog Q B w) : c.wp Try.prog Q A w := h A h1 h2 h3
theorem nx {ops : Array Oper} {Q : Exit → Act → World → Prop} {rest : List Oper} {A : Act} {w : World} (d : Nat) (v : Value) (hz : Hid (A.tmps.size = 105)) (hf : Hid (A.defers = [])) (hd : d < 105)
    (h : ∀ B : Act, Hid (B.tmps.size = 105) → Hid (B.defers = []) → B.eval (.tmp d) = v → (∀ s, s ≠ d → B.eval (.tmp s) = A.eval (.tmp s)) → wpList Try.prog ops Q rest B w) : wpList Try.prog ops Q rest (A.put (some d) v) w := by
  refine h _ (show _ = _ by simp [Act.put, hz.out]) (show _ = _ by simp [Act.put, hf.out]) ?_ fun s hs => ?_
  · exact (tmps_put v (by rw [hz.out]; exact hd)).trans (if_pos rfl)
  · exact (tmps_put v (by rw [hz.out]; exact hd)).trans (if_neg hs)
def C1 (f u r : Nat) : Prop := ∀ W : World, Calls Try.prog f #[.agg (elc u)] W fun e w' => e = .returned (.agg (elc r)) ∧ Below W.heap.size W w'
def C2 (f u v r : Nat) : Prop := ∀ W : World, Calls Try.prog f #[.agg (elc u), .agg (elc v)] W fun e w' => e = .returned (.agg (elc r)) ∧ Below W.heap.size W w'
def CP (f u v r : Nat) : Prop := ∀ (W : World) (q : Nat), PairE W q u v → Calls Try.prog f #[.slice (some ⟨q, 0, none⟩) 2 2] W fun e w' => e = .returned (.agg (elc r)) ∧ Below W.heap.size W w'
def CO (k : Nat) : Prop := ∀ W : World, Calls Try.prog 15 #[.int .u64 121665] W fun e w' => e = .returned (.agg (elc k)) ∧ Below W.heap.size W w'
set_option maxHeartbeats 16000000 in
set_option maxRecDepth 100000 in
theorem step_core (p x1 x2 z2 x3 z3 a b c d aa bb e da cb s t tt k m n X2 Z2 X3 Z3 : Nat) (w : World) (h : LadB w p x1 x2 z2 x3 z3)
    (CA : Hid (CP 20 x2 z2 a)) (CB : Hid (C2 21 x2 z2 b)) (CC : Hid (CP 20 x3 z3 c)) (CD : Hid (C2 21 x3 z3 d)) (CAA : Hid (C1 22 a aa)) (CBB : Hid (C1 22 b bb)) (CE : Hid (C2 21 aa bb e)) (CDA : Hid (CP 23 d a da)) (CCB : Hid (CP 23 c b cb)) (CS : Hid (CP 20 da cb s)) (CX3 : Hid (C1 22 s X3)) (CT : Hid (C2 21 da cb t)) (CTT : Hid (C1 22 t tt)) (CZ3 : Hid (CP 23 x1 tt Z3)) (CX2 : Hid (CP 23 aa bb X2)) (CK : Hid (CO k)) (CM : Hid (CP 23 k e m)) (CN : Hid (CP 20 aa m n)) (CZ2 : Hid (CP 23 e n Z2)) :
    Calls Try.prog 17 #[.pointer (some ⟨p, 0, none⟩)] w fun x w' => x = .returned (.tuple #[]) ∧ LadB w' p x1 X2 Z2 X3 Z3 ∧ w.grownBy w' (some p) := by
  have HLw := Lib.hid h
  have HGw := Lib.hid (World.grownBy.refl w (some p))
  clear h
  go_enter Try.func17, Try.ntmps17
  go_upto_region 0 with fail
  refine act_letter (p := p) rfl rfl rfl fun A E0 hz_A hd_A => ?_
  have E0_A := Lib.hid E0
  clear E0
  have hp_w : p < w.heap.size := HLw.out.lt
  refine wp_region_head 21 [11, 12, 13, 14, 15, 16, 17, 18, 19, 20, 21, 22, 23, 24, 25, 26, 27, 28, 29, 2, 3] (fun i v w' => match i with
    | 0 => v = .pointer (some ⟨p, 0, none⟩)
    | 1 => v = .pointer (some ⟨p, 0, none⟩)
    | 2 => v = .pointer (some ⟨p, 4, none⟩)
    | 3 => v = .agg (elc x2)
    | 4 => v = .pointer (some ⟨p, 0, none⟩)
    | 5 => v = .pointer (some ⟨p, 0, none⟩)
    | 6 => v = .pointer (some ⟨p, 8, none⟩)
    | 7 => v = .agg (elc z2)
    | 8 => ∃ q, v = .slice (some ⟨q, 0, none⟩) 2 2 ∧ PairE w' q x2 z2 ∧ q < w'.heap.size
    | 9 => v = .agg (elc a)
    | 10 => v = .pointer (some ⟨p, 0, none⟩)
    | 11 => v = .pointer (some ⟨p, 0, none⟩)
    | 12 => v = .pointer (some ⟨p, 4, none⟩)
    | 13 => v = .agg (elc x2)
    | 14 => v = .pointer (some ⟨p, 0, none⟩)
    | 15 => v = .pointer (some ⟨p, 0, none⟩)
    | 16 => v = .pointer (some ⟨p, 8, none⟩)
    | 17 => v = .agg (elc z2)
    | 18 => v = .agg (elc b)
    | 19 => ∃ q, v = .pointer (some ⟨q, 0, none⟩) ∧ Blk4 w' q (elc 0) ∧ q < w'.heap.size
    | 20 => ∃ q, v = .pointer (some ⟨q, 0, none⟩) ∧ Blk4 w' q (elc 0) ∧ q < w'.heap.size
    | _ => True) (fun i v => if i ∈ ([8, 19, 20] : List Nat) then blkOf v else none) (by kernel_rfl) (by kernel_rfl) rfl rfl (by decide) (by rw [hz_A.out]; decide) rfl ?_ ?_ ?_
  · intro i v w1 w2 h hb
    match i, h with
    | 0, h => exact h
    | 1, h => exact h
    | 2, h => exact h
    | 3, h => exact h
    | 4, h => exact h
    | 5, h => exact h
    | 6, h => exact h
    | 7, h => exact h
    | 8, h => obtain ⟨q, h1, h2, h3⟩ := h; exact ⟨q, h1, (hb.block q h3).trans h2, Nat.lt_of_lt_of_le h3 hb.size⟩
    | 9, h => exact h
    | 10, h => exact h
    | 11, h => exact h
    | 12, h => exact h
    | 13, h => exact h
    | 14, h => exact h
    | 15, h => exact h
    | 16, h => exact h
    | 17, h => exact h
    | 18, h => exact h
    | 19, h => obtain ⟨q, h1, h2, h3⟩ := h; exact ⟨q, h1, h2.below hb h3, Nat.lt_of_lt_of_le h3 hb.size⟩
    | 20, h => obtain ⟨q, h1, h2, h3⟩ := h; exact ⟨q, h1, h2.below hb h3, Nat.lt_of_lt_of_le h3 hb.size⟩
    | k + 21, h => trivial
  · intro i o h a' w1 hA hD hb1
    match i, h with
    | 0, h =>
      obtain rfl := Option.some.inj h
      have e0 : a'.tmps[0]?.getD undef = .pointer (some ⟨p, 0, none⟩) := ev_get ((hA 0 (by decide)).trans E0_A.out)
      clear h hA hD
      go_simp
      exact Below.refl _ _
    | 1, h =>
      obtain rfl := Option.some.inj h
      have e11 : a'.tmps[11]?.getD undef = .pointer (some ⟨p, 0, none⟩) := ev_get (hD ⟨0, .data⟩ (by simp) rfl 11 rfl)
      clear h hA hD
      go_simp
      exact Below.refl _ _
    | 2, h =>
      obtain rfl := Option.some.inj h
      have e12 : a'.tmps[12]?.getD undef = .pointer (some ⟨p, 0, none⟩) := ev_get (hD ⟨1, .data⟩ (by simp) rfl 12 rfl)
      clear h hA hD
      go_simp
      exact Below.refl _ _
    | 3, h =>
      obtain rfl := Option.some.inj h
      exact op_loadR (.tmp 13) rfl (elc_size x2) (rangeAt_below (show w.rangeAt p 4 (elc x2).toList from HLw.out.range.2.1) hb1 hp_w) (hD ⟨2, .data⟩ (by simp) rfl 13 rfl) ⟨_, rfl, Below.refl _ _, rfl, fun b h => by cases h⟩
    | 4, h =>
      obtain rfl := Option.some.inj h
      have e0 : a'.tmps[0]?.getD undef = .pointer (some ⟨p, 0, none⟩) := ev_get ((hA 0 (by decide)).trans E0_A.out)
      clear h hA hD
      go_simp
      exact Below.refl _ _
    | 5, h =>
      obtain rfl := Option.some.inj h
      have e15 : a'.tmps[15]?.getD undef = .pointer (some ⟨p, 0, none⟩) := ev_get (hD ⟨4, .data⟩ (by simp) rfl 15 rfl)
      clear h hA hD
      go_simp
      exact Below.refl _ _
    | 6, h =>
      obtain rfl := Option.some.inj h
      have e16 : a'.tmps[16]?.getD undef = .pointer (some ⟨p, 0, none⟩) := ev_get (hD ⟨5, .data⟩ (by simp) rfl 16 rfl)
      clear h hA hD
      go_simp
      exact Below.refl _ _
    | 7, h =>
      obtain rfl := Option.some.inj h
      exact op_loadR (.tmp 17) rfl (elc_size z2) (rangeAt_below (show w.rangeAt p 8 (elc z2).toList from HLw.out.range.2.2.1) hb1 hp_w) (hD ⟨6, .data⟩ (by simp) rfl 17 rfl) ⟨_, rfl, Below.refl _ _, rfl, fun b h => by cases h⟩
    | 8, h =>
      obtain rfl := Option.some.inj h
      exact op_pair (.tmp 14) (.tmp 18) rfl (hD ⟨3, .data⟩ (by simp) rfl 14 rfl) (hD ⟨7, .data⟩ (by simp) rfl 18 rfl) ⟨_, rfl, (Below.refl _ _).alloc (Nat.le_refl _) _, ⟨_, rfl, heap_alloc_new _ _, lt_alloc _ _⟩, fun b h => own_lt h _⟩
    | 9, h =>
      obtain rfl := Option.some.inj h
      obtain ⟨q, hq, hpq, _⟩ := hD ⟨8, .data⟩ (by simp) rfl 19 rfl
      have hq : a'.eval (.tmp 19) = .slice (some ⟨q, 0, none⟩) 2 2 := hq
      go_simp
      rw [ev_get hq]
      refine (CA.out w1 q hpq).mono ?_
      rintro e w3 ⟨rfl, hb3⟩
      exact ⟨rfl, hb3⟩
    | 10, h =>
      obtain rfl := Option.some.inj h
      have e0 : a'.tmps[0]?.getD undef = .pointer (some ⟨p, 0, none⟩) := ev_get ((hA 0 (by decide)).trans E0_A.out)
      clear h hA hD
      go_simp
      exact Below.refl _ _
    | 11, h =>
      obtain rfl := Option.some.inj h
      have e21 : a'.tmps[21]?.getD undef = .pointer (some ⟨p, 0, none⟩) := ev_get (hD ⟨10, .data⟩ (by simp) rfl 21 rfl)
      clear h hA hD
      go_simp
      exact Below.refl _ _
    | 12, h =>
      obtain rfl := Option.some.inj h
      have e22 : a'.tmps[22]?.getD undef = .pointer (some ⟨p, 0, none⟩) := ev_get (hD ⟨11, .data⟩ (by simp) rfl 22 rfl)
      clear h hA hD
      go_simp
      exact Below.refl _ _
    | 13, h =>
      obtain rfl := Option.some.inj h
      exact op_loadR (.tmp 23) rfl (elc_size x2) (rangeAt_below (show w.rangeAt p 4 (elc x2).toList from HLw.out.range.2.1) hb1 hp_w) (hD ⟨12, .data⟩ (by simp) rfl 23 rfl) ⟨_, rfl, Below.refl _ _, rfl, fun b h => by cases h⟩
    | 14, h =>
      obtain rfl := Option.some.inj h
      have e0 : a'.tmps[0]?.getD undef = .pointer (some ⟨p, 0, none⟩) := ev_get ((hA 0 (by decide)).trans E0_A.out)
      clear h hA hD
      go_simp
      exact Below.refl _ _
    | 15, h =>
      obtain rfl := Option.some.inj h
      have e25 : a'.tmps[25]?.getD undef = .pointer (some ⟨p, 0, none⟩) := ev_get (hD ⟨14, .data⟩ (by simp) rfl 25 rfl)
      clear h hA hD
      go_simp
      exact Below.refl _ _
    | 16, h =>
      obtain rfl := Option.some.inj h
      have e26 : a'.tmps[26]?.getD undef = .pointer (some ⟨p, 0, none⟩) := ev_get (hD ⟨15, .data⟩ (by simp) rfl 26 rfl)
      clear h hA hD
      go_simp
      exact Below.refl _ _
    | 17, h =>
      obtain rfl := Option.some.inj h
      exact op_loadR (.tmp 27) rfl (elc_size z2) (rangeAt_below (show w.rangeAt p 8 (elc z2).toList from HLw.out.range.2.2.1) hb1 hp_w) (hD ⟨16, .data⟩ (by simp) rfl 27 rfl) ⟨_, rfl, Below.refl _ _, rfl, fun b h => by cases h⟩
    | 18, h =>
      obtain rfl := Option.some.inj h
      have e24 : a'.eval (.tmp 24) = .agg (elc x2) := hD ⟨13, .data⟩ (by simp) rfl 24 rfl
      have e28 : a'.eval (.tmp 28) = .agg (elc z2) := hD ⟨17, .data⟩ (by simp) rfl 28 rfl
      go_simp
      rw [ev_get e24, ev_get e28]
      refine (CB.out w1).mono ?_
      rintro e w3 ⟨rfl, hb3⟩
      exact ⟨rfl, hb3⟩
    | 19, h =>
      obtain rfl := Option.some.inj h
      exact op_allocE rfl ⟨_, rfl, (Below.refl _ _).alloc (Nat.le_refl _) _, ⟨_, rfl, Blk4.new _ (elc_size 0), lt_alloc _ _⟩, fun b h => own_ltP h _⟩
    | 20, h =>
      obtain rfl := Option.some.inj h
      exact op_allocE rfl ⟨_, rfl, (Below.refl _ _).alloc (Nat.le_refl _) _, ⟨_, rfl, Blk4.new _ (elc_size 0), lt_alloc _ _⟩, fun b h => own_ltP h _⟩
    | k + 21, h => simp at h
  · intro x wa0 hx hO hAp hb
    have y0 : x 0 = .pointer (some ⟨p, 0, none⟩) := hx 0 (by decide)
    have y1 : x 1 = .pointer (some ⟨p, 0, none⟩) := hx 1 (by decide)
    have y2 : x 2 = .pointer (some ⟨p, 4, none⟩) := hx 2 (by decide)
    have y3 : x 3 = .agg (elc x2) := hx 3 (by decide)
    have y4 : x 4 = .pointer (some ⟨p, 0, none⟩) := hx 4 (by decide)
    have y5 : x 5 = .pointer (some ⟨p, 0, none⟩) := hx 5 (by decide)
    have y6 : x 6 = .pointer (some ⟨p, 8, none⟩) := hx 6 (by decide)
    have y7 : x 7 = .agg (elc z2) := hx 7 (by decide)
    obtain ⟨q19, y8, hQ19, hl19⟩ := hx 8 (by decide)
    have y9 : x 9 = .agg (elc a) := hx 9 (by decide)
    have y10 : x 10 = .pointer (some ⟨p, 0, none⟩) := hx 10 (by decide)
    have y11 : x 11 = .pointer (some ⟨p, 0, none⟩) := hx 11 (by decide)
    have y12 : x 12 = .pointer (some ⟨p, 4, none⟩) := hx 12 (by decide)
    have y13 : x 13 = .agg (elc x2) := hx 13 (by decide)
    have y14 : x 14 = .pointer (some ⟨p, 0, none⟩) := hx 14 (by decide)
    have y15 : x 15 = .pointer (some ⟨p, 0, none⟩) := hx 15 (by decide)
    have y16 : x 16 = .pointer (some ⟨p, 8, none⟩) := hx 16 (by decide)
    have y17 : x 17 = .agg (elc z2) := hx 17 (by decide)
    have y18 : x 18 = .agg (elc b) := hx 18 (by decide)
    obtain ⟨q2, y19, hQ2, hl2⟩ := hx 19 (by decide)
    obtain ⟨q3, y20, hQ3, hl3⟩ := hx 20 (by decide)
    have hg2 := (hO 19 q2 (by decide) (by rw [y19]; rfl)).1
    have hg3 := (hO 20 q3 (by decide) (by rw [y20]; rfl)).1
    have hn2 : q2 ≠ q3 := fun h => hAp 19 20 q2 (by decide) (by decide) (by decide) (by rw [y19]; rfl) (by rw [y20, h]; rfl)
    have HLwa0 := Lib.hid (HLw.out.below hb hp_w)
    have HGwa0 := Lib.hid (gb_below HGw.out hb)
    have hswa0 := hb.size
    have hzwa0 := HGwa0.out.size
    refine nxs hz_A hd_A (by decide) (by decide) fun A0 hz_A0 hd_A0 hIn hOut => ?_
    simp only [List.drop_succ_cons, List.drop_zero]
    have E0_A0 := Lib.hid ((hOut 0 (by decide)).trans E0_A.out)
    have E2_A0 := Lib.hid ((hIn 19 2 rfl).trans y19)
    have E3_A0 := Lib.hid ((hIn 20 3 rfl).trans y20)
    have E20_A0 := Lib.hid ((hIn 9 20 rfl).trans y9)
    have E29_A0 := Lib.hid ((hIn 18 29 rfl).trans y18)
    clear hIn hOut hz_A hd_A E0_A
    clear HLw HGw
    clear hx hO hAp hb y0 y1 y2 y3 y4 y5 y6 y7 y8 y9 y10 y11 y12 y13 y14 y15 y16 y17 y18 y19 y20 hQ19 hl19
    have HT2_wa0 := Lib.hid hQ2
    clear hQ2
    have HT3_wa0 := Lib.hid hQ3
    clear hQ3
    have HLwa0s2 := Lib.hid (show LadB (wa0.setRow q2 (elc a)) p x1 x2 z2 x3 z3 from HLwa0.out.far (by omega) _)
    have HT2_wa0s2 := Lib.hid (show Blk4 (wa0.setRow q2 (elc a)) q2 (elc a) from HT2_wa0.out.set (elc_size a))
    have HT3_wa0s2 := Lib.hid (show Blk4 (wa0.setRow q2 (elc a)) q3 (elc 0) from HT3_wa0.out.far (by omega) _)
    have HGwa0s2 := Lib.hid (show w.grownBy (wa0.setRow q2 (elc a)) (some p) from gb_row HGwa0.out (by omega) _)
    have HLwa0s2s3 := Lib.hid (show LadB ((wa0.setRow q2 (elc a)).setRow q3 (elc b)) p x1 x2 z2 x3 z3 from HLwa0s2.out.far (by omega) _)
    have HT2_wa0s2s3 := Lib.hid (show Blk4 ((wa0.setRow q2 (elc a)).setRow q3 (elc b)) q2 (elc a) from HT2_wa0s2.out.far (by omega) _)
    have HT3_wa0s2s3 := Lib.hid (show Blk4 ((wa0.setRow q2 (elc a)).setRow q3 (elc b)) q3 (elc b) from HT3_wa0s2.out.set (elc_size b))
    have HGwa0s2s3 := Lib.hid (show w.grownBy ((wa0.setRow q2 (elc a)).setRow q3 (elc b)) (some p) from gb_row HGwa0s2.out (by omega) _)
    refine wl_store4 (.tmp 2) (.tmp 20) HT2_wa0.out rfl rfl E2_A0.out (Y := elc a) E20_A0.out (elc_size a) (elc_one a) ?_
    refine wl_store4 (.tmp 3) (.tmp 29) HT3_wa0s2.out rfl rfl E3_A0.out (Y := elc b) E29_A0.out (elc_size b) (elc_one b) ?_
    refine wpList_nil ?_
    show Exit.then _ _ .normal A0 _
    generalize hW0 : ((wa0.setRow q2 (elc a)).setRow q3 (elc b)) = wb0 at *
    clear hW0
    have HLwb0 := HLwa0s2s3
    have HGwb0 := HGwa0s2s3
    have HT2_wb0 := HT2_wa0s2s3
    have HT3_wb0 := HT3_wa0s2s3
    clear HLwa0s2s3 HGwa0s2s3 HT2_wa0s2s3 HT3_wa0s2s3
    go_upto_region 1 with fail
    have hp_wb0 : p < wb0.heap.size := HLwb0.out.lt
    refine wp_region_head 21 [30, 31, 32, 33, 34, 35, 36, 37, 38, 39, 40, 41, 42, 43, 44, 45, 46, 47, 48, 4, 5] (fun i v w' => match i with
      | 0 => v = .pointer (some ⟨p, 0, none⟩)
      | 1 => v = .pointer (some ⟨p, 0, none⟩)
      | 2 => v = .pointer (some ⟨p, 12, none⟩)
      | 3 => v = .agg (elc x3)
      | 4 => v = .pointer (some ⟨p, 0, none⟩)
      | 5 => v = .pointer (some ⟨p, 0, none⟩)
      | 6 => v = .pointer (some ⟨p, 16, none⟩)
      | 7 => v = .agg (elc z3)
      | 8 => ∃ q, v = .slice (some ⟨q, 0, none⟩) 2 2 ∧ PairE w' q x3 z3 ∧ q < w'.heap.size
      | 9 => v = .agg (elc c)
      | 10 => v = .pointer (some ⟨p, 0, none⟩)
      | 11 => v = .pointer (some ⟨p, 0, none⟩)
      | 12 => v = .pointer (some ⟨p, 12, none⟩)
      | 13 => v = .agg (elc x3)
      | 14 => v = .pointer (some ⟨p, 0, none⟩)
      | 15 => v = .pointer (some ⟨p, 0, none⟩)
      | 16 => v = .pointer (some ⟨p, 16, none⟩)
      | 17 => v = .agg (elc z3)
      | 18 => v = .agg (elc d)
      | 19 => ∃ q, v = .pointer (some ⟨q, 0, none⟩) ∧ Blk4 w' q (elc 0) ∧ q < w'.heap.size
      | 20 => ∃ q, v = .pointer (some ⟨q, 0, none⟩) ∧ Blk4 w' q (elc 0) ∧ q < w'.heap.size
      | _ => True) (fun i v => if i ∈ ([8, 19, 20] : List Nat) then blkOf v else none) (by kernel_rfl) (by kernel_rfl) rfl rfl (by decide) (by rw [hz_A0.out]; decide) rfl ?_ ?_ ?_
    · intro i v w1 w2 h hb
      match i, h with
      | 0, h => exact h
      | 1, h => exact h
      | 2, h => exact h
      | 3, h => exact h
      | 4, h => exact h
      | 5, h => exact h
      | 6, h => exact h
      | 7, h => exact h
      | 8, h => obtain ⟨q, h1, h2, h3⟩ := h; exact ⟨q, h1, (hb.block q h3).trans h2, Nat.lt_of_lt_of_le h3 hb.size⟩
      | 9, h => exact h
      | 10, h => exact h
      | 11, h => exact h
      | 12, h => exact h
      | 13, h => exact h
      | 14, h => exact h
      | 15, h => exact h
      | 16, h => exact h
      | 17, h => exact h
      | 18, h => exact h
      | 19, h => obtain ⟨q, h1, h2, h3⟩ := h; exact ⟨q, h1, h2.below hb h3, Nat.lt_of_lt_of_le h3 hb.size⟩
      | 20, h => obtain ⟨q, h1, h2, h3⟩ := h; exact ⟨q, h1, h2.below hb h3, Nat.lt_of_lt_of_le h3 hb.size⟩
      | k + 21, h => trivial
    · intro i o h a' w1 hA hD hb1
      match i, h with
      | 0, h =>
        obtain rfl := Option.some.inj h
        have e0 : a'.tmps[0]?.getD undef = .pointer (some ⟨p, 0, none⟩) := ev_get ((hA 0 (by decide)).trans E0_A0.out)
        clear h hA hD
        go_simp
        exact Below.refl _ _
      | 1, h =>
        obtain rfl := Option.some.inj h
        have e30 : a'.tmps[30]?.getD undef = .pointer (some ⟨p, 0, none⟩) := ev_get (hD ⟨0, .data⟩ (by simp) rfl 30 rfl)
        clear h hA hD
        go_simp
        exact Below.refl _ _
      | 2, h =>
        obtain rfl := Option.some.inj h
        have e31 : a'.tmps[31]?.getD undef = .pointer (some ⟨p, 0, none⟩) := ev_get (hD ⟨1, .data⟩ (by simp) rfl 31 rfl)
        clear h hA hD
        go_simp
        exact Below.refl _ _
      | 3, h =>
        obtain rfl := Option.some.inj h
        exact op_loadR (.tmp 32) rfl (elc_size x3) (rangeAt_below (show wb0.rangeAt p 12 (elc x3).toList from HLwb0.out.range.2.2.2.1) hb1 hp_wb0) (hD ⟨2, .data⟩ (by simp) rfl 32 rfl) ⟨_, rfl, Below.refl _ _, rfl, fun b h => by cases h⟩
      | 4, h =>
        obtain rfl := Option.some.inj h
        have e0 : a'.tmps[0]?.getD undef = .pointer (some ⟨p, 0, none⟩) := ev_get ((hA 0 (by decide)).trans E0_A0.out)
        clear h hA hD
        go_simp
        exact Below.refl _ _
      | 5, h =>
        obtain rfl := Option.some.inj h
        have e34 : a'.tmps[34]?.getD undef = .pointer (some ⟨p, 0, none⟩) := ev_get (hD ⟨4, .data⟩ (by simp) rfl 34 rfl)
        clear h hA hD
        go_simp
        exact Below.refl _ _
      | 6, h =>
        obtain rfl := Option.some.inj h
        have e35 : a'.tmps[35]?.getD undef = .pointer (some ⟨p, 0, none⟩) := ev_get (hD ⟨5, .data⟩ (by simp) rfl 35 rfl)
        clear h hA hD
        go_simp
        exact Below.refl _ _
      | 7, h =>
        obtain rfl := Option.some.inj h
        exact op_loadR (.tmp 36) rfl (elc_size z3) (rangeAt_below (show wb0.rangeAt p 16 (elc z3).toList from HLwb0.out.range.2.2.2.2) hb1 hp_wb0) (hD ⟨6, .data⟩ (by simp) rfl 36 rfl) ⟨_, rfl, Below.refl _ _, rfl, fun b h => by cases h⟩
      | 8, h =>
        obtain rfl := Option.some.inj h
        exact op_pair (.tmp 33) (.tmp 37) rfl (hD ⟨3, .data⟩ (by simp) rfl 33 rfl) (hD ⟨7, .data⟩ (by simp) rfl 37 rfl) ⟨_, rfl, (Below.refl _ _).alloc (Nat.le_refl _) _, ⟨_, rfl, heap_alloc_new _ _, lt_alloc _ _⟩, fun b h => own_lt h _⟩
      | 9, h =>
        obtain rfl := Option.some.inj h
        obtain ⟨q, hq, hpq, _⟩ := hD ⟨8, .data⟩ (by simp) rfl 38 rfl
        have hq : a'.eval (.tmp 38) = .slice (some ⟨q, 0, none⟩) 2 2 := hq
        go_simp
        rw [ev_get hq]
        refine (CC.out w1 q hpq).mono ?_
        rintro e w3 ⟨rfl, hb3⟩
        exact ⟨rfl, hb3⟩
      | 10, h =>
        obtain rfl := Option.some.inj h
        have e0 : a'.tmps[0]?.getD undef = .pointer (some ⟨p, 0, none⟩) := ev_get ((hA 0 (by decide)).trans E0_A0.out)
        clear h hA hD
        go_simp
        exact Below.refl _ _
      | 11, h =>
        obtain rfl := Option.some.inj h
        have e40 : a'.tmps[40]?.getD undef = .pointer (some ⟨p, 0, none⟩) := ev_get (hD ⟨10, .data⟩ (by simp) rfl 40 rfl)
        clear h hA hD
        go_simp
        exact Below.refl _ _
      | 12, h =>
        obtain rfl := Option.some.inj h
        have e41 : a'.tmps[41]?.getD undef = .pointer (some ⟨p, 0, none⟩) := ev_get (hD ⟨11, .data⟩ (by simp) rfl 41 rfl)
        clear h hA hD
        go_simp
        exact Below.refl _ _
      | 13, h =>
        obtain rfl := Option.some.inj h
        exact op_loadR (.tmp 42) rfl (elc_size x3) (rangeAt_below (show wb0.rangeAt p 12 (elc x3).toList from HLwb0.out.range.2.2.2.1) hb1 hp_wb0) (hD ⟨12, .data⟩ (by simp) rfl 42 rfl) ⟨_, rfl, Below.refl _ _, rfl, fun b h => by cases h⟩
      | 14, h =>
        obtain rfl := Option.some.inj h
        have e0 : a'.tmps[0]?.getD undef = .pointer (some ⟨p, 0, none⟩) := ev_get ((hA 0 (by decide)).trans E0_A0.out)
        clear h hA hD
        go_simp
        exact Below.refl _ _
      | 15, h =>
        obtain rfl := Option.some.inj h
        have e44 : a'.tmps[44]?.getD undef = .pointer (some ⟨p, 0, none⟩) := ev_get (hD ⟨14, .data⟩ (by simp) rfl 44 rfl)
        clear h hA hD
        go_simp
        exact Below.refl _ _
      | 16, h =>
        obtain rfl := Option.some.inj h
        have e45 : a'.tmps[45]?.getD undef = .pointer (some ⟨p, 0, none⟩) := ev_get (hD ⟨15, .data⟩ (by simp) rfl 45 rfl)
        clear h hA hD
        go_simp
        exact Below.refl _ _
      | 17, h =>
        obtain rfl := Option.some.inj h
        exact op_loadR (.tmp 46) rfl (elc_size z3) (rangeAt_below (show wb0.rangeAt p 16 (elc z3).toList from HLwb0.out.range.2.2.2.2) hb1 hp_wb0) (hD ⟨16, .data⟩ (by simp) rfl 46 rfl) ⟨_, rfl, Below.refl _ _, rfl, fun b h => by cases h⟩
      | 18, h =>
        obtain rfl := Option.some.inj h
        have e43 : a'.eval (.tmp 43) = .agg (elc x3) := hD ⟨13, .data⟩ (by simp) rfl 43 rfl
        have e47 : a'.eval (.tmp 47) = .agg (elc z3) := hD ⟨17, .data⟩ (by simp) rfl 47 rfl
        go_simp
        rw [ev_get e43, ev_get e47]
        refine (CD.out w1).mono ?_
        rintro e w3 ⟨rfl, hb3⟩
        exact ⟨rfl, hb3⟩
      | 19, h =>
        obtain rfl := Option.some.inj h
        exact op_allocE rfl ⟨_, rfl, (Below.refl _ _).alloc (Nat.le_refl _) _, ⟨_, rfl, Blk4.new _ (elc_size 0), lt_alloc _ _⟩, fun b h => own_ltP h _⟩
      | 20, h =>
        obtain rfl := Option.some.inj h
        exact op_allocE rfl ⟨_, rfl, (Below.refl _ _).alloc (Nat.le_refl _) _, ⟨_, rfl, Blk4.new _ (elc_size 0), lt_alloc _ _⟩, fun b h => own_ltP h _⟩
      | k + 21, h => simp at h
    · intro x wa1 hx hO hAp hb
      have y0 : x 0 = .pointer (some ⟨p, 0, none⟩) := hx 0 (by decide)
      have y1 : x 1 = .pointer (some ⟨p, 0, none⟩) := hx 1 (by decide)
      have y2 : x 2 = .pointer (some ⟨p, 12, none⟩) := hx 2 (by decide)
      have y3 : x 3 = .agg (elc x3) := hx 3 (by decide)
      have y4 : x 4 = .pointer (some ⟨p, 0, none⟩) := hx 4 (by decide)
      have y5 : x 5 = .pointer (some ⟨p, 0, none⟩) := hx 5 (by decide)
      have y6 : x 6 = .pointer (some ⟨p, 16, none⟩) := hx 6 (by decide)
      have y7 : x 7 = .agg (elc z3) := hx 7 (by decide)
      obtain ⟨q38, y8, hQ38, hl38⟩ := hx 8 (by decide)
      have y9 : x 9 = .agg (elc c) := hx 9 (by decide)
      have y10 : x 10 = .pointer (some ⟨p, 0, none⟩) := hx 10 (by decide)
      have y11 : x 11 = .pointer (some ⟨p, 0, none⟩) := hx 11 (by decide)
      have y12 : x 12 = .pointer (some ⟨p, 12, none⟩) := hx 12 (by decide)
      have y13 : x 13 = .agg (elc x3) := hx 13 (by decide)
      have y14 : x 14 = .pointer (some ⟨p, 0, none⟩) := hx 14 (by decide)
      have y15 : x 15 = .pointer (some ⟨p, 0, none⟩) := hx 15 (by decide)
      have y16 : x 16 = .pointer (some ⟨p, 16, none⟩) := hx 16 (by decide)
      have y17 : x 17 = .agg (elc z3) := hx 17 (by decide)
      have y18 : x 18 = .agg (elc d) := hx 18 (by decide)
      obtain ⟨q4, y19, hQ4, hl4⟩ := hx 19 (by decide)
      obtain ⟨q5, y20, hQ5, hl5⟩ := hx 20 (by decide)
      have hg4 := (hO 19 q4 (by decide) (by rw [y19]; rfl)).1
      have hg5 := (hO 20 q5 (by decide) (by rw [y20]; rfl)).1
      have hn4 : q4 ≠ q5 := fun h => hAp 19 20 q4 (by decide) (by decide) (by decide) (by rw [y19]; rfl) (by rw [y20, h]; rfl)
      have HLwa1 := Lib.hid (HLwb0.out.below hb hp_wb0)
      have HT2_wa1 := Lib.hid (HT2_wb0.out.below hb HT2_wb0.out.lt)
      have HT3_wa1 := Lib.hid (HT3_wb0.out.below hb HT3_wb0.out.lt)
      have HGwa1 := Lib.hid (gb_below HGwb0.out hb)
      have hswa1 := hb.size
      have hzwa1 := HGwa1.out.size
      have hl2_wb0 := HT2_wb0.out.lt
      have hl3_wb0 := HT3_wb0.out.lt
      refine nxs hz_A0 hd_A0 (by decide) (by decide) fun A1 hz_A1 hd_A1 hIn hOut => ?_
      simp only [List.drop_succ_cons, List.drop_zero]
      have E0_A1 := Lib.hid ((hOut 0 (by decide)).trans E0_A0.out)
      have E2_A1 := Lib.hid ((hOut 2 (by decide)).trans E2_A0.out)
      have E3_A1 := Lib.hid ((hOut 3 (by decide)).trans E3_A0.out)
      have E4_A1 := Lib.hid ((hIn 19 4 rfl).trans y19)
      have E5_A1 := Lib.hid ((hIn 20 5 rfl).trans y20)
      have E39_A1 := Lib.hid ((hIn 9 39 rfl).trans y9)
      have E48_A1 := Lib.hid ((hIn 18 48 rfl).trans y18)
      clear hIn hOut hz_A0 hd_A0 E0_A0 E2_A0 E3_A0
      clear HLwb0 HGwb0 HT2_wb0 HT3_wb0
      clear hx hO hAp hb y0 y1 y2 y3 y4 y5 y6 y7 y8 y9 y10 y11 y12 y13 y14 y15 y16 y17 y18 y19 y20 hQ38 hl38
      have HT4_wa1 := Lib.hid hQ4
      clear hQ4
      have HT5_wa1 := Lib.hid hQ5
      clear hQ5
      have HLwa1s4 := Lib.hid (show LadB (wa1.setRow q4 (elc c)) p x1 x2 z2 x3 z3 from HLwa1.out.far (by omega) _)
      have HT2_wa1s4 := Lib.hid (show Blk4 (wa1.setRow q4 (elc c)) q2 (elc a) from HT2_wa1.out.far (by omega) _)
      have HT3_wa1s4 := Lib.hid (show Blk4 (wa1.setRow q4 (elc c)) q3 (elc b) from HT3_wa1.out.far (by omega) _)
      have HT4_wa1s4 := Lib.hid (show Blk4 (wa1.setRow q4 (elc c)) q4 (elc c) from HT4_wa1.out.set (elc_size c))
      have HT5_wa1s4 := Lib.hid (show Blk4 (wa1.setRow q4 (elc c)) q5 (elc 0) from HT5_wa1.out.far (by omega) _)
      have HGwa1s4 := Lib.hid (show w.grownBy (wa1.setRow q4 (elc c)) (some p) from gb_row HGwa1.out (by omega) _)
      have HLwa1s4s5 := Lib.hid (show LadB ((wa1.setRow q4 (elc c)).setRow q5 (elc d)) p x1 x2 z2 x3 z3 from HLwa1s4.out.far (by omega) _)
      have HT2_wa1s4s5 := Lib.hid (show Blk4 ((wa1.setRow q4 (elc c)).setRow q5 (elc d)) q2 (elc a) from HT2_wa1s4.out.far (by omega) _)
      have HT3_wa1s4s5 := Lib.hid (show Blk4 ((wa1.setRow q4 (elc c)).setRow q5 (elc d)) q3 (elc b) from HT3_wa1s4.out.far (by omega) _)
      have HT4_wa1s4s5 := Lib.hid (show Blk4 ((wa1.setRow q4 (elc c)).setRow q5 (elc d)) q4 (elc c) from HT4_wa1s4.out.far (by omega) _)
      have HT5_wa1s4s5 := Lib.hid (show Blk4 ((wa1.setRow q4 (elc c)).setRow q5 (elc d)) q5 (elc d) from HT5_wa1s4.out.set (elc_size d))
      have HGwa1s4s5 := Lib.hid (show w.grownBy ((wa1.setRow q4 (elc c)).setRow q5 (elc d)) (some p) from gb_row HGwa1s4.out (by omega) _)
      refine wl_store4 (.tmp 4) (.tmp 39) HT4_wa1.out rfl rfl E4_A1.out (Y := elc c) E39_A1.out (elc_size c) (elc_one c) ?_
      refine wl_store4 (.tmp 5) (.tmp 48) HT5_wa1s4.out rfl rfl E5_A1.out (Y := elc d) E48_A1.out (elc_size d) (elc_one d) ?_
      refine wpList_nil ?_
      show Exit.then _ _ .normal A1 _
      generalize hW1 : ((wa1.setRow q4 (elc c)).setRow q5 (elc d)) = wb1 at *
      clear hW1
      have HLwb1 := HLwa1s4s5
      have HGwb1 := HGwa1s4s5
      have HT2_wb1 := HT2_wa1s4s5
      have HT3_wb1 := HT3_wa1s4s5
      have HT4_wb1 := HT4_wa1s4s5
      have HT5_wb1 := HT5_wa1s4s5
      clear HLwa1s4s5 HGwa1s4s5 HT2_wa1s4s5 HT3_wa1s4s5 HT4_wa1s4s5 HT5_wa1s4s5
      go_upto_region 2 with fail
      have hp_wb1 : p < wb1.heap.size := HLwb1.out.lt
      refine wp_region_head 6 [49, 50, 51, 52, 6, 7] (fun i v w' => match i with
        | 0 => v = .agg (elc a)
        | 1 => v = .agg (elc aa)
        | 2 => v = .agg (elc b)
        | 3 => v = .agg (elc bb)
        | 4 => ∃ q, v = .pointer (some ⟨q, 0, none⟩) ∧ Blk4 w' q (elc 0) ∧ q < w'.heap.size
        | 5 => ∃ q, v = .pointer (some ⟨q, 0, none⟩) ∧ Blk4 w' q (elc 0) ∧ q < w'.heap.size
        | _ => True) (fun i v => if i ∈ ([4, 5] : List Nat) then blkOf v else none) (by kernel_rfl) (by kernel_rfl) rfl rfl (by decide) (by rw [hz_A1.out]; decide) rfl ?_ ?_ ?_
      · intro i v w1 w2 h hb
        match i, h with
        | 0, h => exact h
        | 1, h => exact h
        | 2, h => exact h
        | 3, h => exact h
        | 4, h => obtain ⟨q, h1, h2, h3⟩ := h; exact ⟨q, h1, h2.below hb h3, Nat.lt_of_lt_of_le h3 hb.size⟩
        | 5, h => obtain ⟨q, h1, h2, h3⟩ := h; exact ⟨q, h1, h2.below hb h3, Nat.lt_of_lt_of_le h3 hb.size⟩
        | k + 6, h => trivial
      · intro i o h a' w1 hA hD hb1
        match i, h with
        | 0, h =>
          obtain rfl := Option.some.inj h
          exact op_load4 (.tmp 2) rfl (HT2_wb1.out.below hb1 HT2_wb1.out.lt) ((hA 2 (by decide)).trans E2_A1.out) ⟨_, rfl, Below.refl _ _, rfl, fun b h => by cases h⟩
        | 1, h =>
          obtain rfl := Option.some.inj h
          have e49 : a'.eval (.tmp 49) = .agg (elc a) := hD ⟨0, .data⟩ (by simp) rfl 49 rfl
          go_simp
          rw [ev_get e49]
          refine (CAA.out w1).mono ?_
          rintro e w3 ⟨rfl, hb3⟩
          exact ⟨rfl, hb3⟩
        | 2, h =>
          obtain rfl := Option.some.inj h
          exact op_load4 (.tmp 3) rfl (HT3_wb1.out.below hb1 HT3_wb1.out.lt) ((hA 3 (by decide)).trans E3_A1.out) ⟨_, rfl, Below.refl _ _, rfl, fun b h => by cases h⟩
        | 3, h =>
          obtain rfl := Option.some.inj h
          have e51 : a'.eval (.tmp 51) = .agg (elc b) := hD ⟨2, .data⟩ (by simp) rfl 51 rfl
          go_simp
          rw [ev_get e51]
          refine (CBB.out w1).mono ?_
          rintro e w3 ⟨rfl, hb3⟩
          exact ⟨rfl, hb3⟩
        | 4, h =>
          obtain rfl := Option.some.inj h
          exact op_allocE rfl ⟨_, rfl, (Below.refl _ _).alloc (Nat.le_refl _) _, ⟨_, rfl, Blk4.new _ (elc_size 0), lt_alloc _ _⟩, fun b h => own_ltP h _⟩
        | 5, h =>
          obtain rfl := Option.some.inj h
          exact op_allocE rfl ⟨_, rfl, (Below.refl _ _).alloc (Nat.le_refl _) _, ⟨_, rfl, Blk4.new _ (elc_size 0), lt_alloc _ _⟩, fun b h => own_ltP h _⟩
        | k + 6, h => simp at h
      · intro x wa2 hx hO hAp hb
        have y0 : x 0 = .agg (elc a) := hx 0 (by decide)
        have y1 : x 1 = .agg (elc aa) := hx 1 (by decide)
        have y2 : x 2 = .agg (elc b) := hx 2 (by decide)
        have y3 : x 3 = .agg (elc bb) := hx 3 (by decide)
        obtain ⟨q6, y4, hQ6, hl6⟩ := hx 4 (by decide)
        obtain ⟨q7, y5, hQ7, hl7⟩ := hx 5 (by decide)
        have hg6 := (hO 4 q6 (by decide) (by rw [y4]; rfl)).1
        have hg7 := (hO 5 q7 (by decide) (by rw [y5]; rfl)).1
        have hn6 : q6 ≠ q7 := fun h => hAp 4 5 q6 (by decide) (by decide) (by decide) (by rw [y4]; rfl) (by rw [y5, h]; rfl)
        have HLwa2 := Lib.hid (HLwb1.out.below hb hp_wb1)
        have HT2_wa2 := Lib.hid (HT2_wb1.out.below hb HT2_wb1.out.lt)
        have HT3_wa2 := Lib.hid (HT3_wb1.out.below hb HT3_wb1.out.lt)
        have HT4_wa2 := Lib.hid (HT4_wb1.out.below hb HT4_wb1.out.lt)
        have HT5_wa2 := Lib.hid (HT5_wb1.out.below hb HT5_wb1.out.lt)
        have HGwa2 := Lib.hid (gb_below HGwb1.out hb)
        have hswa2 := hb.size
        have hzwa2 := HGwa2.out.size
        have hl2_wb1 := HT2_wb1.out.lt
        have hl3_wb1 := HT3_wb1.out.lt
        have hl4_wb1 := HT4_wb1.out.lt
        have hl5_wb1 := HT5_wb1.out.lt
        refine nxs hz_A1 hd_A1 (by decide) (by decide) fun A2 hz_A2 hd_A2 hIn hOut => ?_
        simp only [List.drop_succ_cons, List.drop_zero]
        have E0_A2 := Lib.hid ((hOut 0 (by decide)).trans E0_A1.out)
        have E2_A2 := Lib.hid ((hOut 2 (by decide)).trans E2_A1.out)
        have E3_A2 := Lib.hid ((hOut 3 (by decide)).trans E3_A1.out)
        have E4_A2 := Lib.hid ((hOut 4 (by decide)).trans E4_A1.out)
        have E5_A2 := Lib.hid ((hOut 5 (by decide)).trans E5_A1.out)
        have E6_A2 := Lib.hid ((hIn 4 6 rfl).trans y4)
        have E7_A2 := Lib.hid ((hIn 5 7 rfl).trans y5)
        have E50_A2 := Lib.hid ((hIn 1 50 rfl).trans y1)
        have E52_A2 := Lib.hid ((hIn 3 52 rfl).trans y3)
        clear hIn hOut hz_A1 hd_A1 E0_A1 E2_A1 E3_A1 E4_A1 E5_A1
        clear HLwb1 HGwb1 HT2_wb1 HT3_wb1 HT4_wb1 HT5_wb1
        clear hx hO hAp hb y0 y1 y2 y3 y4 y5 
        have HT6_wa2 := Lib.hid hQ6
        clear hQ6
        have HT7_wa2 := Lib.hid hQ7
        clear hQ7
        have HLwa2s6 := Lib.hid (show LadB (wa2.setRow q6 (elc aa)) p x1 x2 z2 x3 z3 from HLwa2.out.far (by omega) _)
        have HT2_wa2s6 := Lib.hid (show Blk4 (wa2.setRow q6 (elc aa)) q2 (elc a) from HT2_wa2.out.far (by omega) _)
        have HT3_wa2s6 := Lib.hid (show Blk4 (wa2.setRow q6 (elc aa)) q3 (elc b) from HT3_wa2.out.far (by omega) _)
        have HT4_wa2s6 := Lib.hid (show Blk4 (wa2.setRow q6 (elc aa)) q4 (elc c) from HT4_wa2.out.far (by omega) _)
        have HT5_wa2s6 := Lib.hid (show Blk4 (wa2.setRow q6 (elc aa)) q5 (elc d) from HT5_wa2.out.far (by omega) _)
        have HT6_wa2s6 := Lib.hid (show Blk4 (wa2.setRow q6 (elc aa)) q6 (elc aa) from HT6_wa2.out.set (elc_size aa))
        have HT7_wa2s6 := Lib.hid (show Blk4 (wa2.setRow q6 (elc aa)) q7 (elc 0) from HT7_wa2.out.far (by omega) _)
        have HGwa2s6 := Lib.hid (show w.grownBy (wa2.setRow q6 (elc aa)) (some p) from gb_row HGwa2.out (by omega) _)
        have HLwa2s6s7 := Lib.hid (show LadB ((wa2.setRow q6 (elc aa)).setRow q7 (elc bb)) p x1 x2 z2 x3 z3 from HLwa2s6.out.far (by omega) _)
        have HT2_wa2s6s7 := Lib.hid (show Blk4 ((wa2.setRow q6 (elc aa)).setRow q7 (elc bb)) q2 (elc a) from HT2_wa2s6.out.far (by omega) _)
        have HT3_wa2s6s7 := Lib.hid (show Blk4 ((wa2.setRow q6 (elc aa)).setRow q7 (elc bb)) q3 (elc b) from HT3_wa2s6.out.far (by omega) _)
        have HT4_wa2s6s7 := Lib.hid (show Blk4 ((wa2.setRow q6 (elc aa)).setRow q7 (elc bb)) q4 (elc c) from HT4_wa2s6.out.far (by omega) _)
        have HT5_wa2s6s7 := Lib.hid (show Blk4 ((wa2.setRow q6 (elc aa)).setRow q7 (elc bb)) q5 (elc d) from HT5_wa2s6.out.far (by omega) _)
        have HT6_wa2s6s7 := Lib.hid (show Blk4 ((wa2.setRow q6 (elc aa)).setRow q7 (elc bb)) q6 (elc aa) from HT6_wa2s6.out.far (by omega) _)
        have HT7_wa2s6s7 := Lib.hid (show Blk4 ((wa2.setRow q6 (elc aa)).setRow q7 (elc bb)) q7 (elc bb) from HT7_wa2s6.out.set (elc_size bb))
        have HGwa2s6s7 := Lib.hid (show w.grownBy ((wa2.setRow q6 (elc aa)).setRow q7 (elc bb)) (some p) from gb_row HGwa2s6.out (by omega) _)
        refine wl_store4 (.tmp 6) (.tmp 50) HT6_wa2.out rfl rfl E6_A2.out (Y := elc aa) E50_A2.out (elc_size aa) (elc_one aa) ?_
        refine wl_store4 (.tmp 7) (.tmp 52) HT7_wa2s6.out rfl rfl E7_A2.out (Y := elc bb) E52_A2.out (elc_size bb) (elc_one bb) ?_
        refine wpList_nil ?_
        show Exit.then _ _ .normal A2 _
        generalize hW2 : ((wa2.setRow q6 (elc aa)).setRow q7 (elc bb)) = wb2 at *
        clear hW2
        have HLwb2 := HLwa2s6s7
        have HGwb2 := HGwa2s6s7
        have HT2_wb2 := HT2_wa2s6s7
        have HT3_wb2 := HT3_wa2s6s7
        have HT4_wb2 := HT4_wa2s6s7
        have HT5_wb2 := HT5_wa2s6s7
        have HT6_wb2 := HT6_wa2s6s7
        have HT7_wb2 := HT7_wa2s6s7
        clear HLwa2s6s7 HGwa2s6s7 HT2_wa2s6s7 HT3_wa2s6s7 HT4_wa2s6s7 HT5_wa2s6s7 HT6_wa2s6s7 HT7_wa2s6s7
        go_upto_region 3 with fail
        refine wp_region_lit ?_
        refine wl_load4 (.tmp 6) HT6_wb2.out rfl rfl E6_A2.out ?_
        refine nx 53 (.agg (elc aa)) hz_A2 hd_A2 (by decide) fun B53 hz_B53 hd_B53 e53 hB => ?_
        have E0_B53 := Lib.hid ((hB 0 (by decide)).trans E0_A2.out)
        have E2_B53 := Lib.hid ((hB 2 (by decide)).trans E2_A2.out)
        have E3_B53 := Lib.hid ((hB 3 (by decide)).trans E3_A2.out)
        have E4_B53 := Lib.hid ((hB 4 (by decide)).trans E4_A2.out)
        have E5_B53 := Lib.hid ((hB 5 (by decide)).trans E5_A2.out)
        have E6_B53 := Lib.hid ((hB 6 (by decide)).trans E6_A2.out)
        have E7_B53 := Lib.hid ((hB 7 (by decide)).trans E7_A2.out)
        have E53_B53 := Lib.hid e53
        clear e53 hB hz_A2 hd_A2 E0_A2 E2_A2 E3_A2 E4_A2 E5_A2 E6_A2 E7_A2
        refine wl_load4 (.tmp 7) HT7_wb2.out rfl rfl E7_B53.out ?_
        refine nx 54 (.agg (elc bb)) hz_B53 hd_B53 (by decide) fun B54 hz_B54 hd_B54 e54 hB => ?_
        have E0_B54 := Lib.hid ((hB 0 (by decide)).trans E0_B53.out)
        have E2_B54 := Lib.hid ((hB 2 (by decide)).trans E2_B53.out)
        have E3_B54 := Lib.hid ((hB 3 (by decide)).trans E3_B53.out)
        have E4_B54 := Lib.hid ((hB 4 (by decide)).trans E4_B53.out)
        have E5_B54 := Lib.hid ((hB 5 (by decide)).trans E5_B53.out)
        have E6_B54 := Lib.hid ((hB 6 (by decide)).trans E6_B53.out)
        have E7_B54 := Lib.hid ((hB 7 (by decide)).trans E7_B53.out)
        have E53_B54 := Lib.hid ((hB 53 (by decide)).trans E53_B53.out)
        have E54_B54 := Lib.hid e54
        clear e54 hB hz_B53 hd_B53 E0_B53 E2_B53 E3_B53 E4_B53 E5_B53 E6_B53 E7_B53 E53_B53
        refine wl_step rfl fun K hK => ?_
        go_simp
        rw [ev_get E53_B54.out, ev_get E54_B54.out]
        refine (CE.out _).mono ?_
        rintro _ wd3_55 ⟨rfl, hb⟩
        refine hK _ _ ?_
        clear K hK
        have HLwd3_55 := Lib.hid (HLwb2.out.below hb HLwb2.out.lt)
        have HT2_wd3_55 := Lib.hid (HT2_wb2.out.below hb HT2_wb2.out.lt)
        have HT3_wd3_55 := Lib.hid (HT3_wb2.out.below hb HT3_wb2.out.lt)
        have HT4_wd3_55 := Lib.hid (HT4_wb2.out.below hb HT4_wb2.out.lt)
        have HT5_wd3_55 := Lib.hid (HT5_wb2.out.below hb HT5_wb2.out.lt)
        have HT6_wd3_55 := Lib.hid (HT6_wb2.out.below hb HT6_wb2.out.lt)
        have HT7_wd3_55 := Lib.hid (HT7_wb2.out.below hb HT7_wb2.out.lt)
        have HGwd3_55 := Lib.hid (gb_below HGwb2.out hb)
        clear HLwb2 HGwb2 HT2_wb2 HT3_wb2 HT4_wb2 HT5_wb2 HT6_wb2 HT7_wb2
        clear hb
        refine nx 55 (.agg (elc e)) hz_B54 hd_B54 (by decide) fun B55 hz_B55 hd_B55 e55 hB => ?_
        have E0_B55 := Lib.hid ((hB 0 (by decide)).trans E0_B54.out)
        have E2_B55 := Lib.hid ((hB 2 (by decide)).trans E2_B54.out)
        have E3_B55 := Lib.hid ((hB 3 (by decide)).trans E3_B54.out)
        have E4_B55 := Lib.hid ((hB 4 (by decide)).trans E4_B54.out)
        have E5_B55 := Lib.hid ((hB 5 (by decide)).trans E5_B54.out)
        have E6_B55 := Lib.hid ((hB 6 (by decide)).trans E6_B54.out)
        have E7_B55 := Lib.hid ((hB 7 (by decide)).trans E7_B54.out)
        have E53_B55 := Lib.hid ((hB 53 (by decide)).trans E53_B54.out)
        have E54_B55 := Lib.hid ((hB 54 (by decide)).trans E54_B54.out)
        have E55_B55 := Lib.hid e55
        clear e55 hB hz_B54 hd_B54 E0_B54 E2_B54 E3_B54 E4_B54 E5_B54 E6_B54 E7_B54 E53_B54 E54_B54
        refine wl_step rfl fun K hK => op_allocE rfl (hK _ _ ?_)
        clear K hK
        refine nx 8 (.pointer (some ⟨wd3_55.heap.size, 0, none⟩)) hz_B55 hd_B55 (by decide) fun B8 hz_B8 hd_B8 e8 hB => ?_
        have E0_B8 := Lib.hid ((hB 0 (by decide)).trans E0_B55.out)
        have E2_B8 := Lib.hid ((hB 2 (by decide)).trans E2_B55.out)
        have E3_B8 := Lib.hid ((hB 3 (by decide)).trans E3_B55.out)
        have E4_B8 := Lib.hid ((hB 4 (by decide)).trans E4_B55.out)
        have E5_B8 := Lib.hid ((hB 5 (by decide)).trans E5_B55.out)
        have E6_B8 := Lib.hid ((hB 6 (by decide)).trans E6_B55.out)
        have E7_B8 := Lib.hid ((hB 7 (by decide)).trans E7_B55.out)
        have E53_B8 := Lib.hid ((hB 53 (by decide)).trans E53_B55.out)
        have E54_B8 := Lib.hid ((hB 54 (by decide)).trans E54_B55.out)
        have E55_B8 := Lib.hid ((hB 55 (by decide)).trans E55_B55.out)
        have E8_B8 := Lib.hid e8
        clear e8 hB hz_B55 hd_B55 E0_B55 E2_B55 E3_B55 E4_B55 E5_B55 E6_B55 E7_B55 E53_B55 E54_B55 E55_B55
        have hz8 := HGwd3_55.out.size
        have hl2_wd3_55 := HT2_wd3_55.out.lt
        have hl3_wd3_55 := HT3_wd3_55.out.lt
        have hl4_wd3_55 := HT4_wd3_55.out.lt
        have hl5_wd3_55 := HT5_wd3_55.out.lt
        have hl6_wd3_55 := HT6_wd3_55.out.lt
        have hl7_wd3_55 := HT7_wd3_55.out.lt
        have hp_wd3_55 := HLwd3_55.out.lt
        have HT8_we3 := Lib.hid (Blk4.new wd3_55 (elc_size 0))
        have hba := (Below.refl wd3_55.heap.size wd3_55).alloc (Nat.le_refl _) (.cells (elc 0) 33)
        have HLwe3 := Lib.hid (HLwd3_55.out.below hba HLwd3_55.out.lt)
        have HT2_we3 := Lib.hid (HT2_wd3_55.out.below hba HT2_wd3_55.out.lt)
        have HT3_we3 := Lib.hid (HT3_wd3_55.out.below hba HT3_wd3_55.out.lt)
        have HT4_we3 := Lib.hid (HT4_wd3_55.out.below hba HT4_wd3_55.out.lt)
        have HT5_we3 := Lib.hid (HT5_wd3_55.out.below hba HT5_wd3_55.out.lt)
        have HT6_we3 := Lib.hid (HT6_wd3_55.out.below hba HT6_wd3_55.out.lt)
        have HT7_we3 := Lib.hid (HT7_wd3_55.out.below hba HT7_wd3_55.out.lt)
        have HGwe3 := Lib.hid (gb_below HGwd3_55.out hba)
        clear HLwd3_55 HGwd3_55 HT2_wd3_55 HT3_wd3_55 HT4_wd3_55 HT5_wd3_55 HT6_wd3_55 HT7_wd3_55
        clear hba
        generalize hW : (wd3_55.alloc (.cells (elc 0) 33)) = we3 at *
        clear hW
        generalize hq : wd3_55.heap.size = q8 at *
        clear hq
        have hl2_we3 := HT2_we3.out.lt
        have hl3_we3 := HT3_we3.out.lt
        have hl4_we3 := HT4_we3.out.lt
        have hl5_we3 := HT5_we3.out.lt
        have hl6_we3 := HT6_we3.out.lt
        have hl7_we3 := HT7_we3.out.lt
        have hl8_we3 := HT8_we3.out.lt
        have hp_we3 := HLwe3.out.lt
        have HLwe3s8 := Lib.hid (show LadB (we3.setRow q8 (elc e)) p x1 x2 z2 x3 z3 from HLwe3.out.far (by omega) _)
        have HT2_we3s8 := Lib.hid (show Blk4 (we3.setRow q8 (elc e)) q2 (elc a) from HT2_we3.out.far (by omega) _)
        have HT3_we3s8 := Lib.hid (show Blk4 (we3.setRow q8 (elc e)) q3 (elc b) from HT3_we3.out.far (by omega) _)
        have HT4_we3s8 := Lib.hid (show Blk4 (we3.setRow q8 (elc e)) q4 (elc c) from HT4_we3.out.far (by omega) _)
        have HT5_we3s8 := Lib.hid (show Blk4 (we3.setRow q8 (elc e)) q5 (elc d) from HT5_we3.out.far (by omega) _)
        have HT6_we3s8 := Lib.hid (show Blk4 (we3.setRow q8 (elc e)) q6 (elc aa) from HT6_we3.out.far (by omega) _)
        have HT7_we3s8 := Lib.hid (show Blk4 (we3.setRow q8 (elc e)) q7 (elc bb) from HT7_we3.out.far (by omega) _)
        have HT8_we3s8 := Lib.hid (show Blk4 (we3.setRow q8 (elc e)) q8 (elc e) from HT8_we3.out.set (elc_size e))
        have HGwe3s8 := Lib.hid (show w.grownBy (we3.setRow q8 (elc e)) (some p) from gb_row HGwe3.out (by omega) _)
        refine wl_store4 (.tmp 8) (.tmp 55) HT8_we3.out rfl rfl E8_B8.out (Y := elc e) E55_B8.out (elc_size e) (elc_one e) ?_
        refine wpList_nil ?_
        show Exit.then _ _ .normal B8 _
        generalize hW3 : (we3.setRow q8 (elc e)) = wb3 at *
        clear hW3
        have HLwb3 := HLwe3s8
        have HGwb3 := HGwe3s8
        have HT2_wb3 := HT2_we3s8
        have HT3_wb3 := HT3_we3s8
        have HT4_wb3 := HT4_we3s8
        have HT5_wb3 := HT5_we3s8
        have HT6_wb3 := HT6_we3s8
        have HT7_wb3 := HT7_we3s8
        have HT8_wb3 := HT8_we3s8
        clear HLwe3s8 HGwe3s8 HT2_we3s8 HT3_we3s8 HT4_we3s8 HT5_we3s8 HT6_we3s8 HT7_we3s8 HT8_we3s8
        go_upto_region 4 with fail
        have hp_wb3 : p < wb3.heap.size := HLwb3.out.lt
        refine wp_region_head 10 [56, 57, 58, 59, 60, 61, 62, 63, 9, 10] (fun i v w' => match i with
          | 0 => v = .agg (elc d)
          | 1 => v = .agg (elc a)
          | 2 => ∃ q, v = .slice (some ⟨q, 0, none⟩) 2 2 ∧ PairE w' q d a ∧ q < w'.heap.size
          | 3 => v = .agg (elc da)
          | 4 => v = .agg (elc c)
          | 5 => v = .agg (elc b)
          | 6 => ∃ q, v = .slice (some ⟨q, 0, none⟩) 2 2 ∧ PairE w' q c b ∧ q < w'.heap.size
          | 7 => v = .agg (elc cb)
          | 8 => ∃ q, v = .pointer (some ⟨q, 0, none⟩) ∧ Blk4 w' q (elc 0) ∧ q < w'.heap.size
          | 9 => ∃ q, v = .pointer (some ⟨q, 0, none⟩) ∧ Blk4 w' q (elc 0) ∧ q < w'.heap.size
          | _ => True) (fun i v => if i ∈ ([2, 6, 8, 9] : List Nat) then blkOf v else none) (by kernel_rfl) (by kernel_rfl) rfl rfl (by decide) (by rw [hz_B8.out]; decide) rfl ?_ ?_ ?_
        · intro i v w1 w2 h hb
          match i, h with
          | 0, h => exact h
          | 1, h => exact h
          | 2, h => obtain ⟨q, h1, h2, h3⟩ := h; exact ⟨q, h1, (hb.block q h3).trans h2, Nat.lt_of_lt_of_le h3 hb.size⟩
          | 3, h => exact h
          | 4, h => exact h
          | 5, h => exact h
          | 6, h => obtain ⟨q, h1, h2, h3⟩ := h; exact ⟨q, h1, (hb.block q h3).trans h2, Nat.lt_of_lt_of_le h3 hb.size⟩
          | 7, h => exact h
          | 8, h => obtain ⟨q, h1, h2, h3⟩ := h; exact ⟨q, h1, h2.below hb h3, Nat.lt_of_lt_of_le h3 hb.size⟩
          | 9, h => obtain ⟨q, h1, h2, h3⟩ := h; exact ⟨q, h1, h2.below hb h3, Nat.lt_of_lt_of_le h3 hb.size⟩
          | k + 10, h => trivial
        · intro i o h a' w1 hA hD hb1
          match i, h with
          | 0, h =>
            obtain rfl := Option.some.inj h
            exact op_load4 (.tmp 5) rfl (HT5_wb3.out.below hb1 HT5_wb3.out.lt) ((hA 5 (by decide)).trans E5_B8.out) ⟨_, rfl, Below.refl _ _, rfl, fun b h => by cases h⟩
          | 1, h =>
            obtain rfl := Option.some.inj h
            exact op_load4 (.tmp 2) rfl (HT2_wb3.out.below hb1 HT2_wb3.out.lt) ((hA 2 (by decide)).trans E2_B8.out) ⟨_, rfl, Below.refl _ _, rfl, fun b h => by cases h⟩
          | 2, h =>
            obtain rfl := Option.some.inj h
            exact op_pair (.tmp 56) (.tmp 57) rfl (hD ⟨0, .data⟩ (by simp) rfl 56 rfl) (hD ⟨1, .data⟩ (by simp) rfl 57 rfl) ⟨_, rfl, (Below.refl _ _).alloc (Nat.le_refl _) _, ⟨_, rfl, heap_alloc_new _ _, lt_alloc _ _⟩, fun b h => own_lt h _⟩
          | 3, h =>
            obtain rfl := Option.some.inj h
            obtain ⟨q, hq, hpq, _⟩ := hD ⟨2, .data⟩ (by simp) rfl 58 rfl
            have hq : a'.eval (.tmp 58) = .slice (some ⟨q, 0, none⟩) 2 2 := hq
            go_simp
            rw [ev_get hq]
            refine (CDA.out w1 q hpq).mono ?_
            rintro e w3 ⟨rfl, hb3⟩
            exact ⟨rfl, hb3⟩
          | 4, h =>
            obtain rfl := Option.some.inj h
            exact op_load4 (.tmp 4) rfl (HT4_wb3.out.below hb1 HT4_wb3.out.lt) ((hA 4 (by decide)).trans E4_B8.out) ⟨_, rfl, Below.refl _ _, rfl, fun b h => by cases h⟩
          | 5, h =>
            obtain rfl := Option.some.inj h
            exact op_load4 (.tmp 3) rfl (HT3_wb3.out.below hb1 HT3_wb3.out.lt) ((hA 3 (by decide)).trans E3_B8.out) ⟨_, rfl, Below.refl _ _, rfl, fun b h => by cases h⟩
          | 6, h =>
            obtain rfl := Option.some.inj h
            exact op_pair (.tmp 60) (.tmp 61) rfl (hD ⟨4, .data⟩ (by simp) rfl 60 rfl) (hD ⟨5, .data⟩ (by simp) rfl 61 rfl) ⟨_, rfl, (Below.refl _ _).alloc (Nat.le_refl _) _, ⟨_, rfl, heap_alloc_new _ _, lt_alloc _ _⟩, fun b h => own_lt h _⟩
          | 7, h =>
            obtain rfl := Option.some.inj h
            obtain ⟨q, hq, hpq, _⟩ := hD ⟨6, .data⟩ (by simp) rfl 62 rfl
            have hq : a'.eval (.tmp 62) = .slice (some ⟨q, 0, none⟩) 2 2 := hq
            go_simp
            rw [ev_get hq]
            refine (CCB.out w1 q hpq).mono ?_
            rintro e w3 ⟨rfl, hb3⟩
            exact ⟨rfl, hb3⟩
          | 8, h =>
            obtain rfl := Option.some.inj h
            exact op_allocE rfl ⟨_, rfl, (Below.refl _ _).alloc (Nat.le_refl _) _, ⟨_, rfl, Blk4.new _ (elc_size 0), lt_alloc _ _⟩, fun b h => own_ltP h _⟩
          | 9, h =>
            obtain rfl := Option.some.inj h
            exact op_allocE rfl ⟨_, rfl, (Below.refl _ _).alloc (Nat.le_refl _) _, ⟨_, rfl, Blk4.new _ (elc_size 0), lt_alloc _ _⟩, fun b h => own_ltP h _⟩
          | k + 10, h => simp at h
        · intro x wa4 hx hO hAp hb
          have y0 : x 0 = .agg (elc d) := hx 0 (by decide)
          have y1 : x 1 = .agg (elc a) := hx 1 (by decide)
          obtain ⟨q58, y2, hQ58, hl58⟩ := hx 2 (by decide)
          have y3 : x 3 = .agg (elc da) := hx 3 (by decide)
          have y4 : x 4 = .agg (elc c) := hx 4 (by decide)
          have y5 : x 5 = .agg (elc b) := hx 5 (by decide)
          obtain ⟨q62, y6, hQ62, hl62⟩ := hx 6 (by decide)
          have y7 : x 7 = .agg (elc cb) := hx 7 (by decide)
          obtain ⟨q9, y8, hQ9, hl9⟩ := hx 8 (by decide)
          obtain ⟨q10, y9, hQ10, hl10⟩ := hx 9 (by decide)
          have hg9 := (hO 8 q9 (by decide) (by rw [y8]; rfl)).1
          have hg10 := (hO 9 q10 (by decide) (by rw [y9]; rfl)).1
          have hn9 : q9 ≠ q10 := fun h => hAp 8 9 q9 (by decide) (by decide) (by decide) (by rw [y8]; rfl) (by rw [y9, h]; rfl)
          have HLwa4 := Lib.hid (HLwb3.out.below hb hp_wb3)
          have HT2_wa4 := Lib.hid (HT2_wb3.out.below hb HT2_wb3.out.lt)
          have HT3_wa4 := Lib.hid (HT3_wb3.out.below hb HT3_wb3.out.lt)
          have HT4_wa4 := Lib.hid (HT4_wb3.out.below hb HT4_wb3.out.lt)
          have HT5_wa4 := Lib.hid (HT5_wb3.out.below hb HT5_wb3.out.lt)
          have HT6_wa4 := Lib.hid (HT6_wb3.out.below hb HT6_wb3.out.lt)
          have HT7_wa4 := Lib.hid (HT7_wb3.out.below hb HT7_wb3.out.lt)
          have HT8_wa4 := Lib.hid (HT8_wb3.out.below hb HT8_wb3.out.lt)
          have HGwa4 := Lib.hid (gb_below HGwb3.out hb)
          have hswa4 := hb.size
          have hzwa4 := HGwa4.out.size
          have hl2_wb3 := HT2_wb3.out.lt
          have hl3_wb3 := HT3_wb3.out.lt
          have hl4_wb3 := HT4_wb3.out.lt
          have hl5_wb3 := HT5_wb3.out.lt
          have hl6_wb3 := HT6_wb3.out.lt
          have hl7_wb3 := HT7_wb3.out.lt
          have hl8_wb3 := HT8_wb3.out.lt
          refine nxs hz_B8 hd_B8 (by decide) (by decide) fun A4 hz_A4 hd_A4 hIn hOut => ?_
          simp only [List.drop_succ_cons, List.drop_zero]
          have E0_A4 := Lib.hid ((hOut 0 (by decide)).trans E0_B8.out)
          have E2_A4 := Lib.hid ((hOut 2 (by decide)).trans E2_B8.out)
          have E3_A4 := Lib.hid ((hOut 3 (by decide)).trans E3_B8.out)
          have E4_A4 := Lib.hid ((hOut 4 (by decide)).trans E4_B8.out)
          have E5_A4 := Lib.hid ((hOut 5 (by decide)).trans E5_B8.out)
          have E6_A4 := Lib.hid ((hOut 6 (by decide)).trans E6_B8.out)
          have E7_A4 := Lib.hid ((hOut 7 (by decide)).trans E7_B8.out)
          have E8_A4 := Lib.hid ((hOut 8 (by decide)).trans E8_B8.out)
          have E9_A4 := Lib.hid ((hIn 8 9 rfl).trans y8)
          have E10_A4 := Lib.hid ((hIn 9 10 rfl).trans y9)
          have E59_A4 := Lib.hid ((hIn 3 59 rfl).trans y3)
          have E63_A4 := Lib.hid ((hIn 7 63 rfl).trans y7)
          clear hIn hOut hz_B8 hd_B8 E0_B8 E2_B8 E3_B8 E4_B8 E5_B8 E6_B8 E7_B8 E8_B8
          clear HLwb3 HGwb3 HT2_wb3 HT3_wb3 HT4_wb3 HT5_wb3 HT6_wb3 HT7_wb3 HT8_wb3
          clear hx hO hAp hb y0 y1 y2 y3 y4 y5 y6 y7 y8 y9 hQ58 hl58 hQ62 hl62
          have HT9_wa4 := Lib.hid hQ9
          clear hQ9
          have HT10_wa4 := Lib.hid hQ10
          clear hQ10
          have HLwa4s9 := Lib.hid (show LadB (wa4.setRow q9 (elc da)) p x1 x2 z2 x3 z3 from HLwa4.out.far (by omega) _)
          have HT2_wa4s9 := Lib.hid (show Blk4 (wa4.setRow q9 (elc da)) q2 (elc a) from HT2_wa4.out.far (by omega) _)
          have HT3_wa4s9 := Lib.hid (show Blk4 (wa4.setRow q9 (elc da)) q3 (elc b) from HT3_wa4.out.far (by omega) _)
          have HT4_wa4s9 := Lib.hid (show Blk4 (wa4.setRow q9 (elc da)) q4 (elc c) from HT4_wa4.out.far (by omega) _)
          have HT5_wa4s9 := Lib.hid (show Blk4 (wa4.setRow q9 (elc da)) q5 (elc d) from HT5_wa4.out.far (by omega) _)
          have HT6_wa4s9 := Lib.hid (show Blk4 (wa4.setRow q9 (elc da)) q6 (elc aa) from HT6_wa4.out.far (by omega) _)
          have HT7_wa4s9 := Lib.hid (show Blk4 (wa4.setRow q9 (elc da)) q7 (elc bb) from HT7_wa4.out.far (by omega) _)
          have HT8_wa4s9 := Lib.hid (show Blk4 (wa4.setRow q9 (elc da)) q8 (elc e) from HT8_wa4.out.far (by omega) _)
          have HT9_wa4s9 := Lib.hid (show Blk4 (wa4.setRow q9 (elc da)) q9 (elc da) from HT9_wa4.out.set (elc_size da))
          have HT10_wa4s9 := Lib.hid (show Blk4 (wa4.setRow q9 (elc da)) q10 (elc 0) from HT10_wa4.out.far (by omega) _)
          have HGwa4s9 := Lib.hid (show w.grownBy (wa4.setRow q9 (elc da)) (some p) from gb_row HGwa4.out (by omega) _)
          have HLwa4s9s10 := Lib.hid (show LadB ((wa4.setRow q9 (elc da)).setRow q10 (elc cb)) p x1 x2 z2 x3 z3 from HLwa4s9.out.far (by omega) _)
          have HT2_wa4s9s10 := Lib.hid (show Blk4 ((wa4.setRow q9 (elc da)).setRow q10 (elc cb)) q2 (elc a) from HT2_wa4s9.out.far (by omega) _)
          have HT3_wa4s9s10 := Lib.hid (show Blk4 ((wa4.setRow q9 (elc da)).setRow q10 (elc cb)) q3 (elc b) from HT3_wa4s9.out.far (by omega) _)
          have HT4_wa4s9s10 := Lib.hid (show Blk4 ((wa4.setRow q9 (elc da)).setRow q10 (elc cb)) q4 (elc c) from HT4_wa4s9.out.far (by omega) _)
          have HT5_wa4s9s10 := Lib.hid (show Blk4 ((wa4.setRow q9 (elc da)).setRow q10 (elc cb)) q5 (elc d) from HT5_wa4s9.out.far (by omega) _)
          have HT6_wa4s9s10 := Lib.hid (show Blk4 ((wa4.setRow q9 (elc da)).setRow q10 (elc cb)) q6 (elc aa) from HT6_wa4s9.out.far (by omega) _)
          have HT7_wa4s9s10 := Lib.hid (show Blk4 ((wa4.setRow q9 (elc da)).setRow q10 (elc cb)) q7 (elc bb) from HT7_wa4s9.out.far (by omega) _)
          have HT8_wa4s9s10 := Lib.hid (show Blk4 ((wa4.setRow q9 (elc da)).setRow q10 (elc cb)) q8 (elc e) from HT8_wa4s9.out.far (by omega) _)
          have HT9_wa4s9s10 := Lib.hid (show Blk4 ((wa4.setRow q9 (elc da)).setRow q10 (elc cb)) q9 (elc da) from HT9_wa4s9.out.far (by omega) _)
          have HT10_wa4s9s10 := Lib.hid (show Blk4 ((wa4.setRow q9 (elc da)).setRow q10 (elc cb)) q10 (elc cb) from HT10_wa4s9.out.set (elc_size cb))
          have HGwa4s9s10 := Lib.hid (show w.grownBy ((wa4.setRow q9 (elc da)).setRow q10 (elc cb)) (some p) from gb_row HGwa4s9.out (by omega) _)
          refine wl_store4 (.tmp 9) (.tmp 59) HT9_wa4.out rfl rfl E9_A4.out (Y := elc da) E59_A4.out (elc_size da) (elc_one da) ?_
          refine wl_store4 (.tmp 10) (.tmp 63) HT10_wa4s9.out rfl rfl E10_A4.out (Y := elc cb) E63_A4.out (elc_size cb) (elc_one cb) ?_
          refine wpList_nil ?_
          show Exit.then _ _ .normal A4 _
          generalize hW4 : ((wa4.setRow q9 (elc da)).setRow q10 (elc cb)) = wb4 at *
          clear hW4
          have HLwb4 := HLwa4s9s10
          have HGwb4 := HGwa4s9s10
          have HT2_wb4 := HT2_wa4s9s10
          have HT3_wb4 := HT3_wa4s9s10
          have HT4_wb4 := HT4_wa4s9s10
          have HT5_wb4 := HT5_wa4s9s10
          have HT6_wb4 := HT6_wa4s9s10
          have HT7_wb4 := HT7_wa4s9s10
          have HT8_wb4 := HT8_wa4s9s10
          have HT9_wb4 := HT9_wa4s9s10
          have HT10_wb4 := HT10_wa4s9s10
          clear HLwa4s9s10 HGwa4s9s10 HT2_wa4s9s10 HT3_wa4s9s10 HT4_wa4s9s10 HT5_wa4s9s10 HT6_wa4s9s10 HT7_wa4s9s10 HT8_wa4s9s10 HT9_wa4s9s10 HT10_wa4s9s10
          go_upto_region 5 with fail
          refine wp_region_lit ?_
          have e := ev_get E0_A4.out
          refine wl_step rfl fun K hK => ?_
          go_simp
          refine hK _ _ ?_
          clear e K hK
          refine nx 64 (.pointer (some ⟨p, 0, none⟩)) hz_A4 hd_A4 (by decide) fun B64 hz_B64 hd_B64 e64 hB => ?_
          have E0_B64 := Lib.hid ((hB 0 (by decide)).trans E0_A4.out)
          have E2_B64 := Lib.hid ((hB 2 (by decide)).trans E2_A4.out)
          have E3_B64 := Lib.hid ((hB 3 (by decide)).trans E3_A4.out)
          have E4_B64 := Lib.hid ((hB 4 (by decide)).trans E4_A4.out)
          have E5_B64 := Lib.hid ((hB 5 (by decide)).trans E5_A4.out)
          have E6_B64 := Lib.hid ((hB 6 (by decide)).trans E6_A4.out)
          have E7_B64 := Lib.hid ((hB 7 (by decide)).trans E7_A4.out)
          have E8_B64 := Lib.hid ((hB 8 (by decide)).trans E8_A4.out)
          have E9_B64 := Lib.hid ((hB 9 (by decide)).trans E9_A4.out)
          have E10_B64 := Lib.hid ((hB 10 (by decide)).trans E10_A4.out)
          have E64_B64 := Lib.hid e64
          clear e64 hB hz_A4 hd_A4 E0_A4 E2_A4 E3_A4 E4_A4 E5_A4 E6_A4 E7_A4 E8_A4 E9_A4 E10_A4
          refine wl_load4 (.tmp 9) HT9_wb4.out rfl rfl E9_B64.out ?_
          refine nx 65 (.agg (elc da)) hz_B64 hd_B64 (by decide) fun B65 hz_B65 hd_B65 e65 hB => ?_
          have E0_B65 := Lib.hid ((hB 0 (by decide)).trans E0_B64.out)
          have E2_B65 := Lib.hid ((hB 2 (by decide)).trans E2_B64.out)
          have E3_B65 := Lib.hid ((hB 3 (by decide)).trans E3_B64.out)
          have E4_B65 := Lib.hid ((hB 4 (by decide)).trans E4_B64.out)
          have E5_B65 := Lib.hid ((hB 5 (by decide)).trans E5_B64.out)
          have E6_B65 := Lib.hid ((hB 6 (by decide)).trans E6_B64.out)
          have E7_B65 := Lib.hid ((hB 7 (by decide)).trans E7_B64.out)
          have E8_B65 := Lib.hid ((hB 8 (by decide)).trans E8_B64.out)
          have E9_B65 := Lib.hid ((hB 9 (by decide)).trans E9_B64.out)
          have E10_B65 := Lib.hid ((hB 10 (by decide)).trans E10_B64.out)
          have E64_B65 := Lib.hid ((hB 64 (by decide)).trans E64_B64.out)
          have E65_B65 := Lib.hid e65
          clear e65 hB hz_B64 hd_B64 E0_B64 E2_B64 E3_B64 E4_B64 E5_B64 E6_B64 E7_B64 E8_B64 E9_B64 E10_B64 E64_B64
          refine wl_load4 (.tmp 10) HT10_wb4.out rfl rfl E10_B65.out ?_
          refine nx 66 (.agg (elc cb)) hz_B65 hd_B65 (by decide) fun B66 hz_B66 hd_B66 e66 hB => ?_
          have E0_B66 := Lib.hid ((hB 0 (by decide)).trans E0_B65.out)
          have E2_B66 := Lib.hid ((hB 2 (by decide)).trans E2_B65.out)
          have E3_B66 := Lib.hid ((hB 3 (by decide)).trans E3_B65.out)
          have E4_B66 := Lib.hid ((hB 4 (by decide)).trans E4_B65.out)
          have E5_B66 := Lib.hid ((hB 5 (by decide)).trans E5_B65.out)
          have E6_B66 := Lib.hid ((hB 6 (by decide)).trans E6_B65.out)
          have E7_B66 := Lib.hid ((hB 7 (by decide)).trans E7_B65.out)
          have E8_B66 := Lib.hid ((hB 8 (by decide)).trans E8_B65.out)
          have E9_B66 := Lib.hid ((hB 9 (by decide)).trans E9_B65.out)
          have E10_B66 := Lib.hid ((hB 10 (by decide)).trans E10_B65.out)
          have E64_B66 := Lib.hid ((hB 64 (by decide)).trans E64_B65.out)
          have E65_B66 := Lib.hid ((hB 65 (by decide)).trans E65_B65.out)
          have E66_B66 := Lib.hid e66
          clear e66 hB hz_B65 hd_B65 E0_B65 E2_B65 E3_B65 E4_B65 E5_B65 E6_B65 E7_B65 E8_B65 E9_B65 E10_B65 E64_B65 E65_B65
          refine wl_pair (.tmp 65) (.tmp 66) (X := da) (Y := cb) rfl rfl E65_B66.out E66_B66.out ?_
          have hpr5 : PairE (wb4.alloc (.cells (elc da ++ elc cb) 33)) wb4.heap.size da cb := heap_alloc_new _ _
          refine nx 67 (.slice (some ⟨wb4.heap.size, 0, none⟩) 2 2) hz_B66 hd_B66 (by decide) fun B67 hz_B67 hd_B67 e67 hB => ?_
          have E0_B67 := Lib.hid ((hB 0 (by decide)).trans E0_B66.out)
          have E2_B67 := Lib.hid ((hB 2 (by decide)).trans E2_B66.out)
          have E3_B67 := Lib.hid ((hB 3 (by decide)).trans E3_B66.out)
          have E4_B67 := Lib.hid ((hB 4 (by decide)).trans E4_B66.out)
          have E5_B67 := Lib.hid ((hB 5 (by decide)).trans E5_B66.out)
          have E6_B67 := Lib.hid ((hB 6 (by decide)).trans E6_B66.out)
          have E7_B67 := Lib.hid ((hB 7 (by decide)).trans E7_B66.out)
          have E8_B67 := Lib.hid ((hB 8 (by decide)).trans E8_B66.out)
          have E9_B67 := Lib.hid ((hB 9 (by decide)).trans E9_B66.out)
          have E10_B67 := Lib.hid ((hB 10 (by decide)).trans E10_B66.out)
          have E64_B67 := Lib.hid ((hB 64 (by decide)).trans E64_B66.out)
          have E65_B67 := Lib.hid ((hB 65 (by decide)).trans E65_B66.out)
          have E66_B67 := Lib.hid ((hB 66 (by decide)).trans E66_B66.out)
          have E67_B67 := Lib.hid e67
          clear e67 hB hz_B66 hd_B66 E0_B66 E2_B66 E3_B66 E4_B66 E5_B66 E6_B66 E7_B66 E8_B66 E9_B66 E10_B66 E64_B66 E65_B66 E66_B66
          have hba := (Below.refl wb4.heap.size wb4).alloc (Nat.le_refl _) (.cells (elc da ++ elc cb) 33)
          have HLwc5 := Lib.hid (HLwb4.out.below hba HLwb4.out.lt)
          have HT2_wc5 := Lib.hid (HT2_wb4.out.below hba HT2_wb4.out.lt)
          have HT3_wc5 := Lib.hid (HT3_wb4.out.below hba HT3_wb4.out.lt)
          have HT4_wc5 := Lib.hid (HT4_wb4.out.below hba HT4_wb4.out.lt)
          have HT5_wc5 := Lib.hid (HT5_wb4.out.below hba HT5_wb4.out.lt)
          have HT6_wc5 := Lib.hid (HT6_wb4.out.below hba HT6_wb4.out.lt)
          have HT7_wc5 := Lib.hid (HT7_wb4.out.below hba HT7_wb4.out.lt)
          have HT8_wc5 := Lib.hid (HT8_wb4.out.below hba HT8_wb4.out.lt)
          have HT9_wc5 := Lib.hid (HT9_wb4.out.below hba HT9_wb4.out.lt)
          have HT10_wc5 := Lib.hid (HT10_wb4.out.below hba HT10_wb4.out.lt)
          have HGwc5 := Lib.hid (gb_below HGwb4.out hba)
          clear HLwb4 HGwb4 HT2_wb4 HT3_wb4 HT4_wb4 HT5_wb4 HT6_wb4 HT7_wb4 HT8_wb4 HT9_wb4 HT10_wb4
          clear hba
          generalize hW : (wb4.alloc (.cells (elc da ++ elc cb) 33)) = wc5 at *
          clear hW
          generalize hq : wb4.heap.size = qp5 at *
          clear hq
          refine wl_step rfl fun K hK => ?_
          go_simp
          rw [ev_get E67_B67.out]
          refine (CS.out _ _ hpr5).mono ?_
          rintro _ wd5_68 ⟨rfl, hb⟩
          refine hK _ _ ?_
          clear K hK
          have HLwd5_68 := Lib.hid (HLwc5.out.below hb HLwc5.out.lt)
          have HT2_wd5_68 := Lib.hid (HT2_wc5.out.below hb HT2_wc5.out.lt)
          have HT3_wd5_68 := Lib.hid (HT3_wc5.out.below hb HT3_wc5.out.lt)
          have HT4_wd5_68 := Lib.hid (HT4_wc5.out.below hb HT4_wc5.out.lt)
          have HT5_wd5_68 := Lib.hid (HT5_wc5.out.below hb HT5_wc5.out.lt)
          have HT6_wd5_68 := Lib.hid (HT6_wc5.out.below hb HT6_wc5.out.lt)
          have HT7_wd5_68 := Lib.hid (HT7_wc5.out.below hb HT7_wc5.out.lt)
          have HT8_wd5_68 := Lib.hid (HT8_wc5.out.below hb HT8_wc5.out.lt)
          have HT9_wd5_68 := Lib.hid (HT9_wc5.out.below hb HT9_wc5.out.lt)
          have HT10_wd5_68 := Lib.hid (HT10_wc5.out.below hb HT10_wc5.out.lt)
          have HGwd5_68 := Lib.hid (gb_below HGwc5.out hb)
          clear HLwc5 HGwc5 HT2_wc5 HT3_wc5 HT4_wc5 HT5_wc5 HT6_wc5 HT7_wc5 HT8_wc5 HT9_wc5 HT10_wc5
          clear hb hpr5
          refine nx 68 (.agg (elc s)) hz_B67 hd_B67 (by decide) fun B68 hz_B68 hd_B68 e68 hB => ?_
          have E0_B68 := Lib.hid ((hB 0 (by decide)).trans E0_B67.out)
          have E2_B68 := Lib.hid ((hB 2 (by decide)).trans E2_B67.out)
          have E3_B68 := Lib.hid ((hB 3 (by decide)).trans E3_B67.out)
          have E4_B68 := Lib.hid ((hB 4 (by decide)).trans E4_B67.out)
          have E5_B68 := Lib.hid ((hB 5 (by decide)).trans E5_B67.out)
          have E6_B68 := Lib.hid ((hB 6 (by decide)).trans E6_B67.out)
          have E7_B68 := Lib.hid ((hB 7 (by decide)).trans E7_B67.out)
          have E8_B68 := Lib.hid ((hB 8 (by decide)).trans E8_B67.out)
          have E9_B68 := Lib.hid ((hB 9 (by decide)).trans E9_B67.out)
          have E10_B68 := Lib.hid ((hB 10 (by decide)).trans E10_B67.out)
          have E64_B68 := Lib.hid ((hB 64 (by decide)).trans E64_B67.out)
          have E65_B68 := Lib.hid ((hB 65 (by decide)).trans E65_B67.out)
          have E66_B68 := Lib.hid ((hB 66 (by decide)).trans E66_B67.out)
          have E67_B68 := Lib.hid ((hB 67 (by decide)).trans E67_B67.out)
          have E68_B68 := Lib.hid e68
          clear e68 hB hz_B67 hd_B67 E0_B67 E2_B67 E3_B67 E4_B67 E5_B67 E6_B67 E7_B67 E8_B67 E9_B67 E10_B67 E64_B67 E65_B67 E66_B67 E67_B67
          refine wl_step rfl fun K hK => ?_
          go_simp
          rw [ev_get E68_B68.out]
          refine (CX3.out _).mono ?_
          rintro _ wd5_69 ⟨rfl, hb⟩
          refine hK _ _ ?_
          clear K hK
          have HLwd5_69 := Lib.hid (HLwd5_68.out.below hb HLwd5_68.out.lt)
          have HT2_wd5_69 := Lib.hid (HT2_wd5_68.out.below hb HT2_wd5_68.out.lt)
          have HT3_wd5_69 := Lib.hid (HT3_wd5_68.out.below hb HT3_wd5_68.out.lt)
          have HT4_wd5_69 := Lib.hid (HT4_wd5_68.out.below hb HT4_wd5_68.out.lt)
          have HT5_wd5_69 := Lib.hid (HT5_wd5_68.out.below hb HT5_wd5_68.out.lt)
          have HT6_wd5_69 := Lib.hid (HT6_wd5_68.out.below hb HT6_wd5_68.out.lt)
          have HT7_wd5_69 := Lib.hid (HT7_wd5_68.out.below hb HT7_wd5_68.out.lt)
          have HT8_wd5_69 := Lib.hid (HT8_wd5_68.out.below hb HT8_wd5_68.out.lt)
          have HT9_wd5_69 := Lib.hid (HT9_wd5_68.out.below hb HT9_wd5_68.out.lt)
          have HT10_wd5_69 := Lib.hid (HT10_wd5_68.out.below hb HT10_wd5_68.out.lt)
          have HGwd5_69 := Lib.hid (gb_below HGwd5_68.out hb)
          clear HLwd5_68 HGwd5_68 HT2_wd5_68 HT3_wd5_68 HT4_wd5_68 HT5_wd5_68 HT6_wd5_68 HT7_wd5_68 HT8_wd5_68 HT9_wd5_68 HT10_wd5_68
          clear hb
          refine nx 69 (.agg (elc X3)) hz_B68 hd_B68 (by decide) fun B69 hz_B69 hd_B69 e69 hB => ?_
          have E0_B69 := Lib.hid ((hB 0 (by decide)).trans E0_B68.out)
          have E2_B69 := Lib.hid ((hB 2 (by decide)).trans E2_B68.out)
          have E3_B69 := Lib.hid ((hB 3 (by decide)).trans E3_B68.out)
          have E4_B69 := Lib.hid ((hB 4 (by decide)).trans E4_B68.out)
          have E5_B69 := Lib.hid ((hB 5 (by decide)).trans E5_B68.out)
          have E6_B69 := Lib.hid ((hB 6 (by decide)).trans E6_B68.out)
          have E7_B69 := Lib.hid ((hB 7 (by decide)).trans E7_B68.out)
          have E8_B69 := Lib.hid ((hB 8 (by decide)).trans E8_B68.out)
          have E9_B69 := Lib.hid ((hB 9 (by decide)).trans E9_B68.out)
          have E10_B69 := Lib.hid ((hB 10 (by decide)).trans E10_B68.out)
          have E64_B69 := Lib.hid ((hB 64 (by decide)).trans E64_B68.out)
          have E65_B69 := Lib.hid ((hB 65 (by decide)).trans E65_B68.out)
          have E66_B69 := Lib.hid ((hB 66 (by decide)).trans E66_B68.out)
          have E67_B69 := Lib.hid ((hB 67 (by decide)).trans E67_B68.out)
          have E68_B69 := Lib.hid ((hB 68 (by decide)).trans E68_B68.out)
          have E69_B69 := Lib.hid e69
          clear e69 hB hz_B68 hd_B68 E0_B68 E2_B68 E3_B68 E4_B68 E5_B68 E6_B68 E7_B68 E8_B68 E9_B68 E10_B68 E64_B68 E65_B68 E66_B68 E67_B68 E68_B68
          have e := ev_get E64_B69.out
          refine wl_step rfl fun K hK => ?_
          go_simp
          refine hK _ _ ?_
          clear e K hK
          refine nx 70 (.pointer (some ⟨p, 0, none⟩)) hz_B69 hd_B69 (by decide) fun B70 hz_B70 hd_B70 e70 hB => ?_
          have E0_B70 := Lib.hid ((hB 0 (by decide)).trans E0_B69.out)
          have E2_B70 := Lib.hid ((hB 2 (by decide)).trans E2_B69.out)
          have E3_B70 := Lib.hid ((hB 3 (by decide)).trans E3_B69.out)
          have E4_B70 := Lib.hid ((hB 4 (by decide)).trans E4_B69.out)
          have E5_B70 := Lib.hid ((hB 5 (by decide)).trans E5_B69.out)
          have E6_B70 := Lib.hid ((hB 6 (by decide)).trans E6_B69.out)
          have E7_B70 := Lib.hid ((hB 7 (by decide)).trans E7_B69.out)
          have E8_B70 := Lib.hid ((hB 8 (by decide)).trans E8_B69.out)
          have E9_B70 := Lib.hid ((hB 9 (by decide)).trans E9_B69.out)
          have E10_B70 := Lib.hid ((hB 10 (by decide)).trans E10_B69.out)
          have E64_B70 := Lib.hid ((hB 64 (by decide)).trans E64_B69.out)
          have E65_B70 := Lib.hid ((hB 65 (by decide)).trans E65_B69.out)
          have E66_B70 := Lib.hid ((hB 66 (by decide)).trans E66_B69.out)
          have E67_B70 := Lib.hid ((hB 67 (by decide)).trans E67_B69.out)
          have E68_B70 := Lib.hid ((hB 68 (by decide)).trans E68_B69.out)
          have E69_B70 := Lib.hid ((hB 69 (by decide)).trans E69_B69.out)
          have E70_B70 := Lib.hid e70
          clear e70 hB hz_B69 hd_B69 E0_B69 E2_B69 E3_B69 E4_B69 E5_B69 E6_B69 E7_B69 E8_B69 E9_B69 E10_B69 E64_B69 E65_B69 E66_B69 E67_B69 E68_B69 E69_B69
          have e := ev_get E70_B70.out
          refine wl_step rfl fun K hK => ?_
          go_simp
          refine hK _ _ ?_
          clear e K hK
          refine nx 71 (.pointer (some ⟨p, 12, none⟩)) hz_B70 hd_B70 (by decide) fun B71 hz_B71 hd_B71 e71 hB => ?_
          have E0_B71 := Lib.hid ((hB 0 (by decide)).trans E0_B70.out)
          have E2_B71 := Lib.hid ((hB 2 (by decide)).trans E2_B70.out)
          have E3_B71 := Lib.hid ((hB 3 (by decide)).trans E3_B70.out)
          have E4_B71 := Lib.hid ((hB 4 (by decide)).trans E4_B70.out)
          have E5_B71 := Lib.hid ((hB 5 (by decide)).trans E5_B70.out)
          have E6_B71 := Lib.hid ((hB 6 (by decide)).trans E6_B70.out)
          have E7_B71 := Lib.hid ((hB 7 (by decide)).trans E7_B70.out)
          have E8_B71 := Lib.hid ((hB 8 (by decide)).trans E8_B70.out)
          have E9_B71 := Lib.hid ((hB 9 (by decide)).trans E9_B70.out)
          have E10_B71 := Lib.hid ((hB 10 (by decide)).trans E10_B70.out)
          have E64_B71 := Lib.hid ((hB 64 (by decide)).trans E64_B70.out)
          have E65_B71 := Lib.hid ((hB 65 (by decide)).trans E65_B70.out)
          have E66_B71 := Lib.hid ((hB 66 (by decide)).trans E66_B70.out)
          have E67_B71 := Lib.hid ((hB 67 (by decide)).trans E67_B70.out)
          have E68_B71 := Lib.hid ((hB 68 (by decide)).trans E68_B70.out)
          have E69_B71 := Lib.hid ((hB 69 (by decide)).trans E69_B70.out)
          have E70_B71 := Lib.hid ((hB 70 (by decide)).trans E70_B70.out)
          have E71_B71 := Lib.hid e71
          clear e71 hB hz_B70 hd_B70 E0_B70 E2_B70 E3_B70 E4_B70 E5_B70 E6_B70 E7_B70 E8_B70 E9_B70 E10_B70 E64_B70 E65_B70 E66_B70 E67_B70 E68_B70 E69_B70 E70_B70
          have hl2_wd5_69 := HT2_wd5_69.out.lt
          have hl3_wd5_69 := HT3_wd5_69.out.lt
          have hl4_wd5_69 := HT4_wd5_69.out.lt
          have hl5_wd5_69 := HT5_wd5_69.out.lt
          have hl6_wd5_69 := HT6_wd5_69.out.lt
          have hl7_wd5_69 := HT7_wd5_69.out.lt
          have hl8_wd5_69 := HT8_wd5_69.out.lt
          have hl9_wd5_69 := HT9_wd5_69.out.lt
          have hl10_wd5_69 := HT10_wd5_69.out.lt
          have hp_wd5_69 := HLwd5_69.out.lt
          have HLwd5_69s71 := Lib.hid (show LadB (wd5_69.setRow p (lcs x1 x2 z2 X3 z3).toArray) p x1 x2 z2 X3 z3 from HLwd5_69.out.row rfl)
          have HT2_wd5_69s71 := Lib.hid (show Blk4 (wd5_69.setRow p (lcs x1 x2 z2 X3 z3).toArray) q2 (elc a) from HT2_wd5_69.out.far (by omega) _)
          have HT3_wd5_69s71 := Lib.hid (show Blk4 (wd5_69.setRow p (lcs x1 x2 z2 X3 z3).toArray) q3 (elc b) from HT3_wd5_69.out.far (by omega) _)
          have HT4_wd5_69s71 := Lib.hid (show Blk4 (wd5_69.setRow p (lcs x1 x2 z2 X3 z3).toArray) q4 (elc c) from HT4_wd5_69.out.far (by omega) _)
          have HT5_wd5_69s71 := Lib.hid (show Blk4 (wd5_69.setRow p (lcs x1 x2 z2 X3 z3).toArray) q5 (elc d) from HT5_wd5_69.out.far (by omega) _)
          have HT6_wd5_69s71 := Lib.hid (show Blk4 (wd5_69.setRow p (lcs x1 x2 z2 X3 z3).toArray) q6 (elc aa) from HT6_wd5_69.out.far (by omega) _)
          have HT7_wd5_69s71 := Lib.hid (show Blk4 (wd5_69.setRow p (lcs x1 x2 z2 X3 z3).toArray) q7 (elc bb) from HT7_wd5_69.out.far (by omega) _)
          have HT8_wd5_69s71 := Lib.hid (show Blk4 (wd5_69.setRow p (lcs x1 x2 z2 X3 z3).toArray) q8 (elc e) from HT8_wd5_69.out.far (by omega) _)
          have HT9_wd5_69s71 := Lib.hid (show Blk4 (wd5_69.setRow p (lcs x1 x2 z2 X3 z3).toArray) q9 (elc da) from HT9_wd5_69.out.far (by omega) _)
          have HT10_wd5_69s71 := Lib.hid (show Blk4 (wd5_69.setRow p (lcs x1 x2 z2 X3 z3).toArray) q10 (elc cb) from HT10_wd5_69.out.far (by omega) _)
          have HGwd5_69s71 := Lib.hid (show w.grownBy (wd5_69.setRow p (lcs x1 x2 z2 X3 z3).toArray) (some p) from gb_rowp HGwd5_69.out _)
          refine wl_storeL (.tmp 71) (.tmp 69) HLwd5_69.out (lcs x1 x2 z2 X3 z3) (v := X3) (off := 12) rfl rfl rfl E71_B71.out E69_B71.out (by decide) ?_
          refine wpList_nil ?_
          show Exit.then _ _ .normal B71 _
          generalize hW5 : (wd5_69.setRow p (lcs x1 x2 z2 X3 z3).toArray) = wb5 at *
          clear hW5
          have HLwb5 := HLwd5_69s71
          have HGwb5 := HGwd5_69s71
          have HT2_wb5 := HT2_wd5_69s71
          have HT3_wb5 := HT3_wd5_69s71
          have HT4_wb5 := HT4_wd5_69s71
          have HT5_wb5 := HT5_wd5_69s71
          have HT6_wb5 := HT6_wd5_69s71
          have HT7_wb5 := HT7_wd5_69s71
          have HT8_wb5 := HT8_wd5_69s71
          have HT9_wb5 := HT9_wd5_69s71
          have HT10_wb5 := HT10_wd5_69s71
          clear HLwd5_69s71 HGwd5_69s71 HT2_wd5_69s71 HT3_wd5_69s71 HT4_wd5_69s71 HT5_wd5_69s71 HT6_wd5_69s71 HT7_wd5_69s71 HT8_wd5_69s71 HT9_wd5_69s71 HT10_wd5_69s71
          go_upto_region 6 with fail
          have hp_wb5 : p < wb5.heap.size := HLwb5.out.lt
          refine wp_region_head 13 [72, 73, 74, 75, 76, 77, 78, 79, 80, 81, 82, 83, 84] (fun i v w' => match i with
            | 0 => v = .pointer (some ⟨p, 0, none⟩)
            | 1 => v = .pointer (some ⟨p, 0, none⟩)
            | 2 => v = .pointer (some ⟨p, 0, none⟩)
            | 3 => v = .pointer (some ⟨p, 0, none⟩)
            | 4 => v = .agg (elc x1)
            | 5 => v = .agg (elc da)
            | 6 => v = .agg (elc cb)
            | 7 => v = .agg (elc t)
            | 8 => v = .agg (elc tt)
            | 9 => ∃ q, v = .slice (some ⟨q, 0, none⟩) 2 2 ∧ PairE w' q x1 tt ∧ q < w'.heap.size
            | 10 => v = .agg (elc Z3)
            | 11 => v = .pointer (some ⟨p, 0, none⟩)
            | 12 => v = .pointer (some ⟨p, 16, none⟩)
            | _ => True) (fun i v => if i ∈ ([9] : List Nat) then blkOf v else none) (by kernel_rfl) (by kernel_rfl) rfl rfl (by decide) (by rw [hz_B71.out]; decide) rfl ?_ ?_ ?_
          · intro i v w1 w2 h hb
            match i, h with
            | 0, h => exact h
            | 1, h => exact h
            | 2, h => exact h
            | 3, h => exact h
            | 4, h => exact h
            | 5, h => exact h
            | 6, h => exact h
            | 7, h => exact h
            | 8, h => exact h
            | 9, h => obtain ⟨q, h1, h2, h3⟩ := h; exact ⟨q, h1, (hb.block q h3).trans h2, Nat.lt_of_lt_of_le h3 hb.size⟩
            | 10, h => exact h
            | 11, h => exact h
            | 12, h => exact h
            | k + 13, h => trivial
          · intro i o h a' w1 hA hD hb1
            match i, h with
            | 0, h =>
              obtain rfl := Option.some.inj h
              have e0 : a'.tmps[0]?.getD undef = .pointer (some ⟨p, 0, none⟩) := ev_get ((hA 0 (by decide)).trans E0_B71.out)
              clear h hA hD
              go_simp
              exact Below.refl _ _
            | 1, h =>
              obtain rfl := Option.some.inj h
              have e0 : a'.tmps[0]?.getD undef = .pointer (some ⟨p, 0, none⟩) := ev_get ((hA 0 (by decide)).trans E0_B71.out)
              clear h hA hD
              go_simp
              exact Below.refl _ _
            | 2, h =>
              obtain rfl := Option.some.inj h
              have e73 : a'.tmps[73]?.getD undef = .pointer (some ⟨p, 0, none⟩) := ev_get (hD ⟨1, .data⟩ (by simp) rfl 73 rfl)
              clear h hA hD
              go_simp
              exact Below.refl _ _
            | 3, h =>
              obtain rfl := Option.some.inj h
              have e74 : a'.tmps[74]?.getD undef = .pointer (some ⟨p, 0, none⟩) := ev_get (hD ⟨2, .data⟩ (by simp) rfl 74 rfl)
              clear h hA hD
              go_simp
              exact Below.refl _ _
            | 4, h =>
              obtain rfl := Option.some.inj h
              exact op_loadR (.tmp 75) rfl (elc_size x1) (rangeAt_below (show wb5.rangeAt p 0 (elc x1).toList from HLwb5.out.range.1) hb1 hp_wb5) (hD ⟨3, .data⟩ (by simp) rfl 75 rfl) ⟨_, rfl, Below.refl _ _, rfl, fun b h => by cases h⟩
            | 5, h =>
              obtain rfl := Option.some.inj h
              exact op_load4 (.tmp 9) rfl (HT9_wb5.out.below hb1 HT9_wb5.out.lt) ((hA 9 (by decide)).trans E9_B71.out) ⟨_, rfl, Below.refl _ _, rfl, fun b h => by cases h⟩
            | 6, h =>
              obtain rfl := Option.some.inj h
              exact op_load4 (.tmp 10) rfl (HT10_wb5.out.below hb1 HT10_wb5.out.lt) ((hA 10 (by decide)).trans E10_B71.out) ⟨_, rfl, Below.refl _ _, rfl, fun b h => by cases h⟩
            | 7, h =>
              obtain rfl := Option.some.inj h
              have e77 : a'.eval (.tmp 77) = .agg (elc da) := hD ⟨5, .data⟩ (by simp) rfl 77 rfl
              have e78 : a'.eval (.tmp 78) = .agg (elc cb) := hD ⟨6, .data⟩ (by simp) rfl 78 rfl
              go_simp
              rw [ev_get e77, ev_get e78]
              refine (CT.out w1).mono ?_
              rintro e w3 ⟨rfl, hb3⟩
              exact ⟨rfl, hb3⟩
            | 8, h =>
              obtain rfl := Option.some.inj h
              have e79 : a'.eval (.tmp 79) = .agg (elc t) := hD ⟨7, .data⟩ (by simp) rfl 79 rfl
              go_simp
              rw [ev_get e79]
              refine (CTT.out w1).mono ?_
              rintro e w3 ⟨rfl, hb3⟩
              exact ⟨rfl, hb3⟩
            | 9, h =>
              obtain rfl := Option.some.inj h
              exact op_pair (.tmp 76) (.tmp 80) rfl (hD ⟨4, .data⟩ (by simp) rfl 76 rfl) (hD ⟨8, .data⟩ (by simp) rfl 80 rfl) ⟨_, rfl, (Below.refl _ _).alloc (Nat.le_refl _) _, ⟨_, rfl, heap_alloc_new _ _, lt_alloc _ _⟩, fun b h => own_lt h _⟩
            | 10, h =>
              obtain rfl := Option.some.inj h
              obtain ⟨q, hq, hpq, _⟩ := hD ⟨9, .data⟩ (by simp) rfl 81 rfl
              have hq : a'.eval (.tmp 81) = .slice (some ⟨q, 0, none⟩) 2 2 := hq
              go_simp
              rw [ev_get hq]
              refine (CZ3.out w1 q hpq).mono ?_
              rintro e w3 ⟨rfl, hb3⟩
              exact ⟨rfl, hb3⟩
            | 11, h =>
              obtain rfl := Option.some.inj h
              have e72 : a'.tmps[72]?.getD undef = .pointer (some ⟨p, 0, none⟩) := ev_get (hD ⟨0, .data⟩ (by simp) rfl 72 rfl)
              clear h hA hD
              go_simp
              exact Below.refl _ _
            | 12, h =>
              obtain rfl := Option.some.inj h
              have e83 : a'.tmps[83]?.getD undef = .pointer (some ⟨p, 0, none⟩) := ev_get (hD ⟨11, .data⟩ (by simp) rfl 83 rfl)
              clear h hA hD
              go_simp
              exact Below.refl _ _
            | k + 13, h => simp at h
          · intro x wa6 hx hO hAp hb
            have y0 : x 0 = .pointer (some ⟨p, 0, none⟩) := hx 0 (by decide)
            have y1 : x 1 = .pointer (some ⟨p, 0, none⟩) := hx 1 (by decide)
            have y2 : x 2 = .pointer (some ⟨p, 0, none⟩) := hx 2 (by decide)
            have y3 : x 3 = .pointer (some ⟨p, 0, none⟩) := hx 3 (by decide)
            have y4 : x 4 = .agg (elc x1) := hx 4 (by decide)
            have y5 : x 5 = .agg (elc da) := hx 5 (by decide)
            have y6 : x 6 = .agg (elc cb) := hx 6 (by decide)
            have y7 : x 7 = .agg (elc t) := hx 7 (by decide)
            have y8 : x 8 = .agg (elc tt) := hx 8 (by decide)
            obtain ⟨q81, y9, hQ81, hl81⟩ := hx 9 (by decide)
            have y10 : x 10 = .agg (elc Z3) := hx 10 (by decide)
            have y11 : x 11 = .pointer (some ⟨p, 0, none⟩) := hx 11 (by decide)
            have y12 : x 12 = .pointer (some ⟨p, 16, none⟩) := hx 12 (by decide)
            have HLwa6 := Lib.hid (HLwb5.out.below hb hp_wb5)
            have HT2_wa6 := Lib.hid (HT2_wb5.out.below hb HT2_wb5.out.lt)
            have HT3_wa6 := Lib.hid (HT3_wb5.out.below hb HT3_wb5.out.lt)
            have HT4_wa6 := Lib.hid (HT4_wb5.out.below hb HT4_wb5.out.lt)
            have HT5_wa6 := Lib.hid (HT5_wb5.out.below hb HT5_wb5.out.lt)
            have HT6_wa6 := Lib.hid (HT6_wb5.out.below hb HT6_wb5.out.lt)
            have HT7_wa6 := Lib.hid (HT7_wb5.out.below hb HT7_wb5.out.lt)
            have HT8_wa6 := Lib.hid (HT8_wb5.out.below hb HT8_wb5.out.lt)
            have HT9_wa6 := Lib.hid (HT9_wb5.out.below hb HT9_wb5.out.lt)
            have HT10_wa6 := Lib.hid (HT10_wb5.out.below hb HT10_wb5.out.lt)
            have HGwa6 := Lib.hid (gb_below HGwb5.out hb)
            have hswa6 := hb.size
            have hzwa6 := HGwa6.out.size
            have hl2_wb5 := HT2_wb5.out.lt
            have hl3_wb5 := HT3_wb5.out.lt
            have hl4_wb5 := HT4_wb5.out.lt
            have hl5_wb5 := HT5_wb5.out.lt
            have hl6_wb5 := HT6_wb5.out.lt
            have hl7_wb5 := HT7_wb5.out.lt
            have hl8_wb5 := HT8_wb5.out.lt
            have hl9_wb5 := HT9_wb5.out.lt
            have hl10_wb5 := HT10_wb5.out.lt
            refine nxs hz_B71 hd_B71 (by decide) (by decide) fun A6 hz_A6 hd_A6 hIn hOut => ?_
            simp only [List.drop_succ_cons, List.drop_zero]
            have E0_A6 := Lib.hid ((hOut 0 (by decide)).trans E0_B71.out)
            have E2_A6 := Lib.hid ((hOut 2 (by decide)).trans E2_B71.out)
            have E3_A6 := Lib.hid ((hOut 3 (by decide)).trans E3_B71.out)
            have E4_A6 := Lib.hid ((hOut 4 (by decide)).trans E4_B71.out)
            have E5_A6 := Lib.hid ((hOut 5 (by decide)).trans E5_B71.out)
            have E6_A6 := Lib.hid ((hOut 6 (by decide)).trans E6_B71.out)
            have E7_A6 := Lib.hid ((hOut 7 (by decide)).trans E7_B71.out)
            have E8_A6 := Lib.hid ((hOut 8 (by decide)).trans E8_B71.out)
            have E9_A6 := Lib.hid ((hOut 9 (by decide)).trans E9_B71.out)
            have E10_A6 := Lib.hid ((hOut 10 (by decide)).trans E10_B71.out)
            have E82_A6 := Lib.hid ((hIn 10 82 rfl).trans y10)
            have E84_A6 := Lib.hid ((hIn 12 84 rfl).trans y12)
            clear hIn hOut hz_B71 hd_B71 E0_B71 E2_B71 E3_B71 E4_B71 E5_B71 E6_B71 E7_B71 E8_B71 E9_B71 E10_B71
            clear HLwb5 HGwb5 HT2_wb5 HT3_wb5 HT4_wb5 HT5_wb5 HT6_wb5 HT7_wb5 HT8_wb5 HT9_wb5 HT10_wb5
            clear hx hO hAp hb y0 y1 y2 y3 y4 y5 y6 y7 y8 y9 y10 y11 y12 hQ81 hl81
            have HLwa6s84 := Lib.hid (show LadB (wa6.setRow p (lcs x1 x2 z2 X3 Z3).toArray) p x1 x2 z2 X3 Z3 from HLwa6.out.row rfl)
            have HT2_wa6s84 := Lib.hid (show Blk4 (wa6.setRow p (lcs x1 x2 z2 X3 Z3).toArray) q2 (elc a) from HT2_wa6.out.far (by omega) _)
            have HT3_wa6s84 := Lib.hid (show Blk4 (wa6.setRow p (lcs x1 x2 z2 X3 Z3).toArray) q3 (elc b) from HT3_wa6.out.far (by omega) _)
            have HT4_wa6s84 := Lib.hid (show Blk4 (wa6.setRow p (lcs x1 x2 z2 X3 Z3).toArray) q4 (elc c) from HT4_wa6.out.far (by omega) _)
            have HT5_wa6s84 := Lib.hid (show Blk4 (wa6.setRow p (lcs x1 x2 z2 X3 Z3).toArray) q5 (elc d) from HT5_wa6.out.far (by omega) _)
            have HT6_wa6s84 := Lib.hid (show Blk4 (wa6.setRow p (lcs x1 x2 z2 X3 Z3).toArray) q6 (elc aa) from HT6_wa6.out.far (by omega) _)
            have HT7_wa6s84 := Lib.hid (show Blk4 (wa6.setRow p (lcs x1 x2 z2 X3 Z3).toArray) q7 (elc bb) from HT7_wa6.out.far (by omega) _)
            have HT8_wa6s84 := Lib.hid (show Blk4 (wa6.setRow p (lcs x1 x2 z2 X3 Z3).toArray) q8 (elc e) from HT8_wa6.out.far (by omega) _)
            have HT9_wa6s84 := Lib.hid (show Blk4 (wa6.setRow p (lcs x1 x2 z2 X3 Z3).toArray) q9 (elc da) from HT9_wa6.out.far (by omega) _)
            have HT10_wa6s84 := Lib.hid (show Blk4 (wa6.setRow p (lcs x1 x2 z2 X3 Z3).toArray) q10 (elc cb) from HT10_wa6.out.far (by omega) _)
            have HGwa6s84 := Lib.hid (show w.grownBy (wa6.setRow p (lcs x1 x2 z2 X3 Z3).toArray) (some p) from gb_rowp HGwa6.out _)
            refine wl_storeL (.tmp 84) (.tmp 82) HLwa6.out (lcs x1 x2 z2 X3 Z3) (v := Z3) (off := 16) rfl rfl rfl E84_A6.out E82_A6.out (by decide) ?_
            refine wpList_nil ?_
            show Exit.then _ _ .normal A6 _
            generalize hW6 : (wa6.setRow p (lcs x1 x2 z2 X3 Z3).toArray) = wb6 at *
            clear hW6
            have HLwb6 := HLwa6s84
            have HGwb6 := HGwa6s84
            have HT2_wb6 := HT2_wa6s84
            have HT3_wb6 := HT3_wa6s84
            have HT4_wb6 := HT4_wa6s84
            have HT5_wb6 := HT5_wa6s84
            have HT6_wb6 := HT6_wa6s84
            have HT7_wb6 := HT7_wa6s84
            have HT8_wb6 := HT8_wa6s84
            have HT9_wb6 := HT9_wa6s84
            have HT10_wb6 := HT10_wa6s84
            clear HLwa6s84 HGwa6s84 HT2_wa6s84 HT3_wa6s84 HT4_wa6s84 HT5_wa6s84 HT6_wa6s84 HT7_wa6s84 HT8_wa6s84 HT9_wa6s84 HT10_wa6s84
            go_upto_region 7 with fail
            refine wp_region_lit ?_
            have e := ev_get E0_A6.out
            refine wl_step rfl fun K hK => ?_
            go_simp
            refine hK _ _ ?_
            clear e K hK
            refine nx 85 (.pointer (some ⟨p, 0, none⟩)) hz_A6 hd_A6 (by decide) fun B85 hz_B85 hd_B85 e85 hB => ?_
            have E0_B85 := Lib.hid ((hB 0 (by decide)).trans E0_A6.out)
            have E2_B85 := Lib.hid ((hB 2 (by decide)).trans E2_A6.out)
            have E3_B85 := Lib.hid ((hB 3 (by decide)).trans E3_A6.out)
            have E4_B85 := Lib.hid ((hB 4 (by decide)).trans E4_A6.out)
            have E5_B85 := Lib.hid ((hB 5 (by decide)).trans E5_A6.out)
            have E6_B85 := Lib.hid ((hB 6 (by decide)).trans E6_A6.out)
            have E7_B85 := Lib.hid ((hB 7 (by decide)).trans E7_A6.out)
            have E8_B85 := Lib.hid ((hB 8 (by decide)).trans E8_A6.out)
            have E9_B85 := Lib.hid ((hB 9 (by decide)).trans E9_A6.out)
            have E10_B85 := Lib.hid ((hB 10 (by decide)).trans E10_A6.out)
            have E85_B85 := Lib.hid e85
            clear e85 hB hz_A6 hd_A6 E0_A6 E2_A6 E3_A6 E4_A6 E5_A6 E6_A6 E7_A6 E8_A6 E9_A6 E10_A6
            refine wl_load4 (.tmp 6) HT6_wb6.out rfl rfl E6_B85.out ?_
            refine nx 86 (.agg (elc aa)) hz_B85 hd_B85 (by decide) fun B86 hz_B86 hd_B86 e86 hB => ?_
            have E0_B86 := Lib.hid ((hB 0 (by decide)).trans E0_B85.out)
            have E2_B86 := Lib.hid ((hB 2 (by decide)).trans E2_B85.out)
            have E3_B86 := Lib.hid ((hB 3 (by decide)).trans E3_B85.out)
            have E4_B86 := Lib.hid ((hB 4 (by decide)).trans E4_B85.out)
            have E5_B86 := Lib.hid ((hB 5 (by decide)).trans E5_B85.out)
            have E6_B86 := Lib.hid ((hB 6 (by decide)).trans E6_B85.out)
            have E7_B86 := Lib.hid ((hB 7 (by decide)).trans E7_B85.out)
            have E8_B86 := Lib.hid ((hB 8 (by decide)).trans E8_B85.out)
            have E9_B86 := Lib.hid ((hB 9 (by decide)).trans E9_B85.out)
            have E10_B86 := Lib.hid ((hB 10 (by decide)).trans E10_B85.out)
            have E85_B86 := Lib.hid ((hB 85 (by decide)).trans E85_B85.out)
            have E86_B86 := Lib.hid e86
            clear e86 hB hz_B85 hd_B85 E0_B85 E2_B85 E3_B85 E4_B85 E5_B85 E6_B85 E7_B85 E8_B85 E9_B85 E10_B85 E85_B85
            refine wl_load4 (.tmp 7) HT7_wb6.out rfl rfl E7_B86.out ?_
            refine nx 87 (.agg (elc bb)) hz_B86 hd_B86 (by decide) fun B87 hz_B87 hd_B87 e87 hB => ?_
            have E0_B87 := Lib.hid ((hB 0 (by decide)).trans E0_B86.out)
            have E2_B87 := Lib.hid ((hB 2 (by decide)).trans E2_B86.out)
            have E3_B87 := Lib.hid ((hB 3 (by decide)).trans E3_B86.out)
            have E4_B87 := Lib.hid ((hB 4 (by decide)).trans E4_B86.out)
            have E5_B87 := Lib.hid ((hB 5 (by decide)).trans E5_B86.out)
            have E6_B87 := Lib.hid ((hB 6 (by decide)).trans E6_B86.out)
            have E7_B87 := Lib.hid ((hB 7 (by decide)).trans E7_B86.out)
            have E8_B87 := Lib.hid ((hB 8 (by decide)).trans E8_B86.out)
            have E9_B87 := Lib.hid ((hB 9 (by decide)).trans E9_B86.out)
            have E10_B87 := Lib.hid ((hB 10 (by decide)).trans E10_B86.out)
            have E85_B87 := Lib.hid ((hB 85 (by decide)).trans E85_B86.out)
            have E86_B87 := Lib.hid ((hB 86 (by decide)).trans E86_B86.out)
            have E87_B87 := Lib.hid e87
            clear e87 hB hz_B86 hd_B86 E0_B86 E2_B86 E3_B86 E4_B86 E5_B86 E6_B86 E7_B86 E8_B86 E9_B86 E10_B86 E85_B86 E86_B86
            refine wl_pair (.tmp 86) (.tmp 87) (X := aa) (Y := bb) rfl rfl E86_B87.out E87_B87.out ?_
            have hpr7 : PairE (wb6.alloc (.cells (elc aa ++ elc bb) 33)) wb6.heap.size aa bb := heap_alloc_new _ _
            refine nx 88 (.slice (some ⟨wb6.heap.size, 0, none⟩) 2 2) hz_B87 hd_B87 (by decide) fun B88 hz_B88 hd_B88 e88 hB => ?_
            have E0_B88 := Lib.hid ((hB 0 (by decide)).trans E0_B87.out)
            have E2_B88 := Lib.hid ((hB 2 (by decide)).trans E2_B87.out)
            have E3_B88 := Lib.hid ((hB 3 (by decide)).trans E3_B87.out)
            have E4_B88 := Lib.hid ((hB 4 (by decide)).trans E4_B87.out)
            have E5_B88 := Lib.hid ((hB 5 (by decide)).trans E5_B87.out)
            have E6_B88 := Lib.hid ((hB 6 (by decide)).trans E6_B87.out)
            have E7_B88 := Lib.hid ((hB 7 (by decide)).trans E7_B87.out)
            have E8_B88 := Lib.hid ((hB 8 (by decide)).trans E8_B87.out)
            have E9_B88 := Lib.hid ((hB 9 (by decide)).trans E9_B87.out)
            have E10_B88 := Lib.hid ((hB 10 (by decide)).trans E10_B87.out)
            have E85_B88 := Lib.hid ((hB 85 (by decide)).trans E85_B87.out)
            have E86_B88 := Lib.hid ((hB 86 (by decide)).trans E86_B87.out)
            have E87_B88 := Lib.hid ((hB 87 (by decide)).trans E87_B87.out)
            have E88_B88 := Lib.hid e88
            clear e88 hB hz_B87 hd_B87 E0_B87 E2_B87 E3_B87 E4_B87 E5_B87 E6_B87 E7_B87 E8_B87 E9_B87 E10_B87 E85_B87 E86_B87 E87_B87
            have hba := (Below.refl wb6.heap.size wb6).alloc (Nat.le_refl _) (.cells (elc aa ++ elc bb) 33)
            have HLwc7 := Lib.hid (HLwb6.out.below hba HLwb6.out.lt)
            have HT2_wc7 := Lib.hid (HT2_wb6.out.below hba HT2_wb6.out.lt)
            have HT3_wc7 := Lib.hid (HT3_wb6.out.below hba HT3_wb6.out.lt)
            have HT4_wc7 := Lib.hid (HT4_wb6.out.below hba HT4_wb6.out.lt)
            have HT5_wc7 := Lib.hid (HT5_wb6.out.below hba HT5_wb6.out.lt)
            have HT6_wc7 := Lib.hid (HT6_wb6.out.below hba HT6_wb6.out.lt)
            have HT7_wc7 := Lib.hid (HT7_wb6.out.below hba HT7_wb6.out.lt)
            have HT8_wc7 := Lib.hid (HT8_wb6.out.below hba HT8_wb6.out.lt)
            have HT9_wc7 := Lib.hid (HT9_wb6.out.below hba HT9_wb6.out.lt)
            have HT10_wc7 := Lib.hid (HT10_wb6.out.below hba HT10_wb6.out.lt)
            have HGwc7 := Lib.hid (gb_below HGwb6.out hba)
            clear HLwb6 HGwb6 HT2_wb6 HT3_wb6 HT4_wb6 HT5_wb6 HT6_wb6 HT7_wb6 HT8_wb6 HT9_wb6 HT10_wb6
            clear hba
            generalize hW : (wb6.alloc (.cells (elc aa ++ elc bb) 33)) = wc7 at *
            clear hW
            generalize hq : wb6.heap.size = qp7 at *
            clear hq
            refine wl_step rfl fun K hK => ?_
            go_simp
            rw [ev_get E88_B88.out]
            refine (CX2.out _ _ hpr7).mono ?_
            rintro _ wd7_89 ⟨rfl, hb⟩
            refine hK _ _ ?_
            clear K hK
            have HLwd7_89 := Lib.hid (HLwc7.out.below hb HLwc7.out.lt)
            have HT2_wd7_89 := Lib.hid (HT2_wc7.out.below hb HT2_wc7.out.lt)
            have HT3_wd7_89 := Lib.hid (HT3_wc7.out.below hb HT3_wc7.out.lt)
            have HT4_wd7_89 := Lib.hid (HT4_wc7.out.below hb HT4_wc7.out.lt)
            have HT5_wd7_89 := Lib.hid (HT5_wc7.out.below hb HT5_wc7.out.lt)
            have HT6_wd7_89 := Lib.hid (HT6_wc7.out.below hb HT6_wc7.out.lt)
            have HT7_wd7_89 := Lib.hid (HT7_wc7.out.below hb HT7_wc7.out.lt)
            have HT8_wd7_89 := Lib.hid (HT8_wc7.out.below hb HT8_wc7.out.lt)
            have HT9_wd7_89 := Lib.hid (HT9_wc7.out.below hb HT9_wc7.out.lt)
            have HT10_wd7_89 := Lib.hid (HT10_wc7.out.below hb HT10_wc7.out.lt)
            have HGwd7_89 := Lib.hid (gb_below HGwc7.out hb)
            clear HLwc7 HGwc7 HT2_wc7 HT3_wc7 HT4_wc7 HT5_wc7 HT6_wc7 HT7_wc7 HT8_wc7 HT9_wc7 HT10_wc7
            clear hb hpr7
            refine nx 89 (.agg (elc X2)) hz_B88 hd_B88 (by decide) fun B89 hz_B89 hd_B89 e89 hB => ?_
            have E0_B89 := Lib.hid ((hB 0 (by decide)).trans E0_B88.out)
            have E2_B89 := Lib.hid ((hB 2 (by decide)).trans E2_B88.out)
            have E3_B89 := Lib.hid ((hB 3 (by decide)).trans E3_B88.out)
            have E4_B89 := Lib.hid ((hB 4 (by decide)).trans E4_B88.out)
            have E5_B89 := Lib.hid ((hB 5 (by decide)).trans E5_B88.out)
            have E6_B89 := Lib.hid ((hB 6 (by decide)).trans E6_B88.out)
            have E7_B89 := Lib.hid ((hB 7 (by decide)).trans E7_B88.out)
            have E8_B89 := Lib.hid ((hB 8 (by decide)).trans E8_B88.out)
            have E9_B89 := Lib.hid ((hB 9 (by decide)).trans E9_B88.out)
            have E10_B89 := Lib.hid ((hB 10 (by decide)).trans E10_B88.out)
            have E85_B89 := Lib.hid ((hB 85 (by decide)).trans E85_B88.out)
            have E86_B89 := Lib.hid ((hB 86 (by decide)).trans E86_B88.out)
            have E87_B89 := Lib.hid ((hB 87 (by decide)).trans E87_B88.out)
            have E88_B89 := Lib.hid ((hB 88 (by decide)).trans E88_B88.out)
            have E89_B89 := Lib.hid e89
            clear e89 hB hz_B88 hd_B88 E0_B88 E2_B88 E3_B88 E4_B88 E5_B88 E6_B88 E7_B88 E8_B88 E9_B88 E10_B88 E85_B88 E86_B88 E87_B88 E88_B88
            have e := ev_get E85_B89.out
            refine wl_step rfl fun K hK => ?_
            go_simp
            refine hK _ _ ?_
            clear e K hK
            refine nx 90 (.pointer (some ⟨p, 0, none⟩)) hz_B89 hd_B89 (by decide) fun B90 hz_B90 hd_B90 e90 hB => ?_
            have E0_B90 := Lib.hid ((hB 0 (by decide)).trans E0_B89.out)
            have E2_B90 := Lib.hid ((hB 2 (by decide)).trans E2_B89.out)
            have E3_B90 := Lib.hid ((hB 3 (by decide)).trans E3_B89.out)
            have E4_B90 := Lib.hid ((hB 4 (by decide)).trans E4_B89.out)
            have E5_B90 := Lib.hid ((hB 5 (by decide)).trans E5_B89.out)
            have E6_B90 := Lib.hid ((hB 6 (by decide)).trans E6_B89.out)
            have E7_B90 := Lib.hid ((hB 7 (by decide)).trans E7_B89.out)
            have E8_B90 := Lib.hid ((hB 8 (by decide)).trans E8_B89.out)
            have E9_B90 := Lib.hid ((hB 9 (by decide)).trans E9_B89.out)
            have E10_B90 := Lib.hid ((hB 10 (by decide)).trans E10_B89.out)
            have E85_B90 := Lib.hid ((hB 85 (by decide)).trans E85_B89.out)
            have E86_B90 := Lib.hid ((hB 86 (by decide)).trans E86_B89.out)
            have E87_B90 := Lib.hid ((hB 87 (by decide)).trans E87_B89.out)
            have E88_B90 := Lib.hid ((hB 88 (by decide)).trans E88_B89.out)
            have E89_B90 := Lib.hid ((hB 89 (by decide)).trans E89_B89.out)
            have E90_B90 := Lib.hid e90
            clear e90 hB hz_B89 hd_B89 E0_B89 E2_B89 E3_B89 E4_B89 E5_B89 E6_B89 E7_B89 E8_B89 E9_B89 E10_B89 E85_B89 E86_B89 E87_B89 E88_B89 E89_B89
            have e := ev_get E90_B90.out
            refine wl_step rfl fun K hK => ?_
            go_simp
            refine hK _ _ ?_
            clear e K hK
            refine nx 91 (.pointer (some ⟨p, 4, none⟩)) hz_B90 hd_B90 (by decide) fun B91 hz_B91 hd_B91 e91 hB => ?_
            have E0_B91 := Lib.hid ((hB 0 (by decide)).trans E0_B90.out)
            have E2_B91 := Lib.hid ((hB 2 (by decide)).trans E2_B90.out)
            have E3_B91 := Lib.hid ((hB 3 (by decide)).trans E3_B90.out)
            have E4_B91 := Lib.hid ((hB 4 (by decide)).trans E4_B90.out)
            have E5_B91 := Lib.hid ((hB 5 (by decide)).trans E5_B90.out)
            have E6_B91 := Lib.hid ((hB 6 (by decide)).trans E6_B90.out)
            have E7_B91 := Lib.hid ((hB 7 (by decide)).trans E7_B90.out)
            have E8_B91 := Lib.hid ((hB 8 (by decide)).trans E8_B90.out)
            have E9_B91 := Lib.hid ((hB 9 (by decide)).trans E9_B90.out)
            have E10_B91 := Lib.hid ((hB 10 (by decide)).trans E10_B90.out)
            have E85_B91 := Lib.hid ((hB 85 (by decide)).trans E85_B90.out)
            have E86_B91 := Lib.hid ((hB 86 (by decide)).trans E86_B90.out)
            have E87_B91 := Lib.hid ((hB 87 (by decide)).trans E87_B90.out)
            have E88_B91 := Lib.hid ((hB 88 (by decide)).trans E88_B90.out)
            have E89_B91 := Lib.hid ((hB 89 (by decide)).trans E89_B90.out)
            have E90_B91 := Lib.hid ((hB 90 (by decide)).trans E90_B90.out)
            have E91_B91 := Lib.hid e91
            clear e91 hB hz_B90 hd_B90 E0_B90 E2_B90 E3_B90 E4_B90 E5_B90 E6_B90 E7_B90 E8_B90 E9_B90 E10_B90 E85_B90 E86_B90 E87_B90 E88_B90 E89_B90 E90_B90
            have hl2_wd7_89 := HT2_wd7_89.out.lt
            have hl3_wd7_89 := HT3_wd7_89.out.lt
            have hl4_wd7_89 := HT4_wd7_89.out.lt
            have hl5_wd7_89 := HT5_wd7_89.out.lt
            have hl6_wd7_89 := HT6_wd7_89.out.lt
            have hl7_wd7_89 := HT7_wd7_89.out.lt
            have hl8_wd7_89 := HT8_wd7_89.out.lt
            have hl9_wd7_89 := HT9_wd7_89.out.lt
            have hl10_wd7_89 := HT10_wd7_89.out.lt
            have hp_wd7_89 := HLwd7_89.out.lt
            have HLwd7_89s91 := Lib.hid (show LadB (wd7_89.setRow p (lcs x1 X2 z2 X3 Z3).toArray) p x1 X2 z2 X3 Z3 from HLwd7_89.out.row rfl)
            have HT2_wd7_89s91 := Lib.hid (show Blk4 (wd7_89.setRow p (lcs x1 X2 z2 X3 Z3).toArray) q2 (elc a) from HT2_wd7_89.out.far (by omega) _)
            have HT3_wd7_89s91 := Lib.hid (show Blk4 (wd7_89.setRow p (lcs x1 X2 z2 X3 Z3).toArray) q3 (elc b) from HT3_wd7_89.out.far (by omega) _)
            have HT4_wd7_89s91 := Lib.hid (show Blk4 (wd7_89.setRow p (lcs x1 X2 z2 X3 Z3).toArray) q4 (elc c) from HT4_wd7_89.out.far (by omega) _)
            have HT5_wd7_89s91 := Lib.hid (show Blk4 (wd7_89.setRow p (lcs x1 X2 z2 X3 Z3).toArray) q5 (elc d) from HT5_wd7_89.out.far (by omega) _)
            have HT6_wd7_89s91 := Lib.hid (show Blk4 (wd7_89.setRow p (lcs x1 X2 z2 X3 Z3).toArray) q6 (elc aa) from HT6_wd7_89.out.far (by omega) _)
            have HT7_wd7_89s91 := Lib.hid (show Blk4 (wd7_89.setRow p (lcs x1 X2 z2 X3 Z3).toArray) q7 (elc bb) from HT7_wd7_89.out.far (by omega) _)
            have HT8_wd7_89s91 := Lib.hid (show Blk4 (wd7_89.setRow p (lcs x1 X2 z2 X3 Z3).toArray) q8 (elc e) from HT8_wd7_89.out.far (by omega) _)
            have HT9_wd7_89s91 := Lib.hid (show Blk4 (wd7_89.setRow p (lcs x1 X2 z2 X3 Z3).toArray) q9 (elc da) from HT9_wd7_89.out.far (by omega) _)
            have HT10_wd7_89s91 := Lib.hid (show Blk4 (wd7_89.setRow p (lcs x1 X2 z2 X3 Z3).toArray) q10 (elc cb) from HT10_wd7_89.out.far (by omega) _)
            have HGwd7_89s91 := Lib.hid (show w.grownBy (wd7_89.setRow p (lcs x1 X2 z2 X3 Z3).toArray) (some p) from gb_rowp HGwd7_89.out _)
            refine wl_storeL (.tmp 91) (.tmp 89) HLwd7_89.out (lcs x1 X2 z2 X3 Z3) (v := X2) (off := 4) rfl rfl rfl E91_B91.out E89_B91.out (by decide) ?_
            refine wpList_nil ?_
            show Exit.then _ _ .normal B91 _
            generalize hW7 : (wd7_89.setRow p (lcs x1 X2 z2 X3 Z3).toArray) = wb7 at *
            clear hW7
            have HLwb7 := HLwd7_89s91
            have HGwb7 := HGwd7_89s91
            have HT2_wb7 := HT2_wd7_89s91
            have HT3_wb7 := HT3_wd7_89s91
            have HT4_wb7 := HT4_wd7_89s91
            have HT5_wb7 := HT5_wd7_89s91
            have HT6_wb7 := HT6_wd7_89s91
            have HT7_wb7 := HT7_wd7_89s91
            have HT8_wb7 := HT8_wd7_89s91
            have HT9_wb7 := HT9_wd7_89s91
            have HT10_wb7 := HT10_wd7_89s91
            clear HLwd7_89s91 HGwd7_89s91 HT2_wd7_89s91 HT3_wd7_89s91 HT4_wd7_89s91 HT5_wd7_89s91 HT6_wd7_89s91 HT7_wd7_89s91 HT8_wd7_89s91 HT9_wd7_89s91 HT10_wd7_89s91
            go_upto_region 8 with fail
            have hp_wb7 : p < wb7.heap.size := HLwb7.out.lt
            refine wp_region_head 13 [92, 93, 94, 95, 96, 97, 98, 99, 100, 101, 102, 103, 104] (fun i v w' => match i with
              | 0 => v = .pointer (some ⟨p, 0, none⟩)
              | 1 => v = .agg (elc e)
              | 2 => v = .agg (elc aa)
              | 3 => v = .agg (elc k)
              | 4 => v = .agg (elc e)
              | 5 => ∃ q, v = .slice (some ⟨q, 0, none⟩) 2 2 ∧ PairE w' q k e ∧ q < w'.heap.size
              | 6 => v = .agg (elc m)
              | 7 => ∃ q, v = .slice (some ⟨q, 0, none⟩) 2 2 ∧ PairE w' q aa m ∧ q < w'.heap.size
              | 8 => v = .agg (elc n)
              | 9 => ∃ q, v = .slice (some ⟨q, 0, none⟩) 2 2 ∧ PairE w' q e n ∧ q < w'.heap.size
              | 10 => v = .agg (elc Z2)
              | 11 => v = .pointer (some ⟨p, 0, none⟩)
              | 12 => v = .pointer (some ⟨p, 8, none⟩)
              | _ => True) (fun i v => if i ∈ ([5, 7, 9] : List Nat) then blkOf v else none) (by kernel_rfl) (by kernel_rfl) rfl rfl (by decide) (by rw [hz_B91.out]; decide) rfl ?_ ?_ ?_
            · intro i v w1 w2 h hb
              match i, h with
              | 0, h => exact h
              | 1, h => exact h
              | 2, h => exact h
              | 3, h => exact h
              | 4, h => exact h
              | 5, h => obtain ⟨q, h1, h2, h3⟩ := h; exact ⟨q, h1, (hb.block q h3).trans h2, Nat.lt_of_lt_of_le h3 hb.size⟩
              | 6, h => exact h
              | 7, h => obtain ⟨q, h1, h2, h3⟩ := h; exact ⟨q, h1, (hb.block q h3).trans h2, Nat.lt_of_lt_of_le h3 hb.size⟩
              | 8, h => exact h
              | 9, h => obtain ⟨q, h1, h2, h3⟩ := h; exact ⟨q, h1, (hb.block q h3).trans h2, Nat.lt_of_lt_of_le h3 hb.size⟩
              | 10, h => exact h
              | 11, h => exact h
              | 12, h => exact h
              | k + 13, h => trivial
            · intro i o h a' w1 hA hD hb1
              match i, h with
              | 0, h =>
                obtain rfl := Option.some.inj h
                have e0 : a'.tmps[0]?.getD undef = .pointer (some ⟨p, 0, none⟩) := ev_get ((hA 0 (by decide)).trans E0_B91.out)
                clear h hA hD
                go_simp
                exact Below.refl _ _
              | 1, h =>
                obtain rfl := Option.some.inj h
                exact op_load4 (.tmp 8) rfl (HT8_wb7.out.below hb1 HT8_wb7.out.lt) ((hA 8 (by decide)).trans E8_B91.out) ⟨_, rfl, Below.refl _ _, rfl, fun b h => by cases h⟩
              | 2, h =>
                obtain rfl := Option.some.inj h
                exact op_load4 (.tmp 6) rfl (HT6_wb7.out.below hb1 HT6_wb7.out.lt) ((hA 6 (by decide)).trans E6_B91.out) ⟨_, rfl, Below.refl _ _, rfl, fun b h => by cases h⟩
              | 3, h =>
                obtain rfl := Option.some.inj h
                go_simp
                refine (CK.out w1).mono ?_
                rintro e w3 ⟨rfl, hb3⟩
                exact ⟨rfl, hb3⟩
              | 4, h =>
                obtain rfl := Option.some.inj h
                exact op_load4 (.tmp 8) rfl (HT8_wb7.out.below hb1 HT8_wb7.out.lt) ((hA 8 (by decide)).trans E8_B91.out) ⟨_, rfl, Below.refl _ _, rfl, fun b h => by cases h⟩
              | 5, h =>
                obtain rfl := Option.some.inj h
                exact op_pair (.tmp 95) (.tmp 96) rfl (hD ⟨3, .data⟩ (by simp) rfl 95 rfl) (hD ⟨4, .data⟩ (by simp) rfl 96 rfl) ⟨_, rfl, (Below.refl _ _).alloc (Nat.le_refl _) _, ⟨_, rfl, heap_alloc_new _ _, lt_alloc _ _⟩, fun b h => own_lt h _⟩
              | 6, h =>
                obtain rfl := Option.some.inj h
                obtain ⟨q, hq, hpq, _⟩ := hD ⟨5, .data⟩ (by simp) rfl 97 rfl
                have hq : a'.eval (.tmp 97) = .slice (some ⟨q, 0, none⟩) 2 2 := hq
                go_simp
                rw [ev_get hq]
                refine (CM.out w1 q hpq).mono ?_
                rintro e w3 ⟨rfl, hb3⟩
                exact ⟨rfl, hb3⟩
              | 7, h =>
                obtain rfl := Option.some.inj h
                exact op_pair (.tmp 94) (.tmp 98) rfl (hD ⟨2, .data⟩ (by simp) rfl 94 rfl) (hD ⟨6, .data⟩ (by simp) rfl 98 rfl) ⟨_, rfl, (Below.refl _ _).alloc (Nat.le_refl _) _, ⟨_, rfl, heap_alloc_new _ _, lt_alloc _ _⟩, fun b h => own_lt h _⟩
              | 8, h =>
                obtain rfl := Option.some.inj h
                obtain ⟨q, hq, hpq, _⟩ := hD ⟨7, .data⟩ (by simp) rfl 99 rfl
                have hq : a'.eval (.tmp 99) = .slice (some ⟨q, 0, none⟩) 2 2 := hq
                go_simp
                rw [ev_get hq]
                refine (CN.out w1 q hpq).mono ?_
                rintro e w3 ⟨rfl, hb3⟩
                exact ⟨rfl, hb3⟩
              | 9, h =>
                obtain rfl := Option.some.inj h
                exact op_pair (.tmp 93) (.tmp 100) rfl (hD ⟨1, .data⟩ (by simp) rfl 93 rfl) (hD ⟨8, .data⟩ (by simp) rfl 100 rfl) ⟨_, rfl, (Below.refl _ _).alloc (Nat.le_refl _) _, ⟨_, rfl, heap_alloc_new _ _, lt_alloc _ _⟩, fun b h => own_lt h _⟩
              | 10, h =>
                obtain rfl := Option.some.inj h
                obtain ⟨q, hq, hpq, _⟩ := hD ⟨9, .data⟩ (by simp) rfl 101 rfl
                have hq : a'.eval (.tmp 101) = .slice (some ⟨q, 0, none⟩) 2 2 := hq
                go_simp
                rw [ev_get hq]
                refine (CZ2.out w1 q hpq).mono ?_
                rintro e w3 ⟨rfl, hb3⟩
                exact ⟨rfl, hb3⟩
              | 11, h =>
                obtain rfl := Option.some.inj h
                have e92 : a'.tmps[92]?.getD undef = .pointer (some ⟨p, 0, none⟩) := ev_get (hD ⟨0, .data⟩ (by simp) rfl 92 rfl)
                clear h hA hD
                go_simp
                exact Below.refl _ _
              | 12, h =>
                obtain rfl := Option.some.inj h
                have e103 : a'.tmps[103]?.getD undef = .pointer (some ⟨p, 0, none⟩) := ev_get (hD ⟨11, .data⟩ (by simp) rfl 103 rfl)
                clear h hA hD
                go_simp
                exact Below.refl _ _
              | k + 13, h => simp at h
            · intro x wa8 hx hO hAp hb
              have y0 : x 0 = .pointer (some ⟨p, 0, none⟩) := hx 0 (by decide)
              have y1 : x 1 = .agg (elc e) := hx 1 (by decide)
              have y2 : x 2 = .agg (elc aa) := hx 2 (by decide)
              have y3 : x 3 = .agg (elc k) := hx 3 (by decide)
              have y4 : x 4 = .agg (elc e) := hx 4 (by decide)
              obtain ⟨q97, y5, hQ97, hl97⟩ := hx 5 (by decide)
              have y6 : x 6 = .agg (elc m) := hx 6 (by decide)
              obtain ⟨q99, y7, hQ99, hl99⟩ := hx 7 (by decide)
              have y8 : x 8 = .agg (elc n) := hx 8 (by decide)
              obtain ⟨q101, y9, hQ101, hl101⟩ := hx 9 (by decide)
              have y10 : x 10 = .agg (elc Z2) := hx 10 (by decide)
              have y11 : x 11 = .pointer (some ⟨p, 0, none⟩) := hx 11 (by decide)
              have y12 : x 12 = .pointer (some ⟨p, 8, none⟩) := hx 12 (by decide)
              have HLwa8 := Lib.hid (HLwb7.out.below hb hp_wb7)
              have HT2_wa8 := Lib.hid (HT2_wb7.out.below hb HT2_wb7.out.lt)
              have HT3_wa8 := Lib.hid (HT3_wb7.out.below hb HT3_wb7.out.lt)
              have HT4_wa8 := Lib.hid (HT4_wb7.out.below hb HT4_wb7.out.lt)
              have HT5_wa8 := Lib.hid (HT5_wb7.out.below hb HT5_wb7.out.lt)
              have HT6_wa8 := Lib.hid (HT6_wb7.out.below hb HT6_wb7.out.lt)
              have HT7_wa8 := Lib.hid (HT7_wb7.out.below hb HT7_wb7.out.lt)
              have HT8_wa8 := Lib.hid (HT8_wb7.out.below hb HT8_wb7.out.lt)
              have HT9_wa8 := Lib.hid (HT9_wb7.out.below hb HT9_wb7.out.lt)
              have HT10_wa8 := Lib.hid (HT10_wb7.out.below hb HT10_wb7.out.lt)
              have HGwa8 := Lib.hid (gb_below HGwb7.out hb)
              have hswa8 := hb.size
              have hzwa8 := HGwa8.out.size
              have hl2_wb7 := HT2_wb7.out.lt
              have hl3_wb7 := HT3_wb7.out.lt
              have hl4_wb7 := HT4_wb7.out.lt
              have hl5_wb7 := HT5_wb7.out.lt
              have hl6_wb7 := HT6_wb7.out.lt
              have hl7_wb7 := HT7_wb7.out.lt
              have hl8_wb7 := HT8_wb7.out.lt
              have hl9_wb7 := HT9_wb7.out.lt
              have hl10_wb7 := HT10_wb7.out.lt
              refine nxs hz_B91 hd_B91 (by decide) (by decide) fun A8 hz_A8 hd_A8 hIn hOut => ?_
              simp only [List.drop_succ_cons, List.drop_zero]
              have E0_A8 := Lib.hid ((hOut 0 (by decide)).trans E0_B91.out)
              have E2_A8 := Lib.hid ((hOut 2 (by decide)).trans E2_B91.out)
              have E3_A8 := Lib.hid ((hOut 3 (by decide)).trans E3_B91.out)
              have E4_A8 := Lib.hid ((hOut 4 (by decide)).trans E4_B91.out)
              have E5_A8 := Lib.hid ((hOut 5 (by decide)).trans E5_B91.out)
              have E6_A8 := Lib.hid ((hOut 6 (by decide)).trans E6_B91.out)
              have E7_A8 := Lib.hid ((hOut 7 (by decide)).trans E7_B91.out)
              have E8_A8 := Lib.hid ((hOut 8 (by decide)).trans E8_B91.out)
              have E9_A8 := Lib.hid ((hOut 9 (by decide)).trans E9_B91.out)
              have E10_A8 := Lib.hid ((hOut 10 (by decide)).trans E10_B91.out)
              have E102_A8 := Lib.hid ((hIn 10 102 rfl).trans y10)
              have E104_A8 := Lib.hid ((hIn 12 104 rfl).trans y12)
              clear hIn hOut hz_B91 hd_B91 E0_B91 E2_B91 E3_B91 E4_B91 E5_B91 E6_B91 E7_B91 E8_B91 E9_B91 E10_B91
              clear HLwb7 HGwb7 HT2_wb7 HT3_wb7 HT4_wb7 HT5_wb7 HT6_wb7 HT7_wb7 HT8_wb7 HT9_wb7 HT10_wb7
              clear hx hO hAp hb y0 y1 y2 y3 y4 y5 y6 y7 y8 y9 y10 y11 y12 hQ97 hl97 hQ99 hl99 hQ101 hl101
              have HLwa8s104 := Lib.hid (show LadB (wa8.setRow p (lcs x1 X2 Z2 X3 Z3).toArray) p x1 X2 Z2 X3 Z3 from HLwa8.out.row rfl)
              have HT2_wa8s104 := Lib.hid (show Blk4 (wa8.setRow p (lcs x1 X2 Z2 X3 Z3).toArray) q2 (elc a) from HT2_wa8.out.far (by omega) _)
              have HT3_wa8s104 := Lib.hid (show Blk4 (wa8.setRow p (lcs x1 X2 Z2 X3 Z3).toArray) q3 (elc b) from HT3_wa8.out.far (by omega) _)
              have HT4_wa8s104 := Lib.hid (show Blk4 (wa8.setRow p (lcs x1 X2 Z2 X3 Z3).toArray) q4 (elc c) from HT4_wa8.out.far (by omega) _)
              have HT5_wa8s104 := Lib.hid (show Blk4 (wa8.setRow p (lcs x1 X2 Z2 X3 Z3).toArray) q5 (elc d) from HT5_wa8.out.far (by omega) _)
              have HT6_wa8s104 := Lib.hid (show Blk4 (wa8.setRow p (lcs x1 X2 Z2 X3 Z3).toArray) q6 (elc aa) from HT6_wa8.out.far (by omega) _)
              have HT7_wa8s104 := Lib.hid (show Blk4 (wa8.setRow p (lcs x1 X2 Z2 X3 Z3).toArray) q7 (elc bb) from HT7_wa8.out.far (by omega) _)
              have HT8_wa8s104 := Lib.hid (show Blk4 (wa8.setRow p (lcs x1 X2 Z2 X3 Z3).toArray) q8 (elc e) from HT8_wa8.out.far (by omega) _)
              have HT9_wa8s104 := Lib.hid (show Blk4 (wa8.setRow p (lcs x1 X2 Z2 X3 Z3).toArray) q9 (elc da) from HT9_wa8.out.far (by omega) _)
              have HT10_wa8s104 := Lib.hid (show Blk4 (wa8.setRow p (lcs x1 X2 Z2 X3 Z3).toArray) q10 (elc cb) from HT10_wa8.out.far (by omega) _)
              have HGwa8s104 := Lib.hid (show w.grownBy (wa8.setRow p (lcs x1 X2 Z2 X3 Z3).toArray) (some p) from gb_rowp HGwa8.out _)
              refine wl_storeL (.tmp 104) (.tmp 102) HLwa8.out (lcs x1 X2 Z2 X3 Z3) (v := Z2) (off := 8) rfl rfl rfl E104_A8.out E102_A8.out (by decide) ?_
              refine wpList_nil ?_
              show bodyPost _ _ _ .normal A8 _
              generalize hW8 : (wa8.setRow p (lcs x1 X2 Z2 X3 Z3).toArray) = wb8 at *
              clear hW8
              have HLwb8 := HLwa8s104
              have HGwb8 := HGwa8s104
              have HT2_wb8 := HT2_wa8s104
              have HT3_wb8 := HT3_wa8s104
              have HT4_wb8 := HT4_wa8s104
              have HT5_wb8 := HT5_wa8s104
              have HT6_wb8 := HT6_wa8s104
              have HT7_wb8 := HT7_wa8s104
              have HT8_wb8 := HT8_wa8s104
              have HT9_wb8 := HT9_wa8s104
              have HT10_wb8 := HT10_wa8s104
              clear HLwa8s104 HGwa8s104 HT2_wa8s104 HT3_wa8s104 HT4_wa8s104 HT5_wa8s104 HT6_wa8s104 HT7_wa8s104 HT8_wa8s104 HT9_wa8s104 HT10_wa8s104
              exact Go.Great.bodyPost_end0 rfl hd_A8.out ⟨rfl, HLwb8.out, HGwb8.out⟩
/-- field's sum, difference, square and product of numbers -/
def fA (u v : Nat) : Nat := (u + v) % pF
def fS (u v : Nat) : Nat := (u + (pF - v % pF)) % pF
def fQ (u : Nat) : Nat := u * u % pF
def fM (u v : Nat) : Nat := u % pF * v % pF
theorem cA {u v : Nat} (hu : F4 u) (hv : F4 v) : CP 20 u v (fA u v) := fun W q h => Sum_any q u v hu hv W h
theorem cS {u v : Nat} (hu : F4 u) (hv : F4 v) : C2 21 u v (fS u v) := fun W => Sub_any u v hu hv W
theorem cQ {u : Nat} (hu : F4 u) : C1 22 u (fQ u) := fun W => Square_any u hu W
theorem cM {u v : Nat} (hu : F4 u) (hv : F4 v) : CP 23 u v (fM u v) := fun W q h => Product_any q u v hu hv W h
theorem cO : CO 121665 := fun W => Of_any 121665 (by decide) W
theorem F4.A (u v : Nat) : F4 (fA u v) := F4.mod _
theorem F4.S (u v : Nat) : F4 (fS u v) := F4.mod _
theorem F4.Q (u : Nat) : F4 (fQ u) := F4.mod _
theorem F4.M (u v : Nat) : F4 (fM u v) := F4.mod _
/-- what a step makes of a ladder's numbers -/
def nX2 (x2 z2 : Nat) : Nat := fM (fQ (fA x2 z2)) (fQ (fS x2 z2))
def nE (x2 z2 : Nat) : Nat := fS (fQ (fA x2 z2)) (fQ (fS x2 z2))
def nZ2 (x2 z2 : Nat) : Nat := fM (nE x2 z2) (fA (fQ (fA x2 z2)) (fM 121665 (nE x2 z2)))
def nX3 (x2 z2 x3 z3 : Nat) : Nat := fQ (fA (fM (fS x3 z3) (fA x2 z2)) (fM (fA x3 z3) (fS x2 z2)))
def nZ3 (x1 x2 z2 x3 z3 : Nat) : Nat := fM x1 (fQ (fS (fM (fS x3 z3) (fA x2 z2)) (fM (fA x3 z3) (fS x2 z2))))
/-- (*curve.ladder).step -/
theorem ladstep_any (p x1 x2 z2 x3 z3 : Nat) (w : World) (h1 : F4 x1) (h2 : F4 x2) (h3 : F4 z2) (h4 : F4 x3) (h5 : F4 z3) (h : LadB w p x1 x2 z2 x3 z3) :
    Calls Try.prog 17 #[.pointer (some ⟨p, 0, none⟩)] w fun x w' => x = .returned (.tuple #[]) ∧ LadB w' p x1 (nX2 x2 z2) (nZ2 x2 z2) (nX3 x2 z2 x3 z3) (nZ3 x1 x2 z2 x3 z3) ∧ w.grownBy w' (some p) :=
  step_core p x1 x2 z2 x3 z3 (fA x2 z2) (fS x2 z2) (fA x3 z3) (fS x3 z3) (fQ (fA x2 z2)) (fQ (fS x2 z2)) (nE x2 z2) (fM (fS x3 z3) (fA x2 z2)) (fM (fA x3 z3) (fS x2 z2)) (fA (fM (fS x3 z3) (fA x2 z2)) (fM (fA x3 z3) (fS x2 z2))) (fS (fM (fS x3 z3) (fA x2 z2)) (fM (fA x3 z3) (fS x2 z2))) (fQ (fS (fM (fS x3 z3) (fA x2 z2)) (fM (fA x3 z3) (fS x2 z2)))) 121665 (fM 121665 (nE x2 z2)) (fA (fQ (fA x2 z2)) (fM 121665 (nE x2 z2))) (nX2 x2 z2) (nZ2 x2 z2) (nX3 x2 z2 x3 z3) (nZ3 x1 x2 z2 x3 z3) w h
    (cA h2 h3) (cS h2 h3) (cA h4 h5) (cS h4 h5) (cQ (F4.A _ _)) (cQ (F4.S _ _)) (cS (F4.Q _) (F4.Q _)) (cM (F4.S _ _) (F4.A _ _)) (cM (F4.A _ _) (F4.S _ _)) (cA (F4.M _ _) (F4.M _ _)) (cQ (F4.A _ _)) (cS (F4.M _ _) (F4.M _ _)) (cQ (F4.S _ _)) (cM h1 (F4.Q _)) (cM (F4.Q _) (F4.Q _)) cO (cM (by unfold F4; decide) (F4.S _ _)) (cA (F4.Q _) (F4.M _ _)) (cM (F4.S _ _) (F4.A _ _))
end Go.Proofs.Ytgpjidlomhkpeaa
