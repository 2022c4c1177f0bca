/-
  Contract of verify.analyse: the third step. Conditions: a program in form with instructions.
-/
import Derived.Test.YtkmcjjoicpgjfaaVerPlain
namespace Go.Sh
open Go Go.RowKit
set_option maxRecDepth 100000 in
theorem step_lit {P : Program} {ops : Array Oper} {o : Oper} {a : Act} {w : World} {K : Act → World → Prop} {Q : Exit → Act → World → Prop} {E : Prop} (hw : Region.wanted o (yielded ops a.tmps) = true) (t : TypeId) (parts : List (Nat × Operand)) (ho : o.op = .build t parts.toArray)
    (vals : List (Nat × Value)) (hv : (parts.map fun (i, x) => (i, a.eval x)) = vals) (cells : Array Value) (hc : P.built t vals = some cells) (h : K (a.put o.dst (.agg cells)) w) : if Region.wanted o (yielded ops a.tmps) = true then Oper.wp P o a w K Q else E := by
  rw [if_pos hw]
  subst hv
  have hc' : P.built t (parts.toArray.map fun (i, x) => (i, a.eval x)).toList = some cells := by simpa using hc
  refine wp_build t parts.toArray ho (by rw [hc']; rfl) ?_
  rw [hc']
  exact h
end Go.Sh
namespace Go.Proofs.Ytkmcjjoicpgjfaa
open Go Go.RowKit Go.Sh

theorem made_rep (v : Value) (n : Nat) : madeCells #[v] n = (List.replicate n v).toArray := by
  apply Array.ext
  · simp [madeCells]
  · intro i h1 h2
    simp [madeCells, Nat.mod_one]
set_option maxRecDepth 100000 in
theorem make_bools (W : World) (n : Nat) (hn : n ≤ 4000) : (Instr.makeSlice 31 (.int .i64 (n : Int)) (.int .i64 (n : Int))).run Try.prog W = .ok (.slice (some ⟨W.heap.size, 0, none⟩) n n) (W.alloc (.cells (tv (List.replicate n false)).toArray 4)) := by
  have h := run_make_row' (P := Try.prog) 31 4 (.bool false) 1 Try.underlying31 (by kernel_rfl) rfl .i64 .i64 n (by omega) (by omega) W
  rw [made_rep] at h
  rw [show tv (List.replicate n false) = List.replicate n (.bool false) by simp [tv]]
  exact h
set_option maxRecDepth 100000 in
theorem make_ints (W : World) (n : Nat) (hn : n ≤ 4000) : (Instr.makeSlice 30 (.int .i64 (n : Int)) (.int .i64 (n : Int))).run Try.prog W = .ok (.slice (some ⟨W.heap.size, 0, none⟩) n n) (W.alloc (.cells (iv (List.replicate n 0)).toArray 3)) := by
  have h := run_make_row' (P := Try.prog) 30 3 (.int .i64 0) 8 Try.underlying30 (by kernel_rfl) rfl .i64 .i64 n (by omega) (by omega) W
  rw [made_rep] at h
  rw [show iv (List.replicate n 0) = List.replicate n (.int .i64 0) by simp [iv]]
  exact h
/-- the cells of a search at its beginning -/
def sc0 (d : Pad) (p : Prg) (gw n : Nat) : List Value := [.slice none 0 0, .slice none 0 0, .int .i64 0] ++ (pcs d p).toList ++ [.slice (some ⟨gw, 0, none⟩) n n, .int .i64 (n : Int)]
theorem sc0_lit (d : Pad) (p : Prg) (gw n : Nat) : (sc0 d p gw n).toArray = #[.slice none 0 0, .slice none 0 0, .int .i64 0] ++ pcs d p ++ #[.slice (some ⟨gw, 0, none⟩) n n, .int .i64 (n : Int)] := by
  obtain ⟨A1, n1, k1, A2, n2, k2, A3, n3, k3, A4, n4, k4⟩ := d
  obtain ⟨_, _, _, _, v, st, k, f⟩ := p
  rfl
set_option maxRecDepth 100000 in
theorem sc0_built (d : Pad) (p : Prg) (gw n : Nat) : Try.prog.built 69 [(1, .agg (pcs d p)), (2, .slice (some ⟨gw, 0, none⟩) n n), (3, .int .i64 (n : Int))] = some (sc0 d p gw n).toArray := by
  obtain ⟨A1, n1, k1, A2, n2, k2, A3, n3, k3, A4, n4, k4⟩ := d
  obtain ⟨_, _, _, _, v, st, k, f⟩ := p
  kernel_rfl
/-- what Verify hands back: an error, or what is known of each instruction -/
def VPost (w : World) (n : Nat) (r : Int × St) (e : Ending) (w' : World) : Prop :=
  Below w.heap.size w w' ∧ ((r.1 ≠ 0 ∧ e = .returned (.tuple #[.agg #[.slice none 0 0, .slice none 0 0, .int .i64 0], .int .i64 r.1])) ∨
    (r.1 = 0 ∧ ∃ gh gt, w.heap.size ≤ gh ∧ w.heap.size ≤ gt ∧ gh ≠ gt ∧ e = .returned (.tuple #[.agg #[.slice (some ⟨gh, 0, none⟩) n n, .slice (some ⟨gt, 0, none⟩) n n, .int .i64 r.2.pk], .int .i64 0]) ∧
      w'.heap[gh]? = some (.cells (iv r.2.hs).toArray 3 (0, 0)) ∧ w'.heap[gt]? = some (.cells (tv r.2.ts).toArray 4 (0, 0)) ∧ r.2.hs.length = n ∧ r.2.ts.length = n))
theorem two_new (w : World) (o1 o2 : Obj) : ((w.alloc o1).alloc o2).heap.size = w.heap.size + 2 ∧ ((w.alloc o1).alloc o2).heap[w.heap.size]? = some o1 ∧ ((w.alloc o1).alloc o2).heap[w.heap.size + 1]? = some o2 ∧ Below w.heap.size w ((w.alloc o1).alloc o2) := by
  have h1 := heap_alloc_new w o1
  have hz : (w.alloc o1).heap.size = w.heap.size + 1 := by simp
  have h2 := heap_alloc_new (w.alloc o1) o2
  have b1 := (Below.refl w.heap.size w).alloc (Nat.le_refl _) o1
  have b2 := (Below.refl (w.heap.size + 1) (w.alloc o1)).alloc (by rw [hz]; exact Nat.le_refl _) o2
  have hz2 : ((w.alloc o1).alloc o2).heap.size = (w.alloc o1).heap.size + 1 := by simp
  rw [hz] at h2 hz2
  exact ⟨hz2, (b2.block _ (Nat.lt_succ_self _)).trans h1, h2, b1.trans (b2.mono (Nat.le_succ _))⟩
/-- heights at the beginning: the first k are -1, the rest 0 -/
def hs0 (n k : Nat) : List Int := List.replicate k (-1) ++ List.replicate (n - k) 0
theorem hs0_set (n k : Nat) (h : k < n) : (hs0 n k).set k (-1) = hs0 n (k + 1) := by
  unfold hs0
  obtain ⟨m, hm⟩ : ∃ m, n - k = m + 1 := ⟨n - k - 1, by omega⟩
  rw [hm, show n - (k + 1) = m by omega, List.set_append_right _ _ (by simp), show List.replicate (k + 1) (-1 : Int) = List.replicate k (-1) ++ [-1] from List.replicate_succ', List.append_assoc]
  simp [List.replicate_succ]
theorem hs0_zero (n : Nat) : List.replicate n 0 = hs0 n 0 := by simp [hs0]
theorem hs0_all (n : Nat) : hs0 n n = List.replicate n (-1) := by simp [hs0]
set_option maxRecDepth 100000 in
theorem born (d : Pad) (p : Prg) (w3 : World) (q gw n a b : Nat) (ws : World) (hQ : w3.heap[q]? = some (.cells (sc0 d p gw n).toArray 69 (0, 0))) (hW : w3.heap[gw]? = some (.cells (tv (List.replicate n false)).toArray 4 (0, 0))) (hz : w3.heap.size = q + 1) (hq : gw + 1 = q)
    (hws : ws = (w3.setCell ⟨q, 0, none⟩ (.slice (some ⟨a, 0, none⟩) n n)).setCell ⟨q, 1, none⟩ (.slice (some ⟨b, 0, none⟩) n n)) :
    ws.heap.size = q + 1 ∧ Below q w3 ws ∧ ws.heap[q]? = some (.cells (scs d p a b gw n ⟨hs0 n 0, List.replicate n false, List.replicate n false, n, 0⟩).toArray 69 (0, 0)) ∧ ws.heap[gw]? = some (.cells (tv (List.replicate n false)).toArray 4 (0, 0)) := by
  subst hws
  have hb : Below q w3 ((w3.setCell ⟨q, 0, none⟩ (.slice (some ⟨a, 0, none⟩) n n)).setCell ⟨q, 1, none⟩ (.slice (some ⟨b, 0, none⟩) n n)) := ((Below.refl q w3).setCell (p := ⟨q, 0, none⟩) (Nat.le_refl _) _).setCell (p := ⟨q, 1, none⟩) (Nat.le_refl _) _
  refine ⟨by simpa [World.setCell] using hz, hb, ?_, (hb.block gw (by omega)).trans hW⟩
  rw [set_blk (set_blk hQ)]
  obtain ⟨A1, n1, k1, A2, n2, k2, A3, n3, k3, A4, n4, k4⟩ := d
  obtain ⟨_, _, _, _, v, st, k, f⟩ := p
  rfl
theorem bornA (d : Pad) (p : Prg) (w3 : World) (q gw n : Nat) (hQ : w3.heap[q]? = some (.cells (sc0 d p gw n).toArray 69 (0, 0))) (hW : w3.heap[gw]? = some (.cells (tv (List.replicate n false)).toArray 4 (0, 0))) (hz : w3.heap.size = q + 1) (hq : gw + 1 = q) :
    SM (((((w3.setCell ⟨q, 0, none⟩ (.slice (some ⟨q + 1, 0, none⟩) n n)).setCell ⟨q, 1, none⟩ (.slice (some ⟨q + 1 + 1, 0, none⟩) n n)).alloc (.cells (iv (List.replicate n 0)).toArray 3)).alloc (.cells (tv (List.replicate n false)).toArray 4)).drew) d p q (q + 1) (q + 1 + 1) gw n ⟨hs0 n 0, List.replicate n false, List.replicate n false, n, 0⟩ ∧
      Below q w3 (((((w3.setCell ⟨q, 0, none⟩ (.slice (some ⟨q + 1, 0, none⟩) n n)).setCell ⟨q, 1, none⟩ (.slice (some ⟨q + 1 + 1, 0, none⟩) n n)).alloc (.cells (iv (List.replicate n 0)).toArray 3)).alloc (.cells (tv (List.replicate n false)).toArray 4)).drew) := by
  obtain ⟨hs, hb, h1, h2⟩ := born d p w3 q gw n (q + 1) (q + 1 + 1) _ hQ hW hz hq rfl
  generalize (w3.setCell ⟨q, 0, none⟩ (.slice (some ⟨q + 1, 0, none⟩) n n)).setCell ⟨q, 1, none⟩ (.slice (some ⟨q + 1 + 1, 0, none⟩) n n) = ws at *
  obtain ⟨_, k1, k2, k3⟩ := two_new ws (.cells (iv (List.replicate n 0)).toArray 3) (.cells (tv (List.replicate n false)).toArray 4)
  rw [hs] at k1 k2 k3
  exact ⟨⟨(k3.block _ (by omega)).trans h1, by rw [hs0_zero] at k1; exact k1, k2, (k3.block _ (by omega)).trans h2, by simp [hs0], by simp, by simp⟩, (hb.trans (k3.mono (by omega))).drew⟩
theorem bornB (d : Pad) (p : Prg) (w3 : World) (q gw n : Nat) (hQ : w3.heap[q]? = some (.cells (sc0 d p gw n).toArray 69 (0, 0))) (hW : w3.heap[gw]? = some (.cells (tv (List.replicate n false)).toArray 4 (0, 0))) (hz : w3.heap.size = q + 1) (hq : gw + 1 = q) :
    SM (((((w3.setCell ⟨q, 0, none⟩ (.slice (some ⟨q + 1 + 1, 0, none⟩) n n)).setCell ⟨q, 1, none⟩ (.slice (some ⟨q + 1, 0, none⟩) n n)).alloc (.cells (tv (List.replicate n false)).toArray 4)).alloc (.cells (iv (List.replicate n 0)).toArray 3)).drew) d p q (q + 1 + 1) (q + 1) gw n ⟨hs0 n 0, List.replicate n false, List.replicate n false, n, 0⟩ ∧
      Below q w3 (((((w3.setCell ⟨q, 0, none⟩ (.slice (some ⟨q + 1 + 1, 0, none⟩) n n)).setCell ⟨q, 1, none⟩ (.slice (some ⟨q + 1, 0, none⟩) n n)).alloc (.cells (tv (List.replicate n false)).toArray 4)).alloc (.cells (iv (List.replicate n 0)).toArray 3)).drew) := by
  obtain ⟨hs, hb, h1, h2⟩ := born d p w3 q gw n (q + 1 + 1) (q + 1) _ hQ hW hz hq rfl
  generalize (w3.setCell ⟨q, 0, none⟩ (.slice (some ⟨q + 1 + 1, 0, none⟩) n n)).setCell ⟨q, 1, none⟩ (.slice (some ⟨q + 1, 0, none⟩) n n) = ws at *
  obtain ⟨_, k1, k2, k3⟩ := two_new ws (.cells (tv (List.replicate n false)).toArray 4) (.cells (iv (List.replicate n 0)).toArray 3)
  rw [hs] at k1 k2 k3
  exact ⟨⟨(k3.block _ (by omega)).trans h1, by rw [hs0_zero] at k2; exact k2, k1, (k3.block _ (by omega)).trans h2, by simp [hs0], by simp, by simp⟩, (hb.trans (k3.mono (by omega))).drew⟩
def negV (v : Value) : Bool := match v with | .int _ x => decide (x < 0) | _ => false
def isT (v : Value) : Bool := match v with | .bool b => b | _ => false
/-- the measure of an analysis, out of memory -/
def mW (w : World) (gh gw : Nat) : Nat := (match w.heap[gh]? with | some (.cells cs _ _) => 2 * (cs.toList.filter negV).length | _ => 0) + (match w.heap[gw]? with | some (.cells cs _ _) => (cs.toList.filter isT).length | _ => 0)
theorem SM.mW_eq {w : World} {d : Pad} {p : Prg} {q gh gt gw n : Nat} {s : St} (h : SM w d p q gh gt gw n s) : mW w gh gw = mu s := by
  unfold mW mu negs waits
  rw [h.H, h.W]
  simp only [iv, tv, List.filter_map, List.length_map]
  rfl
set_option maxRecDepth 100000 in
theorem rep_load (W : World) (rb : Nat) (a b c : Value) (h : W.heap[rb]? = some (.cells #[a, b, c] 33 (0, 0))) : (loadVar 33 ⟨rb, 0, none⟩).run Try.prog W = .ok (.agg #[a, b, c]) W := by
  have h2 := run_loadVar_mid (P := Try.prog) W rb 0 33 [a, b, c] _ (blk_range h) Try.underlying33 rfl (by kernel_rfl)
  exact h2
theorem rep_set (W : World) (rb : Nat) (x y z a b c : Value) (h : W.heap[rb]? = some (.cells #[x, y, z] 33 (0, 0))) : (((W.setCell ⟨rb, 0, none⟩ a).setCell ⟨rb, 1, none⟩ b).setCell ⟨rb, 2, none⟩ c).heap[rb]? = some (.cells #[a, b, c] 33 (0, 0)) := by
  rw [set_blk (set_blk (set_blk h))]
  rfl
set_option maxRecDepth 100000 in
set_option maxHeartbeats 8000000 in
theorem analyse_is (d : Pad) (p : Prg) (w : World) (B : Nat) (hp : PR w B d p) (hB : B ≤ w.heap.size) (hf : Formed p) :
    Calls Try.prog 16 #[.agg (pcs d p)] w (VPost w p.code.length (anaS p)) := by
  have HL := Lib.hid (show p.code.length = d.n1 by have := hp.code.len; rw [List.length_map] at this; exact this)
  have HF := Lib.hid hf
  have hn4 : d.n1 ≤ 4000 := by rw [← HL.out]; exact hf.n1
  have hz1 : (w.alloc (.cells (pcs d p) 27)).heap.size = w.heap.size + 1 := by simp
  have hzr : ∀ W : World, (zeroValue 33).run Try.prog W = .ok (.agg #[.slice none 0 0, .slice none 0 0, .int .i64 0]) W := fun _ => by kernel_rfl
  have hb1 := (Below.refl w.heap.size w).alloc (Nat.le_refl _) (.cells (pcs d p) 27)
  have hb2 := (Below.refl (w.heap.size + 1) (w.alloc (.cells (pcs d p) 27))).alloc (by rw [hz1]; exact Nat.le_refl _) (.cells #[.slice none 0 0, .slice none 0 0, .int .i64 0] 33)
  have HB := Lib.hid (hb1.trans (hb2.mono (Nat.le_succ _)))
  have HPR := Lib.hid (hp.below (HB.out.mono hB))
  have hz2 : ((w.alloc (.cells (pcs d p) 27)).alloc (.cells #[.slice none 0 0, .slice none 0 0, .int .i64 0] 33)).heap.size = w.heap.size + 2 := by simp
  have HC := Lib.hid (show ∀ (k : Nat) v, (pcs d p)[k]? = some v → ((w.alloc (.cells (pcs d p) 27)).alloc (.cells #[.slice none 0 0, .slice none 0 0, .int .i64 0] 33)).cell? ⟨w.heap.size, k, none⟩ = some v from fun k v hv => by
    rw [hb2.cell (p := ⟨w.heap.size, k, none⟩) (Nat.lt_succ_self _), blk_cell (heap_alloc_new w _)]; exact hv)
  have hR := heap_alloc_new (w.alloc (.cells (pcs d p) 27)) (.cells #[.slice none 0 0, .slice none 0 0, .int .i64 0] 33)
  rw [hz1] at hR
  have HRB := Lib.hid hR
  have c0 := HC.out 0 (.slice d.A1 d.n1 d.c1) rfl
  have c1 := HC.out 1 (.slice d.A2 d.n2 d.c2) rfl
  have c2 := HC.out 2 (.slice d.A3 d.n3 d.c3) rfl
  have c3 := HC.out 3 (.slice d.A4 d.n4 d.c4) rfl
  have c4 := HC.out 4 (.int .i64 p.vars) rfl
  have c5 := HC.out 5 (.int .i64 p.stack) rfl
  have c6 := HC.out 6 (.int .i64 p.blocks) rfl
  have c7 := HC.out 7 (.int .i64 p.fuel) rfl
  have hps : (pcs d p).size = 8 := rfl
  have HBT := Lib.hid (fun gw => sc0_built d p gw d.n1)
  have HMB := Lib.hid (fun W : World => make_bools W d.n1 hn4)
  have HMI := Lib.hid (fun W : World => make_ints W d.n1 hn4)
  have HPX := Lib.hid (show pcs d p = #[.slice d.A1 d.n1 d.c1, .slice d.A2 d.n2 d.c2, .slice d.A3 d.n3 d.c3, .slice d.A4 d.n4 d.c4, .int .i64 p.vars, .int .i64 p.stack, .int .i64 p.blocks, .int .i64 p.fuel] from rfl)
  have hp0 := hp
  clear hp hb1 hb2 hf HC hR hz1
  obtain ⟨X, hX⟩ : ∃ X, pcs d p = X := ⟨_, rfl⟩
  have HX := Lib.hid hX
  rw [hX] at HB HPR c0 c1 c2 c3 c4 c5 c6 c7 hps hz2 HRB HBT HPX ⊢
  have hxe : ¬ X = #[] := by intro h; rw [h] at hps; cases hps
  clear hX
  rw [HL.out]
  go_enter Try.func16, Try.ntmps16
  go_wp2_with fail
  generalize (w.alloc (.cells X 27)).alloc (.cells #[.slice none 0 0, .slice none 0 0, .int .i64 0] 33) = w2 at *
  have hmb := HMB.out
  go_region_held3 (fun w' => w'.cell? ⟨w.heap.size, 0, none⟩ = some (.slice d.A1 d.n1 d.c1) ∧ w'.cell? ⟨w.heap.size, 1, none⟩ = some (.slice d.A2 d.n2 d.c2) ∧ w'.cell? ⟨w.heap.size, 2, none⟩ = some (.slice d.A3 d.n3 d.c3) ∧ w'.cell? ⟨w.heap.size, 3, none⟩ = some (.slice d.A4 d.n4 d.c4) ∧ w'.cell? ⟨w.heap.size, 4, none⟩ = some (.int .i64 p.vars) ∧ w'.cell? ⟨w.heap.size, 5, none⟩ = some (.int .i64 p.stack) ∧ w'.cell? ⟨w.heap.size, 6, none⟩ = some (.int .i64 p.blocks) ∧ w'.cell? ⟨w.heap.size, 7, none⟩ = some (.int .i64 p.fuel)) (go_keep) (first
    | (refine step_lit (by rfl) 69 [(1, .tmp 13), (2, .tmp 15), (3, .tmp 16)] (by rfl) [(1, .agg X), (2, .slice (some ⟨_, 0, none⟩) d.n1 d.n1), (3, .int .i64 (d.n1 : Int))] (by rw [HPX.out]; rfl) _ (HBT.out _) ?_))
  obtain ⟨hz3, hW3, hQ3, hB3⟩ := two_new w2 (.cells (tv (List.replicate d.n1 false)).toArray 4) (.cells #[.slice none 0 0, .slice none 0 0, .int .i64 0, .slice d.A1 d.n1 d.c1, .slice d.A2 d.n2 d.c2, .slice d.A3 d.n3 d.c3, .slice d.A4 d.n4 d.c4, .int .i64 p.vars, .int .i64 p.stack, .int .i64 p.blocks, .int .i64 p.fuel, .slice (some ⟨w.heap.size + 2, 0, none⟩) d.n1 d.n1, .int .i64 (d.n1 : Int)] 69)
  have HR3 := Lib.hid ((hB3.block (w.heap.size + 1) (by rw [hz2]; omega)).trans HRB.out)
  have HB3 := Lib.hid ((HB.out.trans (hB3.mono (by rw [hz2]; omega))).drew)
  rename_i hHeld
  clear hmb hHeld c0 c1 c2 c3 c4 c5 c6 c7
  rw [hz2] at hz3 hW3 hQ3
  obtain ⟨w3, hw3⟩ : ∃ w3, w3 = World.drew ((w2.alloc (.cells (tv (List.replicate d.n1 false)).toArray 4)).alloc (.cells #[.slice none 0 0, .slice none 0 0, .int .i64 0, .slice d.A1 d.n1 d.c1, .slice d.A2 d.n2 d.c2, .slice d.A3 d.n3 d.c3, .slice d.A4 d.n4 d.c4, .int .i64 p.vars, .int .i64 p.stack, .int .i64 p.blocks, .int .i64 p.fuel, .slice (some ⟨w.heap.size + 2, 0, none⟩) d.n1 d.n1, .int .i64 (d.n1 : Int)] 69)) := ⟨_, rfl⟩
  have HW3 := (show w3.heap[w.heap.size + 2]? = _ from congrArg (fun W : World => W.heap[w.heap.size + 2]?) hw3).trans hW3
  have HQ3 := (show w3.heap[w.heap.size + 2 + 1]? = _ from congrArg (fun W : World => W.heap[w.heap.size + 2 + 1]?) hw3).trans hQ3
  have hz4 := (show w3.heap.size = _ from congrArg (fun W : World => W.heap.size) hw3).trans hz3
  have HR4 := (show w3.heap[w.heap.size + 1]? = _ from congrArg (fun W : World => W.heap[w.heap.size + 1]?) hw3).trans HR3.out
  have HB4 := Lib.hid (show Below w.heap.size w w3 by rw [hw3]; exact HB3.out)
  rw [← hw3]
  clear hw3 hW3 hQ3 hz3 HR3 HB3 hB3 HRB HPR HB hz2
  obtain ⟨gw, hgw⟩ : ∃ gw, w.heap.size + 2 = gw := ⟨_, rfl⟩
  obtain ⟨q, hq⟩ : ∃ q, gw + 1 = q := ⟨_, rfl⟩
  obtain ⟨rb, hrb⟩ : ∃ rb, w.heap.size + 1 = rb := ⟨_, rfl⟩
  rw [hgw] at HW3 HQ3 hz4 ⊢
  rw [hq] at HQ3 ⊢
  rw [hrb] at HR4 ⊢
  have HPR := Lib.hid (hp0.below (HB4.out.mono hB))
  have q0 : w3.cell? ⟨q, 0, none⟩ = some (.slice none 0 0) := by rw [blk_cell HQ3]; rfl
  have q1 : w3.cell? ⟨q, 1, none⟩ = some (.slice none 0 0) := by rw [blk_cell HQ3]; rfl
  have f0 : w3.frozen? ⟨q, 0, none⟩ = false := frozen_of_row _ _ _ _ _ HQ3
  have f1 : w3.frozen? ⟨q, 1, none⟩ = false := frozen_of_row _ _ _ _ _ HQ3
  have HQ4 := Lib.hid HQ3
  have HW4 := Lib.hid HW3
  have HR5 := Lib.hid HR4
  have hz5 : w3.heap.size = q + 1 := by omega
  clear HQ3 HW3 HR4 hz4 hp0
  have hmb := HMB.out
  have hmi := HMI.out
  have l0 : q < w3.heap.size := by omega
  have n0 : ¬ q = w3.heap.size := by omega
  go_wp2_with fail
  go_region_held3 (fun w' => True) (trivial) (first | fail)
  all_goals
    clear hmb hmi q0 q1 f0 f1 n0
    rename_i hHeld
    clear hHeld
    first
      | (obtain ⟨hsm, hbo⟩ := bornA d p w3 q gw d.n1 (HQ4.out.trans (by rw [sc0_lit, HX.out, HPX.out]; rfl)) HW4.out hz5 hq
         have HA := Lib.hid (show Apt gw q (q + 1) (q + 1 + 1) gw from ⟨by omega, by omega, by omega, by omega, by omega, by omega, by omega, by omega, by omega, by omega⟩)
         have HA5 := Lib.hid (show w.heap.size ≤ q + 1 ∧ w.heap.size ≤ q + 1 + 1 by omega)
         change Exit.then _ _ _ _ (((((w3.setCell ⟨q, 0, none⟩ (.slice (some ⟨q + 1, 0, none⟩) d.n1 d.n1)).setCell ⟨q, 1, none⟩ (.slice (some ⟨q + 1 + 1, 0, none⟩) d.n1 d.n1)).alloc (.cells (iv (List.replicate d.n1 0)).toArray 3)).alloc (.cells (tv (List.replicate d.n1 false)).toArray 4)).drew)
         generalize ((((w3.setCell ⟨q, 0, none⟩ (.slice (some ⟨q + 1, 0, none⟩) d.n1 d.n1)).setCell ⟨q, 1, none⟩ (.slice (some ⟨q + 1 + 1, 0, none⟩) d.n1 d.n1)).alloc (.cells (iv (List.replicate d.n1 0)).toArray 3)).alloc (.cells (tv (List.replicate d.n1 false)).toArray 4)).drew = w4 at *
         obtain ⟨gt, hgt⟩ : ∃ gt, q + 1 + 1 = gt := ⟨_, rfl⟩
         rw [hgt] at hsm HA HA5 ⊢
         obtain ⟨gh, hgh⟩ : ∃ gh, q + 1 = gh := ⟨_, rfl⟩
         rw [hgh] at hsm HA HA5 ⊢
         clear hgt hgh)
      | (obtain ⟨hsm, hbo⟩ := bornB d p w3 q gw d.n1 (HQ4.out.trans (by rw [sc0_lit, HX.out, HPX.out]; rfl)) HW4.out hz5 hq
         have HA := Lib.hid (show Apt gw q (q + 1 + 1) (q + 1) gw from ⟨by omega, by omega, by omega, by omega, by omega, by omega, by omega, by omega, by omega, by omega⟩)
         have HA5 := Lib.hid (show w.heap.size ≤ q + 1 + 1 ∧ w.heap.size ≤ q + 1 by omega)
         change Exit.then _ _ _ _ (((((w3.setCell ⟨q, 0, none⟩ (.slice (some ⟨q + 1 + 1, 0, none⟩) d.n1 d.n1)).setCell ⟨q, 1, none⟩ (.slice (some ⟨q + 1, 0, none⟩) d.n1 d.n1)).alloc (.cells (tv (List.replicate d.n1 false)).toArray 4)).alloc (.cells (iv (List.replicate d.n1 0)).toArray 3)).drew)
         generalize ((((w3.setCell ⟨q, 0, none⟩ (.slice (some ⟨q + 1 + 1, 0, none⟩) d.n1 d.n1)).setCell ⟨q, 1, none⟩ (.slice (some ⟨q + 1, 0, none⟩) d.n1 d.n1)).alloc (.cells (tv (List.replicate d.n1 false)).toArray 4)).alloc (.cells (iv (List.replicate d.n1 0)).toArray 3)).drew = w4 at *
         obtain ⟨gh, hgh⟩ : ∃ gh, q + 1 + 1 = gh := ⟨_, rfl⟩
         rw [hgh] at hsm HA HA5 ⊢
         obtain ⟨gt, hgt⟩ : ∃ gt, q + 1 = gt := ⟨_, rfl⟩
         rw [hgt] at hsm HA HA5 ⊢
         clear hgt hgh)
    have HM := Lib.hid hsm
    have HBO := Lib.hid (hbo.mono (show gw ≤ q by omega))
    have c0 := hsm.c0
    clear hsm hbo
    go_wp2_with fail
    go_loopw [6, 37] (fun _ i wr => ∃ k : Nat, k ≤ d.n1 ∧ i = .int .i64 (k : Int) ∧ SM wr d p q gh gt gw d.n1 ⟨hs0 d.n1 k, List.replicate d.n1 false, List.replicate d.n1 false, d.n1, 0⟩ ∧ Below gw w3 wr) (fun _ i _ => d.n1 - (intOf i).toNat)
    case' atStart => exact ⟨0, by omega, rfl, HM.out, HBO.out⟩
    case' round =>
      obtain ⟨k, hk, rfl, hm, hb⟩ := hrel
      have HMr := Lib.hid hm
      have HBr := Lib.hid hb
      clear hm hb c0
      have c0 := HMr.out.c0
      by_cases hlt : k < d.n1
      · have dk : (k : Int) < (d.n1 : Int) := by omega
        have ch := HMr.out.ch hlt
        have fh : wr.frozen? ⟨gh, k, none⟩ = false := frozen_of_row _ _ _ _ _ HMr.out.H
        go_wp2_with fail
        have hm2 := HMr.out.setH HA.out k (-1)
        simp only [hs0_set _ _ hlt] at hm2
        exact ⟨⟨k + 1, by omega, by go_num, hm2, HBr.out.setCell (p := ⟨gh, k, none⟩) HA.out.lh _⟩, by simp [intOf]; omega⟩
      · have hkn : k = d.n1 := by omega
        have HM1 := Lib.hid (show SM wr d p q gh gt gw d.n1 (st0 d.n1) by have h := HMr.out; rw [hkn, hs0_all] at h; exact h)
        rw [hkn]
        clear hkn hlt hk HMr
        obtain ⟨r0, hr0⟩ : ∃ r0, findS d.n1 (st0 d.n1) 0 0 false = r0 := ⟨_, rfl⟩
        have HF0 := Lib.hid (hr0 ▸ findS_good (st0_good d.n1) 0 0 false (by decide) (by decide))
        have HFC := Lib.hid (hr0 ▸ find_is d p gw q gh gt gw d.n1 (st0 d.n1) 0 0 false wr HM1.out HA.out)
        have HAN := Lib.hid (show anaS p = if r0.1 = 0 then goS p d.n1 (3 * d.n1 + 1) r0.2 else r0 by unfold anaS thenS; rw [HL.out, hr0])
        have hmu := mu_st0 d.n1
        clear hr0
        obtain ⟨e0, s0⟩ := r0
        go_wp2_with fail
        refine HFC.out.mono ?_
        rintro e w5 ⟨rfl, hm5, hb5, _⟩
        have HM5 := Lib.hid hm5
        have HB5 := Lib.hid (HBr.out.trans hb5)
        have HR6 := Lib.hid ((HB5.out.block rb (by omega)).trans HR5.out)
        clear hm5 hb5 HFC c0 HM1 HBr
        try simp only at HF0 HAN HM5
        have r0 : w5.cell? ⟨rb, 0, none⟩ = some (.slice none 0 0) := by rw [blk_cell HR6.out]; rfl
        have r1 : w5.cell? ⟨rb, 1, none⟩ = some (.slice none 0 0) := by rw [blk_cell HR6.out]; rfl
        have r2 : w5.cell? ⟨rb, 2, none⟩ = some (.int .i64 0) := by rw [blk_cell HR6.out]; rfl
        have g0 : w5.frozen? ⟨rb, 0, none⟩ = false := frozen_of_row _ _ _ _ _ HR6.out
        have g1 : w5.frozen? ⟨rb, 1, none⟩ = false := frozen_of_row _ _ _ _ _ HR6.out
        have g2 : w5.frozen? ⟨rb, 2, none⟩ = false := frozen_of_row _ _ _ _ _ HR6.out
        by_cases he : e0 = 0
        · subst he
          have HGO := Lib.hid (show anaS p = goS p d.n1 (3 * d.n1 + 1) s0 by rw [HAN.out, if_pos rfl])
          clear HAN r0 r1 r2 g0 g1 g2
          try simp only
          go_wp2_with fail
          refine (next_is d p gw q gh gt gw d.n1 s0 w5 HM5.out HA.out HF0.out.1.fs hn4).mono ?_
          rintro e w6 ⟨rfl, hm6, hb6⟩
          have HM6 := Lib.hid hm6
          have HB6 := Lib.hid (HB5.out.trans hb6)
          clear hm6 hb6 HB5 HM5
          go_wp2_with fail
          go_loopw [8, 9] (fun v _ wr => ∃ (s : St) (f : Nat), v = .int .i64 (nxI d.n1 (nextS d.n1 s)) ∧ SM wr d p q gh gt gw d.n1 (nextS d.n1 s).2 ∧ Good d.n1 s ∧ Below gw w3 wr ∧ anaS p = goS p d.n1 f s ∧ mu s < f) (fun v _ wr => 2 * mW wr gh gw + (if 0 ≤ intOf v then 1 else 0))
          case' atStart => exact ⟨s0, _, rfl, HM6.out, HF0.out.1, HB6.out, HGO.out, by have := HF0.out.2; omega⟩
          case' round =>
            obtain ⟨s, f, rfl, hm, hg, hb, hgo, hmf⟩ := hrel
            have HMr := Lib.hid hm
            have HBr := Lib.hid hb
            obtain ⟨f, rfl⟩ : ∃ f2, f = f2 + 1 := ⟨f - 1, by omega⟩
            have hng := nextS_good hg
            rw [goS] at hgo
            obtain ⟨ns, hns⟩ : ∃ ns, nextS d.n1 s = ns := ⟨_, rfl⟩
            rw [hns] at hgo hng HMr ⊢
            have hmw := HMr.out.mW_eq
            obtain ⟨x, s2⟩ := ns
            simp only at hgo hng HMr hmw
            have HNG := Lib.hid hng
            have HGR := Lib.hid hgo
            clear hm hb hng hgo hns HM6 HB6 HGO
            by_cases hx : x < d.n1
            · have hnx : nxI d.n1 (x, s2) = (x : Int) := by unfold nxI; rw [if_pos hx]
              have hng := HNG.out
              rw [if_pos hx] at hng
              have hgo := HGR.out
              rw [if_pos hx] at hgo
              rw [hnx]
              have hx0 : (0 : Int) ≤ (x : Int) := by omega
              obtain ⟨r3, hr3⟩ : ∃ r3, procS p d.n1 s2 x = r3 := ⟨_, rfl⟩
              have hpg := procS_good HF.out hng.1 HL.out x hx
              rw [hr3] at hgo hpg
              have HNG2 := Lib.hid hng
              have HPG := Lib.hid hpg
              have HGR2 := Lib.hid hgo
              have HPC := Lib.hid (hr3 ▸ process_is d p gw B q gh gt gw d.n1 s2 x wr HMr.out HA.out (HPR.out.code.below (HBr.out.mono (by omega))) rfl hx hn4 HF.out (hng.1.hh x hx))
              clear hr3 hng hpg hgo HNG HGR hnx
              go_wp2_with fail
              obtain ⟨e3, s3⟩ := r3
              try simp only at HPG HGR2 HPC
              refine HPC.out.mono ?_
              rintro e w7 ⟨rfl, hm7, hb7⟩
              have HM7 := Lib.hid hm7
              have HB7 := Lib.hid (HBr.out.trans hb7)
              clear hm7 hb7 HPC HMr HBr
              by_cases he3 : e3 = 0
              · subst he3
                have HG3 := Lib.hid (show anaS p = goS p d.n1 f s3 by rw [HGR2.out, thenS_ok])
                clear HGR2
                try simp only
                go_wp2_with fail
                refine (next_is d p gw q gh gt gw d.n1 s3 w7 HM7.out HA.out HPG.out.1.fs hn4).mono ?_
                rintro e w8 ⟨rfl, hm8, hb8⟩
                have HM8 := Lib.hid hm8
                have HB8 := Lib.hid (HB7.out.trans hb8)
                clear hm8 hb8 HB7 HM7
                go_wp2_with fail
                refine ⟨⟨s3, f, rfl, HM8.out, HPG.out.1, HB8.out, HG3.out, by have := HPG.out.2; have := HNG2.out.2; omega⟩, ?_⟩
                have hn3 := (nextS_good HPG.out.1).2
                have hp2 := HPG.out.2
                rw [hmw, HM8.out.mW_eq]
                unfold nxI
                generalize nextS d.n1 s3 = n3 at *
                by_cases h3 : n3.1 < d.n1
                · rw [if_pos h3] at hn3 ⊢
                  rw [if_pos (show (0 : Int) ≤ intOf (.int .i64 (n3.1 : Int)) by show (0 : Int) ≤ (n3.1 : Int); omega), if_pos (show (0 : Int) ≤ intOf (.int .i64 (x : Int)) by show (0 : Int) ≤ (x : Int); omega)]
                  omega
                · rw [if_neg h3] at hn3 ⊢
                  rw [if_neg (show ¬ (0 : Int) ≤ intOf (.int .i64 (-1)) by show ¬ (0 : Int) ≤ -1; decide), if_pos (show (0 : Int) ≤ intOf (.int .i64 (x : Int)) by show (0 : Int) ≤ (x : Int); omega)]
                  omega
              · have hbe : (e3 == (0 : Int)) = false := by rw [beq_eq_false_iff_ne]; exact he3
                have HRE := Lib.hid (show anaS p = (e3, s3) by rw [HGR2.out, thenS_err he3])
                clear HGR2
                have HR7 := Lib.hid ((HB7.out.block rb (by omega)).trans HR5.out)
                have r0 : w7.cell? ⟨rb, 0, none⟩ = some (.slice none 0 0) := by rw [blk_cell HR7.out]; rfl
                have r1 : w7.cell? ⟨rb, 1, none⟩ = some (.slice none 0 0) := by rw [blk_cell HR7.out]; rfl
                have r2 : w7.cell? ⟨rb, 2, none⟩ = some (.int .i64 0) := by rw [blk_cell HR7.out]; rfl
                have g0 : w7.frozen? ⟨rb, 0, none⟩ = false := frozen_of_row _ _ _ _ _ HR7.out
                have g1 : w7.frozen? ⟨rb, 1, none⟩ = false := frozen_of_row _ _ _ _ _ HR7.out
                have g2 : w7.frozen? ⟨rb, 2, none⟩ = false := frozen_of_row _ _ _ _ _ HR7.out
                try simp only
                go_wp2_with fail
                (try simp only [Exit.inBlock, Exit.then])
                refine bodyPost_ret (v := .tuple #[.agg #[.slice none 0 0, .slice none 0 0, .int .i64 0], .int .i64 e3]) (by rw [results_ct Try.results16 _ _ _ ⟨rb, 0, none⟩ _ rfl (rep_load _ _ _ _ _ (rep_set _ _ _ _ _ _ _ _ HR7.out))]; rfl) rfl ?_
                exact ⟨(((HB4.out.trans (HB7.out.mono (by omega))).setCell (p := ⟨rb, 0, none⟩) (by show _ ≤ rb; omega) _).setCell (p := ⟨rb, 1, none⟩) (by show _ ≤ rb; omega) _).setCell (p := ⟨rb, 2, none⟩) (by show _ ≤ rb; omega) _, .inl ⟨by rw [HRE.out]; exact he3, by rw [HRE.out]⟩⟩
            · have hnx : nxI d.n1 (x, s2) = -1 := by unfold nxI; rw [if_neg hx]
              have hgo := HGR.out
              rw [if_neg hx] at hgo
              have HRE := Lib.hid hgo
              rw [hnx]
              have c0 := HMr.out.c0
              have c1 := HMr.out.c1
              have c2 := HMr.out.c2
              have HR6 := Lib.hid ((HBr.out.block rb (by omega)).trans HR5.out)
              have r0 : wr.cell? ⟨rb, 0, none⟩ = some (.slice none 0 0) := by rw [blk_cell HR6.out]; rfl
              have r1 : wr.cell? ⟨rb, 1, none⟩ = some (.slice none 0 0) := by rw [blk_cell HR6.out]; rfl
              have r2 : wr.cell? ⟨rb, 2, none⟩ = some (.int .i64 0) := by rw [blk_cell HR6.out]; rfl
              have g0 : wr.frozen? ⟨rb, 0, none⟩ = false := frozen_of_row _ _ _ _ _ HR6.out
              have g1 : wr.frozen? ⟨rb, 1, none⟩ = false := frozen_of_row _ _ _ _ _ HR6.out
              have g2 : wr.frozen? ⟨rb, 2, none⟩ = false := frozen_of_row _ _ _ _ _ HR6.out
              have hlw := HMr.out.lh
              have hlt := HMr.out.lt
              clear hgo HGR hmw hmf
              go_wp2_with fail
              (try simp only [Exit.inBlock, Exit.then])
              refine bodyPost_ret (v := .tuple #[.agg #[.slice (some ⟨gh, 0, none⟩) d.n1 d.n1, .slice (some ⟨gt, 0, none⟩) d.n1 d.n1, .int .i64 s2.pk], .int .i64 0]) (by rw [results_ct Try.results16 _ _ _ ⟨rb, 0, none⟩ _ rfl (rep_load _ _ _ _ _ (rep_set _ _ _ _ _ _ _ _ HR6.out))]; rfl) rfl ?_
              have hge := HA.out
              have hag := HA5.out
              refine ⟨(((HB4.out.trans (HBr.out.mono (by omega))).setCell (p := ⟨rb, 0, none⟩) (by show _ ≤ rb; omega) _).setCell (p := ⟨rb, 1, none⟩) (by show _ ≤ rb; omega) _).setCell (p := ⟨rb, 2, none⟩) (by show _ ≤ rb; omega) _, .inr ?_⟩
              rw [HRE.out]
              have fh : ∀ c : Nat, gw ≤ c → c ≠ rb := fun c hc => by omega
              exact ⟨rfl, gh, gt, hag.1, hag.2, hge.ht, rfl, (far_blk (fh _ hge.lh)).trans ((far_blk (fh _ hge.lh)).trans ((far_blk (fh _ hge.lh)).trans HMr.out.H)), (far_blk (fh _ hge.lt)).trans ((far_blk (fh _ hge.lt)).trans ((far_blk (fh _ hge.lt)).trans HMr.out.T)), hlw, hlt⟩
        · have hbe : (e0 == (0 : Int)) = false := by rw [beq_eq_false_iff_ne]; exact he
          have HRE := Lib.hid (show anaS p = (e0, s0) by rw [HAN.out, if_neg he])
          clear HAN
          try simp only
          go_wp2_with fail
          (try simp only [Exit.inBlock, Exit.then])
          refine bodyPost_ret (v := .tuple #[.agg #[.slice none 0 0, .slice none 0 0, .int .i64 0], .int .i64 e0]) (by rw [results_ct Try.results16 _ _ _ ⟨rb, 0, none⟩ _ rfl (rep_load _ _ _ _ _ (rep_set _ _ _ _ _ _ _ _ HR6.out))]; rfl) rfl ?_
          exact ⟨(((HB4.out.trans (HB5.out.mono (by omega))).setCell (p := ⟨rb, 0, none⟩) (by show _ ≤ rb; omega) _).setCell (p := ⟨rb, 1, none⟩) (by show _ ≤ rb; omega) _).setCell (p := ⟨rb, 2, none⟩) (by show _ ≤ rb; omega) _, .inl ⟨by rw [HRE.out]; exact he, by rw [HRE.out]⟩⟩
end Go.Proofs.Ytkmcjjoicpgjfaa
