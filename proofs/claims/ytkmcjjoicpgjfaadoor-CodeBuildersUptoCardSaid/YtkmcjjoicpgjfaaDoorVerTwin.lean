/-
  Contract of shallotref18.Twin: a program of its own that reads as the one handed in. Conditions: the sizes that slices can have.
-/
import Derived.Test.YtkmcjjoicpgjfaaDoorVerOwn
namespace Go.Proofs.YtkmcjjoicpgjfaaDoor
open Go Go.RowKit Go.Sh

theorem RR.reads {w : World} {B size n : Nat} {A : Option Addr} {css : List (List Value)} (h : RR w B size A n css) (hs : 0 < size) : Reads w B size A n css.flatten := by
  obtain ⟨h1, h2, h3⟩ := h
  refine ⟨by rw [flat_len h2, h1], ?_⟩
  rcases h3 with rfl | ⟨b, off, rfl, hb, hr⟩
  · exact .inl rfl
  · refine .inr ⟨_, rfl, hb, fun j hj => ?_⟩
    rw [flat_len h2] at hj
    have hi : j / size < css.length := Nat.div_lt_of_lt_mul (by rw [Nat.mul_comm]; exact hj)
    obtain ⟨cs, hc⟩ : ∃ cs, css[j / size]? = some cs := ⟨_, List.getElem?_eq_getElem hi⟩
    have hl := h2 cs (List.mem_of_getElem? hc)
    have hm : j % size < cs.length := by rw [hl]; exact Nat.mod_lt _ hs
    have hv : cs[j % size]? = some cs[j % size] := List.getElem?_eq_getElem hm
    have hd : j = j / size * size + j % size := by rw [Nat.mul_comm]; exact (Nat.div_add_mod j size).symm
    have hf := flat_at h2 _ cs hc _ _ hv
    have hcell := hr _ cs hc _ _ hv
    rw [← hd] at hf
    rw [add_mk, hf, ← hcell, Nat.add_assoc, ← hd]
theorem flat_one {css : List (List Value)} (h : ∀ cs ∈ css, ∀ u ∈ cs, u.oneCell' = true) : ∀ u ∈ css.flatten, u.oneCell' = true := by
  intro u hu
  obtain ⟨cs, hc, hm⟩ := List.mem_flatten.1 hu
  exact h cs hc u hm
theorem ins_one (l : List Ins) : ∀ u ∈ (l.map Ins.cells).flatten, u.oneCell' = true := flat_one fun cs hc u hu => by
  obtain ⟨x, _, rfl⟩ := List.mem_map.1 hc
  simp only [Ins.cells, List.mem_cons, List.not_mem_nil, or_false] at hu
  rcases hu with rfl | rfl | rfl <;> rfl
theorem spv_one (l : List Sp) : ∀ u ∈ spv l, u.oneCell' = true := flat_one fun cs hc u hu => by
  obtain ⟨x, _, rfl⟩ := List.mem_map.1 hc
  simp only [Sp.cells, List.mem_cons, List.not_mem_nil, or_false] at hu
  rcases hu with rfl | rfl | rfl <;> rfl
theorem iv_one1 (l : List Int) : ∀ u ∈ iv l, u.oneCell' = true := by
  intro u hu
  obtain ⟨x, _, rfl⟩ := List.mem_map.1 hu
  rfl
set_option maxRecDepth 100000 in
theorem TIn : STy Tryd.prog 22 33 (.agg #[.int .u8 0, .int .i64 0, .int .i64 0]) 3 24 := ⟨Tryd.underlying22, by kernel_rfl, rfl, by decide⟩
set_option maxRecDepth 100000 in
theorem TSt : STy Tryd.prog 40 66 (.agg #[.string .empty, .int .i64 0, .int .i64 0]) 3 32 := ⟨Tryd.underlying40, by kernel_rfl, rfl, by decide⟩
set_option maxRecDepth 100000 in
theorem TSS : STy Tryd.prog 27 40 (.slice none 0 0) 1 24 := ⟨Tryd.underlying27, by kernel_rfl, rfl, by decide⟩
set_option maxRecDepth 100000 in
theorem TSp : STy Tryd.prog 28 43 (.agg #[.int .i64 0, .slice none 0 0, .int .i64 0]) 3 40 := ⟨Tryd.underlying28, by kernel_rfl, rfl, by decide⟩
set_option maxRecDepth 100000 in
theorem TIt : STy Tryd.prog 41 3 (.int .i64 0) 1 8 := ⟨Tryd.underlying41, by kernel_rfl, rfl, by decide⟩
theorem own_set {w : World} {base size n b k : Nat} {e : TypeId} {v x : Value} {xs : List Value} (h : w.ownsRow base e size v n xs) (hb : b < base) : (w.setCell ⟨b, k, none⟩ x).ownsRow base e size v n xs := by
  refine ⟨h.1, ?_⟩
  rcases h.2 with hn | ⟨g, cap, cur, hv, hg, hh, rest⟩
  · exact .inl hn
  · exact .inr ⟨g, cap, cur, hv, hg, (far_blk (by omega)).trans hh, rest⟩
theorem own_set_obb {w : World} {base e t m b k : Nat} {v x : Value} {ls : List (List UInt8)} (h : OBB w base e t v m ls) (hb : b < base) : OBB (w.setCell ⟨b, k, none⟩ x) base e t v m ls := by
  obtain ⟨h1, vs, ho, hi⟩ := h
  refine ⟨h1, vs, own_set ho hb, fun i hin => ?_⟩
  obtain ⟨Ai, ni, ci, hv, hin⟩ := hi i hin
  exact ⟨Ai, ni, ci, hv, own_set hin hb⟩
theorem own_set_rt {w : World} {base m b k : Nat} {v x : Value} {rs : List (List Sp)} {vs : List Value} (h : ORt w base v m rs vs) (hb : b < base) : ORt (w.setCell ⟨b, k, none⟩ x) base v m rs vs := by
  obtain ⟨h1, ho, hi⟩ := h
  refine ⟨h1, own_set ho hb, fun i hin => ?_⟩
  obtain ⟨Ai, ni, ci, hv, hin, hl⟩ := hi i hin
  exact ⟨Ai, ni, ci, hv, own_set hin hb, hl⟩
theorem own_set_sn {w : World} {base m b k : Nat} {v x : Value} {ss : List Snd} {css : List (List Value)} (h : OSn w base v m ss css) (hb : b < base) : OSn (w.setCell ⟨b, k, none⟩ x) base v m ss css := by
  obtain ⟨h1, h2, h3, ho, hi⟩ := h
  refine ⟨h1, h2, h3, own_set ho hb, fun i hin => ?_⟩
  obtain ⟨Ai, ni, ci, hv, hin, hl⟩ := hi i hin
  exact ⟨Ai, ni, ci, hv, own_set hin hb, hl⟩
theorem prg_set (W : World) (rb : Nat) (z0 z1 z2 z3 z4 z5 z6 z7 a0 a1 a2 a3 a4 a5 a6 a7 : Value) (ty : TypeId) (h : W.heap[rb]? = some (.cells #[z0, z1, z2, z3, z4, z5, z6, z7] ty (0, 0))) : ((((((((W.setCell ⟨rb, 0, none⟩ a0).setCell ⟨rb, 1, none⟩ a1).setCell ⟨rb, 2, none⟩ a2).setCell ⟨rb, 3, none⟩ a3).setCell ⟨rb, 4, none⟩ a4).setCell ⟨rb, 5, none⟩ a5).setCell ⟨rb, 6, none⟩ a6).setCell ⟨rb, 7, none⟩ a7).heap[rb]? = some (.cells #[a0, a1, a2, a3, a4, a5, a6, a7] ty (0, 0)) := by
  rw [set_blk (set_blk (set_blk (set_blk (set_blk (set_blk (set_blk (set_blk h)))))))]
  rfl
set_option maxRecDepth 100000 in
theorem prg_load (W : World) (rb : Nat) (a0 a1 a2 a3 a4 a5 a6 a7 : Value) (h : W.heap[rb]? = some (.cells #[a0, a1, a2, a3, a4, a5, a6, a7] 30 (0, 0))) : (loadVar 30 ⟨rb, 0, none⟩).run Tryd.prog W = .ok (.agg #[a0, a1, a2, a3, a4, a5, a6, a7]) W := by
  have h2 := run_loadVar_mid (P := Tryd.prog) W rb 0 30 [a0, a1, a2, a3, a4, a5, a6, a7] _ (blk_range h) Tryd.underlying30 rfl (by kernel_rfl)
  exact h2
theorem far10 (W : World) (g : Nat) (x y a0 a1 a2 a3 a4 a5 a6 a7 : Value) (b : Nat) (hb : g + 2 ≤ b) : ((((((((((W.setCell ⟨g, 2, none⟩ x).setCell ⟨g, 3, none⟩ y).setCell ⟨g + 1, 0, none⟩ a0).setCell ⟨g + 1, 1, none⟩ a1).setCell ⟨g + 1, 2, none⟩ a2).setCell ⟨g + 1, 3, none⟩ a3).setCell ⟨g + 1, 4, none⟩ a4).setCell ⟨g + 1, 5, none⟩ a5).setCell ⟨g + 1, 6, none⟩ a6).setCell ⟨g + 1, 7, none⟩ a7).heap[b]? = W.heap[b]? := by
  have h0 : b ≠ g := by omega
  have h1 : b ≠ g + 1 := by omega
  rw [far_blk h1, far_blk h1, far_blk h1, far_blk h1, far_blk h1, far_blk h1, far_blk h1, far_blk h1, far_blk h0, far_blk h0]
theorem below10 (W : World) (g : Nat) (x y a0 a1 a2 a3 a4 a5 a6 a7 : Value) : Below g W ((((((((((W.setCell ⟨g, 2, none⟩ x).setCell ⟨g, 3, none⟩ y).setCell ⟨g + 1, 0, none⟩ a0).setCell ⟨g + 1, 1, none⟩ a1).setCell ⟨g + 1, 2, none⟩ a2).setCell ⟨g + 1, 3, none⟩ a3).setCell ⟨g + 1, 4, none⟩ a4).setCell ⟨g + 1, 5, none⟩ a5).setCell ⟨g + 1, 6, none⟩ a6).setCell ⟨g + 1, 7, none⟩ a7) := by
  have b2 := ((Below.refl g W).setCell (p := ⟨g, 2, none⟩) (Nat.le_refl _) x).setCell (p := ⟨g, 3, none⟩) (Nat.le_refl _) y
  exact (((((((b2.setCell (p := ⟨g + 1, 0, none⟩) (Nat.le_succ _) a0).setCell (p := ⟨g + 1, 1, none⟩) (Nat.le_succ _) a1).setCell (p := ⟨g + 1, 2, none⟩) (Nat.le_succ _) a2).setCell (p := ⟨g + 1, 3, none⟩) (Nat.le_succ _) a3).setCell (p := ⟨g + 1, 4, none⟩) (Nat.le_succ _) a4).setCell (p := ⟨g + 1, 5, none⟩) (Nat.le_succ _) a5).setCell (p := ⟨g + 1, 6, none⟩) (Nat.le_succ _) a6).setCell (p := ⟨g + 1, 7, none⟩) (Nat.le_succ _) a7
section
variable {w w' : World} {base : Nat}
theorem own_far {size n : Nat} {e : TypeId} {v : Value} {xs : List Value} (h : w.ownsRow base e size v n xs) (hf : ∀ b, base ≤ b → w'.heap[b]? = w.heap[b]?) : w'.ownsRow base e size v n xs := by
  refine ⟨h.1, ?_⟩
  rcases h.2 with hn | ⟨g, cap, cur, hv, hg, hh, rest⟩
  · exact .inl hn
  · exact .inr ⟨g, cap, cur, hv, hg, (hf g hg).trans hh, rest⟩
theorem obb_far {e t m : Nat} {v : Value} {ls : List (List UInt8)} (h : OBB w base e t v m ls) (hf : ∀ b, base ≤ b → w'.heap[b]? = w.heap[b]?) : OBB w' base e t v m ls := by
  obtain ⟨h1, vs, ho, hi⟩ := h
  refine ⟨h1, vs, own_far ho hf, fun i hin => ?_⟩
  obtain ⟨Ai, ni, ci, hv, hin⟩ := hi i hin
  exact ⟨Ai, ni, ci, hv, own_far hin hf⟩
theorem rt_far {m : Nat} {v : Value} {rs : List (List Sp)} {vs : List Value} (h : ORt w base v m rs vs) (hf : ∀ b, base ≤ b → w'.heap[b]? = w.heap[b]?) : ORt w' base v m rs vs := by
  obtain ⟨h1, ho, hi⟩ := h
  refine ⟨h1, own_far ho hf, fun i hin => ?_⟩
  obtain ⟨Ai, ni, ci, hv, hin, hl⟩ := hi i hin
  exact ⟨Ai, ni, ci, hv, own_far hin hf, hl⟩
theorem sn_far {m : Nat} {v : Value} {ss : List Snd} {css : List (List Value)} (h : OSn w base v m ss css) (hf : ∀ b, base ≤ b → w'.heap[b]? = w.heap[b]?) : OSn w' base v m ss css := by
  obtain ⟨h1, h2, h3, ho, hi⟩ := h
  refine ⟨h1, h2, h3, own_far ho hf, fun i hin => ?_⟩
  obtain ⟨Ai, ni, ci, hv, hin, hl⟩ := hi i hin
  exact ⟨Ai, ni, ci, hv, own_far hin hf, hl⟩
end
set_option maxRecDepth 100000 in
theorem results_cell1c {fn : Func} {t : Tmp} {ty : TypeId} (h : fn.results = #[.cell t ty]) (ts : Array Value) (P : Program) (w : World) (ad : Addr) (v : Value) (h2 : ts.getD t undef = .pointer (some ad)) (h3 : (loadVar ty ad).run P w = .ok v w) :
    (results fn ts).run P w = .ok v w := by
  have h2' : ts[t]?.getD undef = .pointer (some ad) := by simpa using h2
  simp [results, h, h2', asAddr, h3]
/-- the sizes that a program's slices can have -/
structure Fit (p : Prg) : Prop where
  n1 : p.code.length * 24 ≤ 140737488355328
  n2 : p.msgs.length * 24 ≤ 140737488355328
  n3 : p.rts.length * 24 ≤ 140737488355328
  n4 : p.snds.length * 40 ≤ 140737488355328
  ms : ∀ l ∈ p.msgs, l.length ≤ 140737488355328
  rs : ∀ r ∈ p.rts, r.length * 32 ≤ 140737488355328
  ss : ∀ s ∈ p.snds, s.rts.length * 8 ≤ 140737488355328
set_option maxHeartbeats 8000000 in
set_option maxRecDepth 100000 in
theorem Twin_any (d : Pad) (p : Prg) (w : World) (B : Nat) (hp : PR w B d p) (hB : B ≤ w.heap.size) (hf : Fit p) :
    Calls Tryd.prog 19 #[.agg (pcs d p)] w (fun e w' => ∃ d' : Pad, e = .returned (.agg (pcs d' p)) ∧ PR w' w'.heap.size d' p ∧ Below w.heap.size w w') := by
  obtain ⟨A1, n1, c1, A2, n2, c2, A3, n3, c3, A4, n4, c4⟩ := d
  have hn1 : p.code.length = n1 := by have a := hp.code.len; rw [List.length_map] at a; exact a
  have hn2 : p.msgs.length = n2 := hp.msgs.len
  have hn3 : p.rts.length = n3 := hp.rts.len
  have hn4 : p.snds.length = n4 := hp.snds.len
  have b1 : n1 * 24 ≤ 140737488355328 := by rw [← hn1]; exact hf.n1
  have b2 : n2 * 24 ≤ 140737488355328 := by rw [← hn2]; exact hf.n2
  have b3 : n3 * 24 ≤ 140737488355328 := by rw [← hn3]; exact hf.n3
  have b4 : n4 * 40 ≤ 140737488355328 := by rw [← hn4]; exact hf.n4
  have HF := Lib.hid hf
  have HN := Lib.hid (And.intro hn1 (And.intro hn2 (And.intro hn3 hn4)))
  simp only [pcs]
  obtain ⟨hz2, hc2, hd2, hb2⟩ := two_new w (.cells #[.slice A1 n1 c1, .slice A2 n2 c2, .slice A3 n3 c3, .slice A4 n4 c4, .int .i64 p.vars, .int .i64 p.stack, .int .i64 p.blocks, .int .i64 p.fuel] 30) (.cells #[.slice none 0 0, .slice none 0 0, .slice none 0 0, .slice none 0 0, .int .i64 0, .int .i64 0, .int .i64 0, .int .i64 0] 30)
  have hz1 : (w.alloc (.cells #[.slice A1 n1 c1, .slice A2 n2 c2, .slice A3 n3 c3, .slice A4 n4 c4, .int .i64 p.vars, .int .i64 p.stack, .int .i64 p.blocks, .int .i64 p.fuel] 30)).heap.size = w.heap.size + 1 := by simp
  have hzr : ∀ W : World, (zeroValue 30).run Tryd.prog W = .ok (.agg #[.slice none 0 0, .slice none 0 0, .slice none 0 0, .slice none 0 0, .int .i64 0, .int .i64 0, .int .i64 0, .int .i64 0]) W := fun _ => by kernel_rfl
  have HB := Lib.hid hb2
  have HC := Lib.hid hc2
  have HD := Lib.hid hd2
  have HP := Lib.hid (hp.below (hb2.mono hB))
  clear hp hb2 hc2 hd2 hf hn1 hn2 hn3 hn4
  generalize hw2 : (w.alloc (.cells #[.slice A1 n1 c1, .slice A2 n2 c2, .slice A3 n3 c3, .slice A4 n4 c4, .int .i64 p.vars, .int .i64 p.stack, .int .i64 p.blocks, .int .i64 p.fuel] 30)).alloc (.cells #[.slice none 0 0, .slice none 0 0, .slice none 0 0, .slice none 0 0, .int .i64 0, .int .i64 0, .int .i64 0, .int .i64 0] 30) = w2 at *
  have hbE := (Below.refl w2.heap.size w2).alloc (Nat.le_refl _) (.cells #[] 33)
  have hon : (w2.alloc (.cells #[] 33)).ownsRow w2.heap.size 33 3 (.slice (some ⟨w2.heap.size, 0, none⟩) 0 0) 0 [] := World.ownsRow_lit w2 #[] 0 (Nat.le_refl _) (by simp) rfl
  rw [hz2] at hon
  have HON := Lib.hid hon
  clear hon
  have HCE := Lib.hid (RR.reads (HP.out.code.below (hbE.mono (by omega))) (by decide))
  have hzE : (w2.alloc (.cells #[] 33)).heap.size = w2.heap.size + 1 := by simp
  have HBE := Lib.hid hbE
  clear hbE
  subst hw2
  go_enter Tryd.func19, Tryd.ntmps19
  go_wp2_with (at_builtin; refine wl_app TIn (by rfl) (.tmp 8) (.tmp 10) (by rfl) (.slice (some ⟨w.heap.size + 2, 0, none⟩) 0 0) (by rfl) A1 n1 c1 (by rfl) (w.heap.size + 2) 0 [] HON.out B _ HCE.out (ins_one _) ?c3 ?c4 ?c5 ?c6)
  case c4 => omega
  case c6 =>
    intro A5 c5 w5 hown hg _
    generalize (w.alloc (.cells #[.slice A1 n1 c1, .slice A2 n2 c2, .slice A3 n3 c3, .slice A4 n4 c4, .int .i64 p.vars, .int .i64 p.stack, .int .i64 p.blocks, .int .i64 p.fuel] 30)).alloc (.cells #[.slice none 0 0, .slice none 0 0, .slice none 0 0, .slice none 0 0, .int .i64 0, .int .i64 0, .int .i64 0, .int .i64 0] 30) = w2 at *
    have hb5 := HBE.out.grown hg (by omega) (by rw [hz2]; exact own_drop HON.out)
    have HB5 := Lib.hid hb5
    have HC5 := (hb5.block w.heap.size (by omega)).trans HC.out
    have HD5 := Lib.hid ((hb5.block (w.heap.size + 1) (by omega)).trans HD.out)
    have HP5 := Lib.hid (HP.out.below (hb5.mono (by omega)))
    have HW6 := Lib.hid (own_set (k := 0) (x := .slice A5 n1 c5) hown (show w.heap.size < w.heap.size + 2 by omega))
    have hcap5 := own_cap hown
    have hs5 := hb5.size
    clear hown hg hb5 HON HCE HBE
    have x0 : w5.cell? ⟨w.heap.size, 0, none⟩ = some (.slice A1 n1 c1) := by rw [blk_cell HC5]; rfl
    have f0 : w5.frozen? ⟨w.heap.size, 0, none⟩ = false := frozen_of_row _ _ _ _ _ HC5
    have HC6 := Lib.hid (set_blk (k := 0) (v := .slice A5 n1 c5) HC5)
    have hc1 : (w5.setCell ⟨w.heap.size, 0, none⟩ (.slice A5 n1 c5)).cell? ⟨w.heap.size, 1, none⟩ = some (.slice A2 n2 c2) := by rw [blk_cell HC6.out]; rfl
    have HB6 := Lib.hid ((Below.refl w.heap.size w5).setCell (p := ⟨w.heap.size, 0, none⟩) (Nat.le_refl _) (.slice A5 n1 c5))
    clear HC5
    go_wp2_with fail
    have HP6 := Lib.hid (HP5.out.below (HB6.out.mono hB))
    have hms := HF.out.ms
    have hs6 := HB6.out.size
    have HD6 := Lib.hid ((far_blk (k := 0) (v := .slice A5 n1 c5) (show w.heap.size + 1 ≠ w.heap.size by omega)).trans HD5.out)
    generalize w5.setCell ⟨w.heap.size, 0, none⟩ (.slice A5 n1 c5) = w6 at *
    refine (Copies_any A2 n2 c2 p.msgs w6 B HP6.out.msgs (by omega) b2 hms).mono ?_
    rintro e w7 ⟨g7, c7, rfl, hown7, hb7⟩
    have HC7 := (hb7.block w.heap.size (by omega)).trans HC6.out
    have HD7 := Lib.hid ((hb7.block (w.heap.size + 1) (by omega)).trans HD6.out)
    have HP7 := Lib.hid (HP6.out.below (hb7.mono (by omega)))
    have HW7 := Lib.hid (own_later HW6.out hb7)
    have HM7 := Lib.hid (hown7.base_le (show w.heap.size + 2 ≤ w6.heap.size by omega))
    have HB7 := Lib.hid (HB6.out.trans (hb7.mono (by omega)))
    have hs7 := hb7.size
    clear hown7 hb7 HW6 HC6 HD6 HP6 HP5 HD5 HB6 x0 f0 hc1 hms
    have x1 : w7.cell? ⟨w.heap.size, 1, none⟩ = some (.slice A2 n2 c2) := by rw [blk_cell HC7]; rfl
    have f1 : w7.frozen? ⟨w.heap.size, 1, none⟩ = false := frozen_of_row _ _ _ _ _ HC7
    have HC8 := Lib.hid (set_blk (k := 1) (v := .slice (some ⟨g7, 0, none⟩) n2 c7) HC7)
    have HD8 := Lib.hid ((far_blk (k := 1) (v := .slice (some ⟨g7, 0, none⟩) n2 c7) (show w.heap.size + 1 ≠ w.heap.size by omega)).trans HD7.out)
    have hb8 := (Below.refl w.heap.size w7).setCell (p := ⟨w.heap.size, 1, none⟩) (Nat.le_refl _) (.slice (some ⟨g7, 0, none⟩) n2 c7)
    have HP8 := Lib.hid (HP7.out.below (hb8.mono hB))
    have HW8 := Lib.hid (own_set (k := 1) (x := .slice (some ⟨g7, 0, none⟩) n2 c7) HW7.out (show w.heap.size < w.heap.size + 2 by omega))
    have HM8 := Lib.hid (own_set_obb (k := 1) (x := .slice (some ⟨g7, 0, none⟩) n2 c7) HM7.out (show w.heap.size < w.heap.size + 2 by omega))
    have HB8 := Lib.hid ((HB7.out.trans hb8))
    have hs8 := hb8.size
    clear HC7 HD7 HP7 HW7 HM7 HB7 hb8
    simp only
    go_wp2_with fail
    generalize w7.setCell ⟨w.heap.size, 1, none⟩ (.slice (some ⟨g7, 0, none⟩) n2 c7) = w8 at *
    have HBZ := Lib.hid (show Below w.heap.size w w8 from HB.out.trans ((HB5.out.mono (by omega)).trans HB8.out))
    have h82 : w.heap.size + 2 ≤ w8.heap.size := by omega
    clear HB5 HB8 hs5 hs6 hs7 hs8 x1 f1 hzE HP HC HD HB
    go_loopw [3, 4] (fun v i wr => ∃ (k c : Nat) (A : Option Addr) (vs : List Value), k ≤ n3 ∧ i = .int .i64 (k : Int) ∧ v = .slice A k c ∧ ORt wr w8.heap.size (.slice A k c) k (p.rts.take k) vs ∧ Below w8.heap.size w8 wr) (fun _ i _ => n3 - (intOf i).toNat)
    case atStart => exact ⟨0, 0, none, [], by omega, rfl, rfl, ORt.nil _ _, Below.refl _ _⟩
    case round =>
      obtain ⟨k, c, A, vs, hk, rfl, rfl, ho, hb⟩ := hrel
      have HO := Lib.hid ho
      have HBr := Lib.hid hb
      have hsr := hb.size
      have x2 : wr.cell? ⟨w.heap.size, 2, none⟩ = some (.slice A3 n3 c3) := by rw [blk_cell ((hb.block w.heap.size (by omega)).trans HC8.out)]; rfl
      by_cases hlt : k < n3
      · obtain ⟨ad, Ai, ni, ci, rfl, hab, e0, _, hrr⟩ := (HP8.out.rts.below (hb.mono (by omega))).at_ hlt
        have hki : (k : Int) < (n3 : Int) := by omega
        have hrl : (rat p.rts k).length = ni := by have := hrr.len; rw [List.length_map] at this; exact this
        have hni : ni * 32 ≤ 140737488355328 := by rw [← hrl]; exact HF.out.rs _ (rat_mem (by rw [HN.out.2.2.1]; exact hlt))
        have HTK := Lib.hid (show p.rts.take (k + 1) = p.rts.take k ++ [rat p.rts k] by
          rw [List.take_add_one, rat_eq (by rw [HN.out.2.2.1]; exact hlt)]
          rfl)
        have HRL := Lib.hid hrl
        generalize rat p.rts k = ss at *
        have hbE := (Below.refl wr.heap.size wr).alloc (Nat.le_refl _) (.cells #[] 66)
        have HON := Lib.hid (own_base (show (wr.alloc (.cells #[] 66)).ownsRow wr.heap.size 66 3 (.slice (some ⟨wr.heap.size, 0, none⟩) 0 0) 0 [] from World.ownsRow_lit wr #[] 0 (Nat.le_refl _) (by simp) rfl) hsr)
        have HCE := Lib.hid (RR.reads (hrr.below (hbE.mono (by omega))) (by decide))
        have hzE : (wr.alloc (.cells #[] 66)).heap.size = wr.heap.size + 1 := by simp
        have HBE := Lib.hid hbE
        have HOE := Lib.hid (ho.later hbE)
        have e0' := (hbE.cell (p := ad.add k) (by rw [block_of_add]; omega)).trans e0
        have x2' := (hbE.cell (p := ⟨w.heap.size, 2, none⟩) (by show w.heap.size < _; omega)).trans x2
        have hbk : (ad.add k).block < wr.heap.size := by rw [block_of_add]; omega
        have hwk : w.heap.size < wr.heap.size := by omega
        clear hb ho hbE hrr hrl
        go_wp2_with (at_builtin; refine wl_app TSt (by rfl) (.tmp 25) (.tmp 30) (by rfl) (.slice (some ⟨wr.heap.size, 0, none⟩) 0 0) (by rfl) Ai ni ci (by rfl) w8.heap.size 0 [] HON.out B _ HCE.out (spv_one _) ?a3 ?a4 ?a5 ?a6)
        case a3 => omega
        case a4 => omega
        case a5 => omega
        case a6 =>
          intro A9 c9 w9 hown hg _
          have hb9 := (HBE.out.grown hg (by omega) (fun q hq => by have e : wr.heap.size = q := Option.some.inj hq; omega))
          have hs9 := hb9.size
          have hbF := (Below.refl w9.heap.size w9).alloc (Nat.le_refl _) (.cells #[.slice A9 ni c9] 40)
          have HX9 := Lib.hid (own_later hown hbF)
          have HO9 := Lib.hid ((HO.out.later hb9).later hbF)
          have hx2 := ((hb9.trans (hbF.mono hs9)).cell (p := ⟨w.heap.size, 2, none⟩) (by show w.heap.size < _; omega)).trans x2
          have HBF := Lib.hid (HBr.out.trans ((hb9.trans (hbF.mono hs9)).mono hsr))
          have hzF : (w9.alloc (.cells #[.slice A9 ni c9] 40)).heap.size = w9.heap.size + 1 := by simp
          have HRF := Lib.hid (Reads.lit w9 40 [.slice A9 ni c9] 1 1 rfl _ rfl)
          clear hown hg hb9 hbF HCE HON HBE HOE HBr HO x2 e0 e0' x2' hbk
          have HV := Lib.hid HO9.out.2.1
          go_wp2_with (at_builtin; refine wl_app TSS (by rfl) (.tmp 24) (.tmp 32) (by rfl) (.slice A k c) (by rfl) (some ⟨w9.heap.size, 0, none⟩) 1 1 (by rfl) w8.heap.size k vs HV.out (w9.heap.size + 1) [.slice A9 ni c9] HRF.out ?e2 ?e3 ?e4 ?e5 ?e6)
          case e2 => simp [Value.oneCell']
          case e3 => omega
          case e4 => omega
          case e5 => have := HBF.out.size; omega
          case e6 =>
            intro A10 c10 w10 hown hg _
            have HO10 := Lib.hid (HO9.out.snoc HX9.out HRL.out hg hown)
            have HB10 := Lib.hid (HBF.out.grown hg (by have := HBF.out.size; omega) (own_drop HV.out))
            clear hown hg HX9 HV HRF HO9 HBF
            go_wp2_with fail
            refine ⟨⟨k + 1, c10, A10, vs ++ [.slice A9 ni c9], by omega, by go_num, rfl, ?_, HB10.out⟩, by simp [intOf]; omega⟩
            rw [HTK.out]
            exact HO10.out
      · obtain rfl : k = n3 := by omega
        have HO8 := Lib.hid (show ORt wr w8.heap.size (.slice A k c) k p.rts vs by have h := ho; rw [List.take_of_length_le (by rw [HN.out.2.2.1]; exact Nat.le_refl _)] at h; exact h)
        obtain ⟨wo, hwo⟩ : ∃ wo, wo = wr := ⟨_, rfl⟩
        have HBo := Lib.hid (show Below w8.heap.size w8 wo by rw [hwo]; exact hb)
        have HOo := Lib.hid (show ORt wo w8.heap.size (.slice A k c) k p.rts vs by rw [hwo]; exact HO8.out)
        rw [← hwo] at x2 ⊢
        clear hwo HO8 ho hb HO HBr
        have hso := HBo.out.size
        go_wp2_with fail
        go_loopw [5, 6, 7] (fun v i _ wr => ∃ (j cq : Nat) (Aq : Option Addr) (css : List (List Value)), j ≤ n4 ∧ i = .int .i64 (j : Int) ∧ v = .slice Aq j cq ∧ OSn wr wo.heap.size (.slice Aq j cq) j (p.snds.take j) css ∧ Below wo.heap.size wo wr) (fun _ i _ _ => n4 - (intOf i).toNat)
        case atStart => exact ⟨0, 0, none, [], by omega, rfl, rfl, OSn.nil _ _, Below.refl _ _⟩
        case round =>
          obtain ⟨j, cq, Aq, css, hj, rfl, rfl, ho, hb⟩ := hrel
          have HO := Lib.hid ho
          have HBr := Lib.hid hb
          have hsr := hb.size
          have hbw : Below w8.heap.size w8 wr := HBo.out.trans (hb.mono hso)
          have x3 : wr.cell? ⟨w.heap.size, 3, none⟩ = some (.slice A4 n4 c4) := by rw [blk_cell ((hbw.block w.heap.size (by omega)).trans HC8.out)]; rfl
          by_cases hlt : j < n4
          · obtain ⟨b, o, Ai, ni, ci, rfl, hab, e0, e1, e2, _, hrr⟩ := (HP8.out.snds.below (hbw.mono (by omega))).at_ hlt
            have hji : (j : Int) < (n4 : Int) := by omega
            have hrl := hrr.len
            have hni : ni * 8 ≤ 140737488355328 := by rw [← hrl]; exact HF.out.ss _ (dat_mem (by rw [HN.out.2.2.2]; exact hlt))
            have HTK := Lib.hid (show p.snds.take (j + 1) = p.snds.take j ++ [dat p.snds j] by
              rw [List.take_add_one, dat_eq (by rw [HN.out.2.2.2]; exact hlt)]
              rfl)
            have HBD := Lib.hid hrr.2
            generalize dat p.snds j = sd at *
            obtain ⟨m, rts, bb⟩ := sd
            simp only at e0 e1 e2 hrr hrl
            obtain ⟨hzS, hSb, hEb, hbE⟩ := two_new wr (.cells #[.int .i64 m, .slice Ai ni ci, .int .i64 bb] 43) (.cells #[] 3)
            have hz1S : (wr.alloc (.cells #[.int .i64 m, .slice Ai ni ci, .int .i64 bb] 43)).heap.size = wr.heap.size + 1 := by simp
            have hon : ((wr.alloc (.cells #[.int .i64 m, .slice Ai ni ci, .int .i64 bb] 43)).alloc (.cells #[] 3)).ownsRow (wr.heap.size + 1) 3 1 (.slice (some ⟨wr.heap.size + 1, 0, none⟩) 0 0) 0 [] := by
              have h := World.ownsRow_lit (e := 3) (size := 1) (wr.alloc (.cells #[.int .i64 m, .slice Ai ni ci, .int .i64 bb] 43)) #[] 0 (Nat.le_refl _) (by simp) rfl
              rw [hz1S] at h
              exact h
            have HON := Lib.hid hon
            have HCE := Lib.hid (hrr.1.below (hbE.mono (by omega)))
            have HBE := Lib.hid hbE
            have HSB := Lib.hid hSb
            have hzs : ∀ W : World, (zeroValue 43).run Tryd.prog W = .ok (.agg #[.int .i64 0, .slice none 0 0, .int .i64 0]) W := fun _ => by kernel_rfl
            clear hb ho hbE hrr hrl hon hEb hSb
            go_wp2_with (at_builtin; refine wl_app TIt (by rfl) (.tmp 46) (.tmp 48) (by rfl) (.slice (some ⟨wr.heap.size + 1, 0, none⟩) 0 0) (by rfl) Ai ni ci (by rfl) (wr.heap.size + 1) 0 [] HON.out B _ HCE.out (iv_one _) ?l3 ?l4 ?l5 ?l6)
            case l4 => omega
            case l6 =>
              intro A9 c9 w9 hown hg _
              have hb9 := ((Below.refl (wr.heap.size + 1) _).grown hg (by rw [hzS]; omega) (fun q hq => by have e : wr.heap.size + 1 = q := Option.some.inj hq; omega))
              have hS9 := (hb9.block wr.heap.size (Nat.lt_succ_self _)).trans HSB.out
              have s1 : w9.cell? ⟨wr.heap.size, 1, none⟩ = some (.slice Ai ni ci) := by rw [blk_cell hS9]; rfl
              have g1 : w9.frozen? ⟨wr.heap.size, 1, none⟩ = false := frozen_of_row _ _ _ _ _ hS9
              have hS10 := set_blk (k := 1) (v := .slice A9 ni c9) hS9
              have hown10 := own_set (k := 1) (x := .slice A9 ni c9) hown (Nat.lt_succ_self _)
              have hb10 := (HBE.out.trans (hb9.mono (Nat.le_succ _))).setCell (p := ⟨wr.heap.size, 1, none⟩) (Nat.le_refl _) (.slice A9 ni c9)
              have t0 : (w9.setCell ⟨wr.heap.size, 1, none⟩ (.slice A9 ni c9)).cell? ⟨wr.heap.size, 0, none⟩ = some (.int .i64 m) := by rw [blk_cell hS10]; rfl
              have t1 : (w9.setCell ⟨wr.heap.size, 1, none⟩ (.slice A9 ni c9)).cell? ⟨wr.heap.size, 1, none⟩ = some (.slice A9 ni c9) := by rw [blk_cell hS10]; rfl
              have t2 : (w9.setCell ⟨wr.heap.size, 1, none⟩ (.slice A9 ni c9)).cell? ⟨wr.heap.size, 2, none⟩ = some (.int .i64 bb) := by rw [blk_cell hS10]; rfl
              have hz10 : (w9.setCell ⟨wr.heap.size, 1, none⟩ (.slice A9 ni c9)).heap.size = w9.heap.size := by simp [World.setCell]
              have hs9 : wr.heap.size + 2 ≤ w9.heap.size := by have := hb9.size; omega
              have hbF := (Below.refl (w9.setCell ⟨wr.heap.size, 1, none⟩ (.slice A9 ni c9)).heap.size (w9.setCell ⟨wr.heap.size, 1, none⟩ (.slice A9 ni c9))).alloc (Nat.le_refl _) (.cells #[.int .i64 m, .slice A9 ni c9, .int .i64 bb] 43)
              have HX := Lib.hid (own_base (own_later hown10 hbF) (show wo.heap.size ≤ wr.heap.size + 1 by omega))
              have HO9 := Lib.hid ((HO.out.later hb10).later hbF)
              have HBF := Lib.hid (HBr.out.trans ((hb10.trans (hbF.mono (by rw [hz10]; omega))).mono hsr))
              have HRF := Lib.hid (Reads.lit (w9.setCell ⟨wr.heap.size, 1, none⟩ (.slice A9 ni c9)) 43 [.int .i64 m, .slice A9 ni c9, .int .i64 bb] 3 1 rfl _ rfl)
              rw [hz10] at HRF
              have HV := Lib.hid HO9.out.2.2.2.1
              have hzF : ((w9.setCell ⟨wr.heap.size, 1, none⟩ (.slice A9 ni c9)).alloc (.cells #[.int .i64 m, .slice A9 ni c9, .int .i64 bb] 43)).heap.size = w9.heap.size + 1 := by simp [World.setCell]
              clear hown hg hb9 hS9 hS10 hown10 hb10 hbF HON HCE HBE HSB HO HBr x3 e0 e1 e2
              go_wp2_with (at_builtin; refine wl_app TSp (by rfl) (.tmp 51) (.tmp 53) (by rfl) (.slice Aq j cq) (by rfl) (some ⟨w9.heap.size, 0, none⟩) 1 1 (by rfl) wo.heap.size j css.flatten HV.out (w9.heap.size + 1) [.int .i64 m, .slice A9 ni c9, .int .i64 bb] HRF.out ?k2 ?k3 ?k4 ?k5 ?k6)
              case k2 => simp [Value.oneCell']
              case k3 => omega
              case k4 => omega
              case k5 => have := HBF.out.size; omega
              case k6 =>
                intro A10 c10 w10 hown hg _
                have HO10 := Lib.hid (HO9.out.snoc (s := ⟨m, rts, bb⟩) HX.out HBD.out hg hown)
                have HB10 := Lib.hid (HBF.out.grown hg (by have := HBF.out.size; omega) (own_drop HV.out))
                clear hown hg HX HV HRF HO9 HBF
                go_wp2_with fail
                refine ⟨⟨j + 1, c10, A10, css ++ [[.int .i64 m, .slice A9 ni c9, .int .i64 bb]], by omega, by go_num, rfl, ?_, HB10.out⟩, by simp [intOf]; omega⟩
                rw [HTK.out]
                exact HO10.out
          · obtain rfl : j = n4 := by omega
            have HOs := Lib.hid (show OSn wr wo.heap.size (.slice Aq j cq) j p.snds css by have h := ho; rw [List.take_of_length_le (by rw [HN.out.2.2.2]; exact Nat.le_refl _)] at h; exact h)
            have HOr := Lib.hid (HOo.out.later hb)
            have HOc := Lib.hid (own_later HW8.out hbw)
            have HOm := Lib.hid (HM8.out.later hbw)
            have hC := (hbw.block w.heap.size (by omega)).trans HC8.out
            have hD := (hbw.block (w.heap.size + 1) (by omega)).trans HD8.out
            have HBw := Lib.hid (HBZ.out.trans (hbw.mono (by omega)))
            have y2 : wr.cell? ⟨w.heap.size, 2, none⟩ = some (.slice A3 k c3) := by rw [blk_cell hC]; rfl
            have p2 : wr.frozen? ⟨w.heap.size, 2, none⟩ = false := frozen_of_row _ _ _ _ _ hC
            have p3 : wr.frozen? ⟨w.heap.size, 3, none⟩ = false := frozen_of_row _ _ _ _ _ hC
            have HC2 := Lib.hid (set_blk (k := 3) (v := .slice Aq j cq) (set_blk (k := 2) (v := .slice A k c) hC))
            have HD2 := Lib.hid ((far_blk (k := 3) (v := .slice Aq j cq) (show w.heap.size + 1 ≠ w.heap.size by omega)).trans ((far_blk (k := 2) (v := .slice A k c) (show w.heap.size + 1 ≠ w.heap.size by omega)).trans hD))
            have HCb := Lib.hid (show ∀ (i : Nat) v, (#[.slice A5 n1 c5, .slice (some ⟨g7, 0, none⟩) n2 c7, .slice A k c, .slice Aq j cq, .int .i64 p.vars, .int .i64 p.stack, .int .i64 p.blocks, .int .i64 p.fuel] : Array Value)[i]? = some v → ((wr.setCell ⟨w.heap.size, 2, none⟩ (.slice A k c)).setCell ⟨w.heap.size, 3, none⟩ (.slice Aq j cq)).cell? ⟨w.heap.size, i, none⟩ = some v from fun i v hv => by rw [blk_cell HC2.out]; exact hv)
            have HDb := Lib.hid (show ∀ (i : Nat) v, (#[.slice none 0 0, .slice none 0 0, .slice none 0 0, .slice none 0 0, .int .i64 0, .int .i64 0, .int .i64 0, .int .i64 0] : Array Value)[i]? = some v → ((wr.setCell ⟨w.heap.size, 2, none⟩ (.slice A k c)).setCell ⟨w.heap.size, 3, none⟩ (.slice Aq j cq)).cell? ⟨w.heap.size + 1, i, none⟩ = some v from fun i v hv => by rw [blk_cell HD2.out]; exact hv)
            have HFb := Lib.hid (show ∀ i : Nat, ((wr.setCell ⟨w.heap.size, 2, none⟩ (.slice A k c)).setCell ⟨w.heap.size, 3, none⟩ (.slice Aq j cq)).frozen? ⟨w.heap.size + 1, i, none⟩ = false from fun i => frozen_of_row _ _ _ _ _ HD2.out)
            have m0 := HCb.out 0 _ rfl
            have m1 := HCb.out 1 _ rfl
            have m2 := HCb.out 2 _ rfl
            have m3 := HCb.out 3 _ rfl
            have m4 := HCb.out 4 _ rfl
            have m5 := HCb.out 5 _ rfl
            have m6 := HCb.out 6 _ rfl
            have m7 := HCb.out 7 _ rfl
            have n0' := HDb.out 0 _ rfl
            have n1' := HDb.out 1 _ rfl
            have n2' := HDb.out 2 _ rfl
            have n3' := HDb.out 3 _ rfl
            have n4' := HDb.out 4 _ rfl
            have n5' := HDb.out 5 _ rfl
            have n6' := HDb.out 6 _ rfl
            have n7' := HDb.out 7 _ rfl
            have o0 := HFb.out 0
            have o1 := HFb.out 1
            have o2 := HFb.out 2
            have o3 := HFb.out 3
            have o4 := HFb.out 4
            have o5 := HFb.out 5
            have o6 := HFb.out 6
            have o7 := HFb.out 7
            clear ho hb hbw hC hD HO HBr HOo HW8 HM8 HC8 HD8 HP8 x2
            go_wp2_with fail
            (try simp only [Exit.inBlock, Exit.then])
            have hk1 := own_cap HOr.out.2.1
            have hk2 := own_cap HOs.out.2.2.2.1
            obtain ⟨mvs, hmv⟩ := HOm.out.outer
            have hk3 := own_cap hmv
            have hj0 : j ≤ 140737488355328 := by omega
            have hk0 : k ≤ 140737488355328 := by omega
            have hn0 : n1 ≤ 140737488355328 := by omega
            have hm0 : n2 ≤ 140737488355328 := by omega
            refine bodyPost_ret (v := .agg #[.slice A5 n1 c5, .slice (some ⟨g7, 0, none⟩) n2 c7, .slice A k c, .slice Aq j cq, .int .i64 p.vars, .int .i64 p.stack, .int .i64 p.blocks, .int .i64 p.fuel]) (results_cell1c rfl _ _ _ ⟨w.heap.size + 1, 0, none⟩ _ rfl (prg_load _ _ _ _ _ _ _ _ _ _ (prg_set _ _ _ _ _ _ _ _ _ _ _ _ _ _ _ _ _ _ _ HD2.out))) rfl ?_
            refine ⟨⟨A5, n1, c5, some ⟨g7, 0, none⟩, n2, c7, A, k, c, Aq, j, cq⟩, rfl, ⟨RR.of_own (own_far HOc.out (fun b hb => far10 _ _ _ _ _ _ _ _ _ _ _ _ b (by omega))) (by rw [List.length_map]; exact HN.out.1) (fun cs hcs => by obtain ⟨x, _, rfl⟩ := List.mem_map.1 hcs; rfl), RBB.of_own (obb_far HOm.out (fun b hb => far10 _ _ _ _ _ _ _ _ _ _ _ _ b (by omega))), RRt.of_own (rt_far HOr.out (fun b hb => far10 _ _ _ _ _ _ _ _ _ _ _ _ b (by omega))), RSn.of_own (sn_far HOs.out (fun b hb => far10 _ _ _ _ _ _ _ _ _ _ _ _ b (by omega))), hcap5, hk3, hk1, hk2, hn0, hm0, hk0, hj0⟩, HBw.out.trans (below10 _ _ _ _ _ _ _ _ _ _ _ _)⟩
end Go.Proofs.YtkmcjjoicpgjfaaDoor
