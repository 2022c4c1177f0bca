/-
  Contract of code.Decode. Conditions: the sizes that slices can have.
-/
import Derived.Test.YtkmcjjoicpgjfaaDoorRdSn
/-
  What code.Decode answers, in plain Lean, and what it is that a world holds a program of the call's own. No statement of the seat is proved here.
-/
namespace Go.Proofs.YtkmcjjoicpgjfaaDoor
open Go Go.RowKit Go.Sh

def pZ : Prg := ⟨[], [], [], [], 0, 0, 0, 0⟩
/-- the state after the seven heads and the fuel -/
def sHd : Nat → Sx → Sx
  | 0, s => s
  | k + 1, s => nS 2 (sHd k s)
def cHd (k : Nat) (s : Sx) : Nat := nV 2 (sHd k s)
def sFu (s : Sx) : Sx := nS 4 (sHd 7 s)
def rI (s : Sx) : List Ins × Sx := rep fI (cHd 0 s) (sFu s)
def rM (s : Sx) : List (List UInt8) × Sx := rep fM (cHd 1 s) (rI s).2
def rR (s : Sx) : List (List Sp) × Sx := rep fR (cHd 2 s) (rM s).2
def rS (s : Sx) : List Snd × Sx := rep fS (cHd 3 s) (rR s).2
def rdP (s : Sx) : Prg := ⟨(rI s).1, (rM s).1, (rR s).1, (rS s).1, (cHd 4 s : Int), (cHd 5 s : Int), (cHd 6 s : Int), (nV 4 (sHd 7 s) : Int)⟩
/-- what Decode answers behind the four bytes -/
noncomputable def dcB (s : Sx) : Prg × Int :=
  if (rS s).2 = some [] then (if ckP (rdP s) = 0 then (rdP s, 0) else (pZ, ckP (rdP s))) else (pZ, 2)
noncomputable def dcP (l : List UInt8) : Prg × Int :=
  if l.length < 4 then (pZ, 2) else if l.take 4 = [115, 104, 108, 49] then dcB (some (l.drop 4)) else (pZ, 3)

/-- a program of the call's own: each of its rows lies at base or above -/
structure PO (w : World) (base : Nat) (d : Pad) (p : Prg) (vm : List Value) : Prop where
  code : w.ownsRow base 33 3 (.slice d.A1 d.n1 d.c1) d.n1 (p.code.map Ins.cells).flatten
  n1 : p.code.length = d.n1
  msgs : OBV w base 5 39 (.slice d.A2 d.n2 d.c2) d.n2 p.msgs vm
  rts : ∃ vr, ORt w base (.slice d.A3 d.n3 d.c3) d.n3 p.rts vr
  snds : ∃ css, OSn w base (.slice d.A4 d.n4 d.c4) d.n4 p.snds css
  b1 : d.n1 ≤ 65535
  b2 : d.n2 ≤ 65535
  b3 : d.n3 ≤ 65535
  b4 : d.n4 ≤ 65535
def dZ : Pad := ⟨none, 0, 0, none, 0, 0, none, 0, 0, none, 0, 0⟩
theorem PO.nil (w : World) (base : Nat) : PO w base dZ pZ [] :=
  ⟨World.ownsRow_nil _ _ _ _, rfl, OBV.nil _ _ _ _, ⟨[], ORt.nil _ _⟩, ⟨[], OSn.nil _ _⟩, Nat.zero_le _, Nat.zero_le _, Nat.zero_le _, Nat.zero_le _⟩
theorem PO.later {w w' : World} {base : Nat} {d : Pad} {p : Prg} {vm : List Value} (h : PO w base d p vm) (hb : Below w.heap.size w w') : PO w' base d p vm := by
  obtain ⟨h1, h2, h3, ⟨vr, h4⟩, ⟨css, h5⟩, h6, h7, h8, h9⟩ := h
  exact ⟨own_later h1 hb, h2, h3.later hb, ⟨vr, h4.later hb⟩, ⟨css, h5.later hb⟩, h6, h7, h8, h9⟩
theorem PO.far {w w' : World} {base : Nat} {d : Pad} {p : Prg} {vm : List Value} (h : PO w base d p vm) (hf : ∀ b, base ≤ b → w'.heap[b]? = w.heap[b]?) : PO w' base d p vm := by
  obtain ⟨h1, h2, h3, ⟨vr, h4⟩, ⟨css, h5⟩, h6, h7, h8, h9⟩ := h
  refine ⟨own_far h1 hf, h2, ?_, ⟨vr, rt_far h4 hf⟩, ⟨css, sn_far h5 hf⟩, h6, h7, h8, h9⟩
  obtain ⟨k1, ho, hi, k4⟩ := h3
  refine ⟨k1, own_far ho hf, fun i hin => ?_, k4⟩
  obtain ⟨Ai, ni, ci, hv, hin⟩ := hi i hin
  exact ⟨Ai, ni, ci, hv, own_far hin hf⟩
theorem PO.pr {w : World} {base : Nat} {d : Pad} {p : Prg} {vm : List Value} (h : PO w base d p vm) : PR w w.heap.size d p := by
  obtain ⟨h1, h2, h3, ⟨vr, h4⟩, ⟨css, h5⟩, h6, h7, h8, h9⟩ := h
  refine ⟨RR.of_own h1 (by rw [List.length_map]; exact h2) (fun cs hcs => ?_), RBB.of_own h3.obb, RRt.of_own h4, RSn.of_own h5, own_cap h1, own_cap h3.2.1, own_cap h4.2.1, own_cap h5.2.2.2.1, by omega, by omega, by omega, by omega⟩
  obtain ⟨x, _, rfl⟩ := List.mem_map.1 hcs
  rfl
theorem PO.base_le {w : World} {base base' : Nat} {d : Pad} {p : Prg} {vm : List Value} (h : PO w base d p vm) (hb : base' ≤ base) : PO w base' d p vm := by
  obtain ⟨h1, h2, h3, ⟨vr, k1, k2, k3⟩, ⟨css, g1, g2, g3, g4, g5⟩, h6, h7, h8, h9⟩ := h
  refine ⟨own_base h1 hb, h2, h3.base_le hb, ⟨vr, k1, own_base k2 hb, fun i hi => ?_⟩, ⟨css, g1, g2, g3, own_base g4 hb, fun i hi => ?_⟩, h6, h7, h8, h9⟩
  · obtain ⟨Ai, ni, ci, h5, h6, h7⟩ := k3 i hi
    exact ⟨Ai, ni, ci, h5, own_base h6 hb, h7⟩
  · obtain ⟨Ai, ni, ci, h5, h6, h7⟩ := g5 i hi
    exact ⟨Ai, ni, ci, h5, own_base h6 hb, h7⟩
/-- what is left, told by Left -/
theorem left_rd {w : World} {base top q : Nat} {r : List UInt8} (h : Rd w base top q (some r)) :
    ∃ p, w.cell? ⟨q, 0, none⟩ = some (.pointer (some ⟨p, 0, none⟩)) ∧ Calls Tryd.prog 46 #[.pointer (some ⟨p, 0, none⟩)] w (fun e w' => e = .returned (.int .i64 (r.length : Int)) ∧ ∃ k, w' = w.drewN k) := by
  obtain ⟨p, l, a, sh, h1, h2, h4, h5, h7, h8, h9⟩ := h
  cases sh with
  | true => cases h9
  | false =>
    have e : r = l.drop a := Option.some.inj h9
    refine ⟨p, (cur_cells h4).1, ?_⟩
    have hl := Left_any p base l a w h5.1 h7
    rw [e, List.length_drop]
    exact hl
theorem Rd.new {w : World} {base p : Nat} {l : List UInt8} (h : CurOK w base p l 0) (hl : l.length ≤ 140737488355328) (hb : base ≤ w.heap.size) :
    Rd (w.alloc (.cells #[.pointer (some ⟨p, 0, none⟩), .bool false] 88)) base (w.heap.size + 1) w.heap.size (some l) := by
  have hba := (Below.refl w.heap.size w).alloc (Nat.le_refl _) (.cells #[.pointer (some ⟨p, 0, none⟩), .bool false] 88)
  have hlt := h.lt
  refine ⟨p, l, 0, false, hb, Nat.lt_succ_self _, heap_alloc_new w _, ?_, hl, by simp, rfl⟩
  obtain ⟨h1, h2, h3⟩ := (CurOK.top h).later (w' := w.alloc (.cells #[.pointer (some ⟨p, 0, none⟩), .bool false] 88)) hba
  exact ⟨h1, Nat.lt_succ_of_lt h2, fun A n c e k hk => Nat.lt_succ_of_lt (h3 A n c e k hk)⟩
end Go.Proofs.YtkmcjjoicpgjfaaDoor
namespace Go.Proofs.YtkmcjjoicpgjfaaDoor
open Go Go.RowKit Go.Sh

/-- the four counts, as far as they have been read -/
def cntL (k : Nat) (s : Sx) : List Value := (List.range 4).map fun i => .int .i64 (if i < k then (cHd i s : Int) else 0)
theorem cntL_zero (s : Sx) : cntL 0 s = [.int .i64 0, .int .i64 0, .int .i64 0, .int .i64 0] := rfl
theorem cntL_set (k : Nat) (hk : k < 4) (s : Sx) : (cntL k s).set k (.int .i64 (nV 2 (sHd k s) : Int)) = cntL (k + 1) s := by
  match k, hk with
  | 0, _ => rfl
  | 1, _ => rfl
  | 2, _ => rfl
  | 3, _ => rfl
theorem cntL_four (s : Sx) : cntL 4 s = [.int .i64 (cHd 0 s : Int), .int .i64 (cHd 1 s : Int), .int .i64 (cHd 2 s : Int), .int .i64 (cHd 3 s : Int)] := rfl
set_option maxRecDepth 100000 in
theorem results_cell_tmpD {fn : Func} {t u : Tmp} {ty : TypeId} (h : fn.results = #[.cell t ty, .tmp u]) (ts : Array Value) (P : Program) (w : World) (ad : Addr) (v x : Value) (h2 : ts.getD t undef = .pointer (some ad)) (hx : ts.getD u undef = x) (h3 : (loadVar ty ad).run P w = .ok v w) :
    (results fn ts).run P w = .ok (.tuple #[v, x]) w := by
  subst hx
  have h2' : ts[t]?.getD undef = .pointer (some ad) := by simpa using h2
  simp [results, h, h2', asAddr, h3]
/-- where Decode stands: the reader, the counts, the program that is being made -/
structure DS (w1 w : World) (b1 q pb : Nat) (s0 s : Sx) (pc : List Value) : Prop where
  rd : Rd w b1 (q + 1) q s
  cn : w.heap[q + 1]? = some (.cells #[.int .i64 (cHd 0 s0 : Int), .int .i64 (cHd 1 s0 : Int), .int .i64 (cHd 2 s0 : Int), .int .i64 (cHd 3 s0 : Int)] 89 (0, 0))
  pp : w.heap[pb]? = some (.cells pc.toArray 30 (0, 0))
  bl : Below b1 w1 w
  lt : q + 1 < pb
section
variable {w1 w w' : World} {b1 q pb : Nat} {s0 s s' : Sx} {pc : List Value}
theorem DS.size (h : DS w1 w b1 q pb s0 s pc) : pb < w.heap.size := (Array.getElem?_eq_some_iff.1 h.pp).1
theorem DS.call (h : DS w1 w b1 q pb s0 s pc) (hr : Rd w' b1 (q + 1) q s') (hs : Sto b1 (q + 1) w w') : DS w1 w' b1 q pb s0 s' pc := by
  have h1 := h.size
  have h2 := h.lt
  exact ⟨hr, (hs.2 _ (Nat.le_refl _) (by omega)).trans h.cn, (hs.2 _ (by omega) h1).trans h.pp, h.bl.trans hs.1, h2⟩
theorem DS.put (h : DS w1 w b1 q pb s0 s pc) (k : Nat) (v : Value) : DS w1 (w.setCell ⟨pb, k, none⟩ v) b1 q pb s0 s (pc.set k v) := by
  have h2 := h.lt
  have h3 := h.rd.place
  exact ⟨h.rd.sub ((Below.refl (q + 1) w).setCell (p := ⟨pb, k, none⟩) (by show q + 1 ≤ pb; omega) v), (far_blk (by omega)).trans h.cn, set_blk h.pp, h.bl.setCell (p := ⟨pb, k, none⟩) (by show b1 ≤ pb; omega) v, h2⟩
theorem DS.cell (h : DS w1 w b1 q pb s0 s pc) {k : Nat} {v : Value} (hv : pc[k]? = some v) : w.cell? ⟨pb, k, none⟩ = some v := by rw [blk_cell h.pp, List.getElem?_toArray]; exact hv
theorem DS.free (h : DS w1 w b1 q pb s0 s pc) (k : Nat) : w.frozen? ⟨pb, k, none⟩ = false := frozen_of_row _ _ _ _ _ h.pp
end
theorem set_far8 (W : World) (g : Nat) (a0 a1 a2 a3 a4 a5 a6 a7 : Value) (b : Nat) (hb : b ≠ g) : ((((((((W.setCell ⟨g, 0, none⟩ a0).setCell ⟨g, 1, none⟩ a1).setCell ⟨g, 2, none⟩ a2).setCell ⟨g, 3, none⟩ a3).setCell ⟨g, 4, none⟩ a4).setCell ⟨g, 5, none⟩ a5).setCell ⟨g, 6, none⟩ a6).setCell ⟨g, 7, none⟩ a7).heap[b]? = W.heap[b]? := by
  rw [far_blk hb, far_blk hb, far_blk hb, far_blk hb, far_blk hb, far_blk hb, far_blk hb, far_blk hb]
theorem set_below8 (W : World) (g : Nat) (a0 a1 a2 a3 a4 a5 a6 a7 : Value) : Below g W ((((((((W.setCell ⟨g, 0, none⟩ a0).setCell ⟨g, 1, none⟩ a1).setCell ⟨g, 2, none⟩ a2).setCell ⟨g, 3, none⟩ a3).setCell ⟨g, 4, none⟩ a4).setCell ⟨g, 5, none⟩ a5).setCell ⟨g, 6, none⟩ a6).setCell ⟨g, 7, none⟩ a7) :=
  ((((((((Below.refl g W).setCell (p := ⟨g, 0, none⟩) (Nat.le_refl _) a0).setCell (p := ⟨g, 1, none⟩) (Nat.le_refl _) a1).setCell (p := ⟨g, 2, none⟩) (Nat.le_refl _) a2).setCell (p := ⟨g, 3, none⟩) (Nat.le_refl _) a3).setCell (p := ⟨g, 4, none⟩) (Nat.le_refl _) a4).setCell (p := ⟨g, 5, none⟩) (Nat.le_refl _) a5).setCell (p := ⟨g, 6, none⟩) (Nat.le_refl _) a6).setCell (p := ⟨g, 7, none⟩) (Nat.le_refl _) a7
theorem ort_base {w : World} {base base' m : Nat} {v : Value} {rs : List (List Sp)} {vs : List Value} (h : ORt w base v m rs vs) (hb : base' ≤ base) : ORt w base' v m rs vs := by
  obtain ⟨h1, ho, hi⟩ := h
  refine ⟨h1, own_base ho hb, fun i hin => ?_⟩
  obtain ⟨Ai, ni, ci, hv, hrow, hl⟩ := hi i hin
  exact ⟨Ai, ni, ci, hv, own_base hrow hb, hl⟩
theorem osn_base {w : World} {base base' m : Nat} {v : Value} {ss : List Snd} {css : List (List Value)} (h : OSn w base v m ss css) (hb : base' ≤ base) : OSn w base' v m ss css := by
  obtain ⟨h1, h2, h3, ho, hi⟩ := h
  refine ⟨h1, h2, h3, own_base ho hb, fun i hin => ?_⟩
  obtain ⟨Ai, ni, ci, hv, hrow, hl⟩ := hi i hin
  exact ⟨Ai, ni, ci, hv, own_base hrow hb, hl⟩
def decPost (w : World) (r : Prg × Int) (e : Ending) (w' : World) : Prop :=
  ∃ d vm, e = .returned (.tuple #[.agg (pcs d r.1), .int .i64 r.2]) ∧ PO w' w.heap.size d r.1 vm ∧ Below w.heap.size w w'
set_option maxRecDepth 100000 in
set_option maxHeartbeats 16000000 in
theorem Decode_any (A : Option Addr) (n c : Nat) (l : List UInt8) (w : World) (B : Nat) (hr : RB w B A n l) (hB : B ≤ w.heap.size) (hn : n ≤ 140737488355328) (hc : n ≤ c) :
    Calls Tryd.prog 14 #[.slice A n c] w (decPost w (dcP l)) := by
  have HL := Lib.hid hr.len
  have hzs : ∀ W : World, (zeroValue 30).run Tryd.prog W = .ok (.agg #[.slice none 0 0, .slice none 0 0, .slice none 0 0, .slice none 0 0, .int .i64 0, .int .i64 0, .int .i64 0, .int .i64 0]) W := fun _ => by kernel_rfl
  have hb1 := (Below.refl w.heap.size w).alloc (Nat.le_refl _) (.cells #[.slice none 0 0, .slice none 0 0, .slice none 0 0, .slice none 0 0, .int .i64 0, .int .i64 0, .int .i64 0, .int .i64 0] 30)
  have HB1 := Lib.hid hb1
  have HR1 := Lib.hid (hr.below (hb1.mono hB))
  have HG1 := Lib.hid (heap_alloc_new w (.cells #[.slice none 0 0, .slice none 0 0, .slice none 0 0, .slice none 0 0, .int .i64 0, .int .i64 0, .int .i64 0, .int .i64 0] 30))
  have hz1 : (w.alloc (.cells #[.slice none 0 0, .slice none 0 0, .slice none 0 0, .slice none 0 0, .int .i64 0, .int .i64 0, .int .i64 0, .int .i64 0] 30)).heap.size = w.heap.size + 1 := by simp
  clear hb1 hr
  have HP0 := Lib.hid (fun (e : Int) (W : World) (hb : Below w.heap.size w W) (h : dcP l = (pZ, e)) => (⟨dZ, [], by rw [h]; rfl, by rw [h]; exact PO.nil _ _, hb⟩ : decPost w (dcP l) (.returned (.tuple #[.agg #[.slice none 0 0, .slice none 0 0, .slice none 0 0, .slice none 0 0, .int .i64 0, .int .i64 0, .int .i64 0, .int .i64 0], .int .i64 e])) W))
  go_enter Tryd.func14, Tryd.ntmps14
  by_cases h4 : n < 4
  · have d4 : (n : Int) < 4 := by omega
    have HD := Lib.hid (show dcP l = (pZ, 2) by unfold dcP; rw [if_pos (by rw [HL.out]; exact h4)])
    generalize dcP l = D at *
    go_wp2_with fail
    (try simp only [Exit.inBlock, Exit.then])
    refine bodyPost_ret (v := .tuple #[.agg #[.slice none 0 0, .slice none 0 0, .slice none 0 0, .slice none 0 0, .int .i64 0, .int .i64 0, .int .i64 0, .int .i64 0], .int .i64 2]) (results_cell_tmpD rfl _ _ _ ⟨w.heap.size, 0, none⟩ _ _ rfl rfl (prg_load _ _ _ _ _ _ _ _ _ _ HG1.out)) rfl ?_
    exact HP0.out 2 _ HB1.out HD.out
  · have d4 : ¬ (n : Int) < 4 := by omega
    have HRT := Lib.hid (HR1.out.take (k := 4) (by omega))
    have hsl : ∀ W, (Instr.slice 39 (.slice A n c) none (some (.int .i64 4)) none).run Tryd.prog W = .ok (.slice A 4 c) W := fun W => run_sl_hi TB W A n c .i64 4 (by omega)
    by_cases hm : l.take 4 = [115, 104, 108, 49]
    case neg =>
      have HD := Lib.hid (show dcP l = (pZ, 3) by unfold dcP; rw [if_neg (by rw [HL.out]; exact h4), if_neg hm])
      have hmb : (l.take 4 == [115, 104, 108, 49]) = false := beq_eq_false_iff_ne.2 hm
      generalize dcP l = D at *
      generalize l.take 4 = l4 at *
      clear hm
      go_wp2_with (refine wl_str Tryd.underlying39 Tryd.underlying5 Tryd.underlying9 rfl (.tmp 14) rfl A 4 c rfl B l4 HRT.out ?_)
      (try simp only [Exit.inBlock, Exit.then])
      refine bodyPost_ret (v := .tuple #[.agg #[.slice none 0 0, .slice none 0 0, .slice none 0 0, .slice none 0 0, .int .i64 0, .int .i64 0, .int .i64 0, .int .i64 0], .int .i64 3]) (results_cell_tmpD rfl _ _ _ ⟨w.heap.size, 0, none⟩ _ _ rfl rfl (prg_load _ _ _ _ _ _ _ _ _ _ HG1.out)) rfl ?_
      exact HP0.out 3 _ HB1.out HD.out
    case pos =>
      have HD := Lib.hid (show dcP l = dcB (some (l.drop 4)) by unfold dcP; rw [if_neg (by rw [HL.out]; exact h4), if_pos hm])
      have hmb : (l.take 4 == [115, 104, 108, 49]) = true := beq_iff_eq.2 hm
      have HRC := Lib.hid (HR1.out.cut (k := 4) (cap := c) (by omega) hc)
      obtain ⟨A2, hA2⟩ : ∃ A2, (if c = 4 then A else A.map (·.add (4 * 1))) = A2 := ⟨_, rfl⟩
      have hsl2 : ∀ W, (Instr.slice 39 (.slice A n c) (some (.int .i64 4)) none none).run Tryd.prog W = .ok (.slice A2 (n - 4) (c - 4)) W := fun W => by rw [← hA2]; exact run_sl_lo TB W A n c .i64 4 (by omega)
      have hl4 : (l.drop 4).length = n - 4 := by rw [List.length_drop, HL.out]
      rw [show (if c = 4 then A else A.map (·.add 4)) = A2 from hA2] at HRC
      generalize dcP l = D at *
      generalize l.take 4 = l4 at *
      generalize l.drop 4 = lr at *
      clear hm hA2
      go_wp2_with (refine wl_str Tryd.underlying39 Tryd.underlying5 Tryd.underlying9 rfl (.tmp 14) rfl A 4 c rfl B l4 HRT.out ?_)
      generalize w.alloc (.cells #[.slice none 0 0, .slice none 0 0, .slice none 0 0, .slice none 0 0, .int .i64 0, .int .i64 0, .int .i64 0, .int .i64 0] 30) = w1 at *
      refine (NewCursor_any _ _ _ lr w1 B HRC.out (by omega) (by omega)).mono ?_
      rintro e w2 ⟨p, rfl, hc2, hb2⟩
      have hz2 := hb2.size
      have hba3 := (Below.refl w2.heap.size w2).alloc (Nat.le_refl _) (.cells #[.pointer (some ⟨p, 0, none⟩), .bool false] 88)
      have hrd3 := Rd.new hc2 (by omega) hz2
      have hz3 : (w2.alloc (.cells #[.pointer (some ⟨p, 0, none⟩), .bool false] 88)).heap.size = w2.heap.size + 1 := by simp
      have hba4 := (Below.refl (w2.alloc (.cells #[.pointer (some ⟨p, 0, none⟩), .bool false] 88)).heap.size _).alloc (Nat.le_refl _) (.cells #[.int .i64 0, .int .i64 0, .int .i64 0, .int .i64 0] 89)
      have hz4 : ((w2.alloc (.cells #[.pointer (some ⟨p, 0, none⟩), .bool false] 88)).alloc (.cells #[.int .i64 0, .int .i64 0, .int .i64 0, .int .i64 0] 89)).heap.size = w2.heap.size + 2 := by simp
      have hcb4 := heap_alloc_new (w2.alloc (.cells #[.pointer (some ⟨p, 0, none⟩), .bool false] 88)) (.cells #[.int .i64 0, .int .i64 0, .int .i64 0, .int .i64 0] 89)
      rw [hz3] at hba4 hcb4
      have HRD4 := Lib.hid (hrd3.sub hba4)
      have HCB4 := Lib.hid (show _ = some (Obj.cells (cntL 0 (some lr)).toArray 89 (0, 0)) from hcb4)
      have HB4 := Lib.hid (hb2.trans ((hba3.mono hz2).trans (hba4.mono (by omega))))
      clear hc2 hb2 hba3 hrd3 hba4 hcb4 HRC HRT hsl hsl2 hmb
      go_wp2_with fail
      obtain ⟨q, hq⟩ : ∃ q, w2.heap.size = q := ⟨_, rfl⟩
      obtain ⟨b1, hb1⟩ : ∃ b1, w1.heap.size = b1 := ⟨_, rfl⟩
      rw [hq] at HRD4 HCB4 hz2 hz4 hz3 ⊢
      rw [hb1] at HB4 HRD4 hz2 hz1
      generalize (w2.alloc (.cells #[.pointer (some ⟨p, 0, none⟩), .bool false] 88)).alloc (.cells #[.int .i64 0, .int .i64 0, .int .i64 0, .int .i64 0] 89) = w4 at *
      obtain ⟨s0, hs0⟩ : ∃ s0 : Sx, some lr = s0 := ⟨_, rfl⟩
      rw [hs0] at HRD4 HCB4 HD
      clear hq hb1 hs0 hz3
      have HGE := Lib.hid HG1.out
      go_loopw [6, 23] (fun _ i wr => ∃ k : Nat, k ≤ 4 ∧ i = .int .i64 (k : Int) ∧ Rd wr b1 (q + 1) q (sHd k s0) ∧ wr.heap[q + 1]? = some (.cells (cntL k s0).toArray 89 (0, 0)) ∧ Below b1 w1 wr ∧ q + 2 ≤ wr.heap.size) (fun _ i _ => 4 - (intOf i).toNat)
      case atStart => exact ⟨0, by omega, rfl, HRD4.out, HCB4.out, HB4.out, by omega⟩
      case round =>
        obtain ⟨k, hk, rfl, hr, hcb, hb, hsz⟩ := hrel
        have HRr := Lib.hid hr
        have HCB := Lib.hid hcb
        have HBr := Lib.hid hb
        clear hr hcb hb
        by_cases hlt : k < 4
        · have dk : (k : Int) < 4 := by omega
          have HST := Lib.hid (cntL_set k hlt s0)
          have hlen : (cntL k s0).length = 4 := rfl
          have HM := Lib.hid (number_any q 2 2 rfl (by decide) (by decide) wr b1 (q + 1) _ HRr.out)
          obtain ⟨v, hv⟩ : ∃ v, nV 2 (sHd k s0) = v := ⟨_, rfl⟩
          obtain ⟨s1, hs1⟩ : ∃ s1, nS 2 (sHd k s0) = s1 := ⟨_, rfl⟩
          have HS1 := Lib.hid (show sHd (k + 1) s0 = s1 from hs1)
          rw [hv, hs1] at HM
          rw [hv] at HST
          clear hv hs1
          go_wp2_with fail
          refine HM.out.mono ?_
          rintro e w5 ⟨rfl, hr5, hst5⟩
          have hcb5 := (hst5.2 (q + 1) (Nat.le_refl _) (by omega)).trans HCB.out
          have HB5 := Lib.hid (HBr.out.trans hst5.1)
          have HR5 := Lib.hid hr5
          have HS5 := Lib.hid hst5
          have hz5 := hst5.1.size
          have c5 : ∃ u, w5.cell? ⟨q + 1, k, none⟩ = some u := by
            rw [blk_cell hcb5]
            exact ⟨_, by rw [List.getElem?_toArray]; exact List.getElem?_eq_getElem (by omega)⟩
          obtain ⟨u5, c5⟩ := c5
          have f5 : w5.frozen? ⟨q + 1, k, none⟩ = false := frozen_of_row _ _ _ _ _ hcb5
          have HC5 := Lib.hid (set_blk (k := k) (v := .int .i64 (v : Int)) hcb5)
          clear hr5 hst5 hcb5 HM
          go_wp2_with fail
          have hb6 : Below (q + 1) w5 (w5.setCell ⟨q + 1, k, none⟩ (.int .i64 (v : Int))) := (Below.refl (q + 1) w5).setCell (p := ⟨q + 1, k, none⟩) (Nat.le_refl _) _
          refine ⟨⟨k + 1, by omega, by go_num, ?_, ?_, HB5.out.trans (hb6.mono (by omega)), ?_⟩, by simp [intOf]; omega⟩
          · rw [HS1.out]
            exact HR5.out.sub hb6
          · rw [← HST.out]
            exact HC5.out
          · have := hb6.size
            omega
        · obtain rfl : k = 4 := by omega
          have HCC := Lib.hid (show wr.heap[q + 1]? = some (.cells #[.int .i64 (cHd 0 s0 : Int), .int .i64 (cHd 1 s0 : Int), .int .i64 (cHd 2 s0 : Int), .int .i64 (cHd 3 s0 : Int)] 89 (0, 0)) from HCB.out)
          have hbp := (Below.refl wr.heap.size wr).alloc (Nat.le_refl _) (.cells #[.slice none 0 0, .slice none 0 0, .slice none 0 0, .slice none 0 0, .int .i64 0, .int .i64 0, .int .i64 0, .int .i64 0] 30)
          have HD0 := Lib.hid (show DS w1 (wr.alloc (.cells #[.slice none 0 0, .slice none 0 0, .slice none 0 0, .slice none 0 0, .int .i64 0, .int .i64 0, .int .i64 0, .int .i64 0] 30)) b1 q wr.heap.size s0 (sHd 4 s0) [.slice none 0 0, .slice none 0 0, .slice none 0 0, .slice none 0 0, .int .i64 0, .int .i64 0, .int .i64 0, .int .i64 0] from
            ⟨HRr.out.sub (hbp.mono (by omega)), (hbp.block _ (by omega)).trans HCC.out, heap_alloc_new wr _, HBr.out.trans (hbp.mono (by omega)), by omega⟩)
          clear hbp HCC HRr HCB HBr HRD4 HCB4 HB4
          go_wp2_with fail
          generalize wr.alloc (.cells #[.slice none 0 0, .slice none 0 0, .slice none 0 0, .slice none 0 0, .int .i64 0, .int .i64 0, .int .i64 0, .int .i64 0] 30) = wp at *
          obtain ⟨pb, hpb⟩ : ∃ pb, wr.heap.size = pb := ⟨_, rfl⟩
          rw [hpb] at HD0 hsz ⊢
          clear hpb hz4
          have hN : ∀ (k : Nat) W, Rd W b1 (q + 1) q (sHd k s0) → Calls Tryd.prog 41 #[.pointer (some ⟨q, 0, none⟩), .int .i64 2] W (fun e w' => e = .returned (.int .i64 (cHd k s0 : Int)) ∧ Rd w' b1 (q + 1) q (sHd (k + 1) s0) ∧ Sto b1 (q + 1) W w') := fun k W h => number_any q 2 2 rfl (by decide) (by decide) W b1 (q + 1) _ h
          have HN := Lib.hid hN
          clear hN
          refine (HN.out 4 _ HD0.out.rd).mono ?_
          rintro e w5 ⟨rfl, hr5, hs5⟩
          have HD5 := Lib.hid (HD0.out.call hr5 hs5)
          clear hr5 hs5 HD0
          go_wp2_with fail
          refine (HN.out 5 _ HD5.out.rd).mono ?_
          rintro e w6 ⟨rfl, hr6, hs6⟩
          have HD6 := Lib.hid (HD5.out.call hr6 hs6)
          clear hr6 hs6 HD5
          go_wp2_with fail
          refine (HN.out 6 _ HD6.out.rd).mono ?_
          rintro e w7 ⟨rfl, hr7, hs7⟩
          have HD7 := Lib.hid (HD6.out.call hr7 hs7)
          clear hr7 hs7 HD6
          have f4 := HD7.out.free 4
          have f5 := HD7.out.free 5
          have f6 := HD7.out.free 6
          have c4 := HD7.out.cell (k := 4) rfl
          have c5 := HD7.out.cell (k := 5) rfl
          have c6 := HD7.out.cell (k := 6) rfl
          have HD8 := Lib.hid (((HD7.out.put 4 (.int .i64 (cHd 4 s0 : Int))).put 5 (.int .i64 (cHd 5 s0 : Int))).put 6 (.int .i64 (cHd 6 s0 : Int)))
          clear HD7
          go_wp2_with fail
          generalize ((w7.setCell ⟨pb, 4, none⟩ (.int .i64 (cHd 4 s0 : Int))).setCell ⟨pb, 5, none⟩ (.int .i64 (cHd 5 s0 : Int))).setCell ⟨pb, 6, none⟩ (.int .i64 (cHd 6 s0 : Int)) = w8 at *
          have hF : Calls Tryd.prog 41 #[.pointer (some ⟨q, 0, none⟩), .int .i64 4] w8 (fun e w' => e = .returned (.int .i64 (nV 4 (sHd 7 s0) : Int)) ∧ Rd w' b1 (q + 1) q (sFu s0) ∧ Sto b1 (q + 1) w8 w') := number_any q 4 4 rfl (by decide) (by decide) w8 b1 (q + 1) _ HD8.out.rd
          refine hF.mono ?_
          rintro e w9 ⟨rfl, hr9, hs9⟩
          have HD9 := Lib.hid (HD8.out.call hr9 hs9)
          clear hr9 hs9 HD8 hF f4 f5 f6 c4 c5 c6
          have f7 := HD9.out.free 7
          have c7 := HD9.out.cell (k := 7) rfl
          obtain ⟨fu, hfu⟩ : ∃ fu : Nat, nV 4 (sHd 7 s0) = fu := ⟨_, rfl⟩
          rw [hfu]
          have HDA := Lib.hid (HD9.out.put 7 (.int .i64 (fu : Int)))
          have q0 : (w9.setCell ⟨pb, 7, none⟩ (.int .i64 (fu : Int))).cell? ⟨q + 1, 0, none⟩ = some (.int .i64 (cHd 0 s0 : Int)) := by rw [blk_cell HDA.out.cn]; rfl
          have HFU := Lib.hid hfu
          clear HD9 hfu
          go_wp2_with fail
          generalize w9.setCell ⟨pb, 7, none⟩ (.int .i64 (fu : Int)) = wA at *
          have hI : Calls Tryd.prog 42 #[.pointer (some ⟨q, 0, none⟩), .int .i64 (cHd 0 s0 : Int)] wA (fun e w' => ∃ A m c, e = .returned (.slice A m c) ∧ (rI s0).1.length = m ∧ w'.ownsRow wA.heap.size 33 3 (.slice A m c) m ((rI s0).1.map Ins.cells).flatten ∧ Rd w' b1 (q + 1) q (rI s0).2 ∧ Sto b1 (q + 1) wA w') := instrs_any q (cHd 0 s0) wA b1 (q + 1) _ HDA.out.rd (by have := nV_lt 2 (sHd 0 s0); unfold cHd; omega)
          refine hI.mono ?_
          rintro e wB ⟨A5, m5, c5, rfl, hm5, ho5, hrB, hsB⟩
          have HDB := Lib.hid (HDA.out.call hrB hsB)
          have hzA := HDA.out.size
          have HOI := Lib.hid (own_set (k := 0) (x := .slice A5 m5 c5) (own_base ho5 (show pb + 1 ≤ wA.heap.size by omega)) (Nat.lt_succ_self _))
          have HMI := Lib.hid hm5
          clear hrB hsB ho5 hm5 hI HDA f7 c7 q0
          have f0 := HDB.out.free 0
          have c0 := HDB.out.cell (k := 0) rfl
          have HDC := Lib.hid (HDB.out.put 0 (.slice A5 m5 c5))
          have q1 : (wB.setCell ⟨pb, 0, none⟩ (.slice A5 m5 c5)).cell? ⟨q + 1, 1, none⟩ = some (.int .i64 (cHd 1 s0 : Int)) := by rw [blk_cell HDC.out.cn]; rfl
          clear HDB
          go_wp2_with fail
          generalize wB.setCell ⟨pb, 0, none⟩ (.slice A5 m5 c5) = wC at *
          have hM : Calls Tryd.prog 43 #[.pointer (some ⟨q, 0, none⟩), .int .i64 (cHd 1 s0 : Int)] wC (fun e w' => ∃ A m c vs, e = .returned (.slice A m c) ∧ OBV w' wC.heap.size 5 39 (.slice A m c) m (rM s0).1 vs ∧ Rd w' b1 (q + 1) q (rM s0).2 ∧ Sto b1 (q + 1) wC w') := msgs_any q (cHd 1 s0) wC b1 (q + 1) _ HDC.out.rd (by have := nV_lt 2 (sHd 1 s0); unfold cHd; omega)
          refine hM.mono ?_
          rintro e wD ⟨A6, m6, c6, vm, rfl, ho6, hrD, hsD⟩
          have HDD := Lib.hid (HDC.out.call hrD hsD)
          have hzC := HDC.out.size
          have HOI1 := Lib.hid (own_set (k := 1) (x := .slice A6 m6 c6) (own_sto HOI.out hsD (by omega)) (Nat.lt_succ_self _))
          have HOM := Lib.hid ((ho6.base_le (show pb + 1 ≤ wC.heap.size by omega)).kept (grown_set wD pb 1 (.slice A6 m6 c6)) (Nat.lt_succ_self _))
          clear hrD hsD ho6 hM HDC f0 c0 q1 HOI
          have f1 := HDD.out.free 1
          have c1 := HDD.out.cell (k := 1) rfl
          have HDE := Lib.hid (HDD.out.put 1 (.slice A6 m6 c6))
          have q2 : (wD.setCell ⟨pb, 1, none⟩ (.slice A6 m6 c6)).cell? ⟨q + 1, 2, none⟩ = some (.int .i64 (cHd 2 s0 : Int)) := by rw [blk_cell HDE.out.cn]; rfl
          clear HDD
          go_wp2_with fail
          generalize wD.setCell ⟨pb, 1, none⟩ (.slice A6 m6 c6) = wE at *
          have hR : Calls Tryd.prog 44 #[.pointer (some ⟨q, 0, none⟩), .int .i64 (cHd 2 s0 : Int)] wE (fun e w' => ∃ A m c vs, e = .returned (.slice A m c) ∧ ORt w' wE.heap.size (.slice A m c) m (rR s0).1 vs ∧ Rd w' b1 (q + 1) q (rR s0).2 ∧ Sto b1 (q + 1) wE w') := routes_any q (cHd 2 s0) wE b1 (q + 1) _ HDE.out.rd (by have := nV_lt 2 (sHd 2 s0); unfold cHd; omega)
          refine hR.mono ?_
          rintro e wF ⟨A7, m7, c7, vr, rfl, ho7, hrF, hsF⟩
          have HDF := Lib.hid (HDE.out.call hrF hsF)
          have hzE := HDE.out.size
          have HOI2 := Lib.hid (own_set (k := 2) (x := .slice A7 m7 c7) (own_sto HOI1.out hsF (by omega)) (Nat.lt_succ_self _))
          have HOM2 := Lib.hid ((obv_sto HOM.out hsF (by omega)).kept (grown_set wF pb 2 (.slice A7 m7 c7)) (Nat.lt_succ_self _))
          have HOR := Lib.hid (own_set_rt (k := 2) (x := .slice A7 m7 c7) (ort_base ho7 (show pb + 1 ≤ wE.heap.size by omega)) (Nat.lt_succ_self _))
          clear hrF hsF ho7 hR HDE f1 c1 q2 HOI1 HOM
          have f2 := HDF.out.free 2
          have c2 := HDF.out.cell (k := 2) rfl
          have HDG := Lib.hid (HDF.out.put 2 (.slice A7 m7 c7))
          have q3 : (wF.setCell ⟨pb, 2, none⟩ (.slice A7 m7 c7)).cell? ⟨q + 1, 3, none⟩ = some (.int .i64 (cHd 3 s0 : Int)) := by rw [blk_cell HDG.out.cn]; rfl
          clear HDF
          go_wp2_with fail
          generalize wF.setCell ⟨pb, 2, none⟩ (.slice A7 m7 c7) = wG at *
          have hS : Calls Tryd.prog 45 #[.pointer (some ⟨q, 0, none⟩), .int .i64 (cHd 3 s0 : Int)] wG (fun e w' => ∃ A m c css, e = .returned (.slice A m c) ∧ OSn w' wG.heap.size (.slice A m c) m (rS s0).1 css ∧ Rd w' b1 (q + 1) q (rS s0).2 ∧ Sto b1 (q + 1) wG w') := sends_any q (cHd 3 s0) wG b1 (q + 1) _ HDG.out.rd (by have := nV_lt 2 (sHd 3 s0); unfold cHd; omega)
          refine hS.mono ?_
          rintro e wH ⟨A8, m8, c8, css, rfl, ho8, hrH, hsH⟩
          have HDH := Lib.hid (HDG.out.call hrH hsH)
          have hzG := HDG.out.size
          have hl1 := rep_len fI (cHd 0 s0) (sFu s0)
          have hl2 := rep_len fM (cHd 1 s0) (rI s0).2
          have hl3 := rep_len fR (cHd 2 s0) (rM s0).2
          have hl4' := rep_len fS (cHd 3 s0) (rR s0).2
          have hc0 := nV_lt 2 (sHd 0 s0)
          have hc1 := nV_lt 2 (sHd 1 s0)
          have hc2 := nV_lt 2 (sHd 2 s0)
          have hc3 := nV_lt 2 (sHd 3 s0)
          have hPO : PO (wH.setCell ⟨pb, 3, none⟩ (.slice A8 m8 c8)) (pb + 1) ⟨A5, m5, c5, A6, m6, c6, A7, m7, c7, A8, m8, c8⟩ (rdP s0) vm := by
            have e1 : (rI s0).1.length = m5 := HMI.out
            have e2 : (rM s0).1.length = m6 := HOM2.out.1
            have e3 : (rR s0).1.length = m7 := HOR.out.1
            have e4 : (rS s0).1.length = m8 := ho8.1
            refine ⟨own_set (own_sto HOI2.out hsH (by omega)) (Nat.lt_succ_self _), HMI.out, (obv_sto HOM2.out hsH (by omega)).kept (grown_set wH pb 3 (.slice A8 m8 c8)) (Nat.lt_succ_self _), ⟨vr, own_set_rt (ort_sto HOR.out hsH (by omega)) (Nat.lt_succ_self _)⟩, ⟨css, own_set_sn (osn_base ho8 (show pb + 1 ≤ wG.heap.size by omega)) (Nat.lt_succ_self _)⟩, ?_, ?_, ?_, ?_⟩
            · show m5 ≤ 65535
              rw [← e1]
              exact Nat.le_trans hl1 (by unfold cHd; omega)
            · show m6 ≤ 65535
              rw [← e2]
              exact Nat.le_trans hl2 (by unfold cHd; omega)
            · show m7 ≤ 65535
              rw [← e3]
              exact Nat.le_trans hl3 (by unfold cHd; omega)
            · show m8 ≤ 65535
              rw [← e4]
              exact Nat.le_trans hl4' (by unfold cHd; omega)
          have HPO := Lib.hid hPO
          clear hrH hsH ho8 hS HDG f2 c2 q3 HOI2 HOM2 HOR hl1 hl2 hl3 hl4' hc0 hc1 hc2 hc3 hPO HMI
          have f3 := HDH.out.free 3
          have c3 := HDH.out.cell (k := 3) rfl
          have HDI := Lib.hid (HDH.out.put 3 (.slice A8 m8 c8))
          clear HDH HN
          obtain ⟨g, hg⟩ : ∃ g, w.heap.size = g := ⟨_, rfl⟩
          have hfin : ∀ (W : World) (d : Pad) (p' : Prg) (vm' : List Value) (err : Int), Below b1 w1 W → PO W b1 d p' vm' → D = (p', err) →
              decPost w D (.returned (.tuple #[.agg (pcs d p'), .int .i64 err])) ((((((((W.setCell ⟨g, 0, none⟩ (.slice d.A1 d.n1 d.c1)).setCell ⟨g, 1, none⟩ (.slice d.A2 d.n2 d.c2)).setCell ⟨g, 2, none⟩ (.slice d.A3 d.n3 d.c3)).setCell ⟨g, 3, none⟩ (.slice d.A4 d.n4 d.c4)).setCell ⟨g, 4, none⟩ (.int .i64 p'.vars)).setCell ⟨g, 5, none⟩ (.int .i64 p'.stack)).setCell ⟨g, 6, none⟩ (.int .i64 p'.blocks)).setCell ⟨g, 7, none⟩ (.int .i64 p'.fuel)) := by
            intro W d p' vm' err hb hpo hDe
            have hbw := HB1.out
            rw [hg] at hbw
            refine ⟨d, vm', by rw [hDe], ?_, ?_⟩
            · rw [hDe, hg]
              exact (hpo.far fun b hb => set_far8 _ _ _ _ _ _ _ _ _ _ b (by omega)).base_le (by omega)
            · rw [hg]
              exact hbw.trans ((hb.mono (by omega)).trans (set_below8 _ _ _ _ _ _ _ _ _ _))
          have HFIN := Lib.hid hfin
          have hgz : ∀ W : World, Below b1 w1 W → W.heap[g]? = some (.cells #[.slice none 0 0, .slice none 0 0, .slice none 0 0, .slice none 0 0, .int .i64 0, .int .i64 0, .int .i64 0, .int .i64 0] 30 (0, 0)) := fun W hb => (hb.block g (by omega)).trans (by rw [← hg]; exact HGE.out)
          have HGZ := Lib.hid hgz
          have HGG := Lib.hid hg
          have HP1 := Lib.hid (HPO.out.base_le (show b1 ≤ pb + 1 by omega))
          rw [hg] at hz1 ⊢
          clear hfin hgz hg HGE HG1 HB1 HR1 HP0 HPO
          have hsh := HDI.out.rd.short
          obtain ⟨se, hse⟩ : ∃ se, (rS s0).2 = se := ⟨_, rfl⟩
          have HSE := Lib.hid hse
          rw [hse] at hsh HDI
          clear hse
          rcases se with _ | r
          · have hsh' : (wH.setCell ⟨pb, 3, none⟩ (.slice A8 m8 c8)).cell? ⟨q, 1, none⟩ = some (.bool true) := hsh
            clear hsh
            have HDE := Lib.hid (show D = (pZ, 2) by rw [HD.out]; unfold dcB; rw [HSE.out, if_neg (fun h => by cases h)])
            have hG := HGZ.out _ HDI.out.bl
            have z0 : (wH.setCell ⟨pb, 3, none⟩ (.slice A8 m8 c8)).cell? ⟨g, 0, none⟩ = some (.slice none 0 0) := by rw [blk_cell hG]; rfl
            have z1 : (wH.setCell ⟨pb, 3, none⟩ (.slice A8 m8 c8)).cell? ⟨g, 1, none⟩ = some (.slice none 0 0) := by rw [blk_cell hG]; rfl
            have z2 : (wH.setCell ⟨pb, 3, none⟩ (.slice A8 m8 c8)).cell? ⟨g, 2, none⟩ = some (.slice none 0 0) := by rw [blk_cell hG]; rfl
            have z3 : (wH.setCell ⟨pb, 3, none⟩ (.slice A8 m8 c8)).cell? ⟨g, 3, none⟩ = some (.slice none 0 0) := by rw [blk_cell hG]; rfl
            have z4 : (wH.setCell ⟨pb, 3, none⟩ (.slice A8 m8 c8)).cell? ⟨g, 4, none⟩ = some (.int .i64 0) := by rw [blk_cell hG]; rfl
            have z5 : (wH.setCell ⟨pb, 3, none⟩ (.slice A8 m8 c8)).cell? ⟨g, 5, none⟩ = some (.int .i64 0) := by rw [blk_cell hG]; rfl
            have z6 : (wH.setCell ⟨pb, 3, none⟩ (.slice A8 m8 c8)).cell? ⟨g, 6, none⟩ = some (.int .i64 0) := by rw [blk_cell hG]; rfl
            have z7 : (wH.setCell ⟨pb, 3, none⟩ (.slice A8 m8 c8)).cell? ⟨g, 7, none⟩ = some (.int .i64 0) := by rw [blk_cell hG]; rfl
            have y0 : (wH.setCell ⟨pb, 3, none⟩ (.slice A8 m8 c8)).frozen? ⟨g, 0, none⟩ = false := frozen_of_row _ _ _ _ _ hG
            have y1 : (wH.setCell ⟨pb, 3, none⟩ (.slice A8 m8 c8)).frozen? ⟨g, 1, none⟩ = false := frozen_of_row _ _ _ _ _ hG
            have y2 : (wH.setCell ⟨pb, 3, none⟩ (.slice A8 m8 c8)).frozen? ⟨g, 2, none⟩ = false := frozen_of_row _ _ _ _ _ hG
            have y3 : (wH.setCell ⟨pb, 3, none⟩ (.slice A8 m8 c8)).frozen? ⟨g, 3, none⟩ = false := frozen_of_row _ _ _ _ _ hG
            have y4 : (wH.setCell ⟨pb, 3, none⟩ (.slice A8 m8 c8)).frozen? ⟨g, 4, none⟩ = false := frozen_of_row _ _ _ _ _ hG
            have y5 : (wH.setCell ⟨pb, 3, none⟩ (.slice A8 m8 c8)).frozen? ⟨g, 5, none⟩ = false := frozen_of_row _ _ _ _ _ hG
            have y6 : (wH.setCell ⟨pb, 3, none⟩ (.slice A8 m8 c8)).frozen? ⟨g, 6, none⟩ = false := frozen_of_row _ _ _ _ _ hG
            have y7 : (wH.setCell ⟨pb, 3, none⟩ (.slice A8 m8 c8)).frozen? ⟨g, 7, none⟩ = false := frozen_of_row _ _ _ _ _ hG
            clear hG
            go_wp2_with fail
            (try simp only [Exit.inBlock, Exit.then])
            refine bodyPost_ret (v := .tuple #[.agg #[.slice none 0 0, .slice none 0 0, .slice none 0 0, .slice none 0 0, .int .i64 0, .int .i64 0, .int .i64 0, .int .i64 0], .int .i64 2]) (results_cell_tmpD rfl _ _ _ ⟨g, 0, none⟩ _ _ rfl rfl (prg_load _ _ _ _ _ _ _ _ _ _ (prg_set _ _ _ _ _ _ _ _ _ _ _ _ _ _ _ _ _ _ _ (HGZ.out _ (HDI.out.bl))))) rfl ?_
            exact HFIN.out _ dZ pZ [] 2 (HDI.out.bl) (PO.nil _ _) HDE.out
          · have hsh' : (wH.setCell ⟨pb, 3, none⟩ (.slice A8 m8 c8)).cell? ⟨q, 1, none⟩ = some (.bool false) := hsh
            clear hsh
            obtain ⟨p', hp', hleft⟩ := left_rd HDI.out.rd
            have HLF := Lib.hid hleft
            clear hleft
            go_wp2_with fail
            refine HLF.out.mono ?_
            rintro e wJ ⟨rfl, kJ, hwJ⟩
            have HDJ := Lib.hid (show DS w1 wJ b1 q pb s0 (some r) _ by rw [hwJ]; exact ⟨HDI.out.rd.sub (below_drewN (Below.refl _ _) kJ), HDI.out.cn, HDI.out.pp, below_drewN HDI.out.bl kJ, HDI.out.lt⟩)
            have HP2 := Lib.hid (show PO wJ b1 _ _ vm by rw [hwJ]; exact HP1.out.later (below_drewN (Below.refl _ _) kJ))
            have hG := HGZ.out _ HDJ.out.bl
            have z0 : (wJ).cell? ⟨g, 0, none⟩ = some (.slice none 0 0) := by rw [blk_cell hG]; rfl
            have z1 : (wJ).cell? ⟨g, 1, none⟩ = some (.slice none 0 0) := by rw [blk_cell hG]; rfl
            have z2 : (wJ).cell? ⟨g, 2, none⟩ = some (.slice none 0 0) := by rw [blk_cell hG]; rfl
            have z3 : (wJ).cell? ⟨g, 3, none⟩ = some (.slice none 0 0) := by rw [blk_cell hG]; rfl
            have z4 : (wJ).cell? ⟨g, 4, none⟩ = some (.int .i64 0) := by rw [blk_cell hG]; rfl
            have z5 : (wJ).cell? ⟨g, 5, none⟩ = some (.int .i64 0) := by rw [blk_cell hG]; rfl
            have z6 : (wJ).cell? ⟨g, 6, none⟩ = some (.int .i64 0) := by rw [blk_cell hG]; rfl
            have z7 : (wJ).cell? ⟨g, 7, none⟩ = some (.int .i64 0) := by rw [blk_cell hG]; rfl
            have y0 : (wJ).frozen? ⟨g, 0, none⟩ = false := frozen_of_row _ _ _ _ _ hG
            have y1 : (wJ).frozen? ⟨g, 1, none⟩ = false := frozen_of_row _ _ _ _ _ hG
            have y2 : (wJ).frozen? ⟨g, 2, none⟩ = false := frozen_of_row _ _ _ _ _ hG
            have y3 : (wJ).frozen? ⟨g, 3, none⟩ = false := frozen_of_row _ _ _ _ _ hG
            have y4 : (wJ).frozen? ⟨g, 4, none⟩ = false := frozen_of_row _ _ _ _ _ hG
            have y5 : (wJ).frozen? ⟨g, 5, none⟩ = false := frozen_of_row _ _ _ _ _ hG
            have y6 : (wJ).frozen? ⟨g, 6, none⟩ = false := frozen_of_row _ _ _ _ _ hG
            have y7 : (wJ).frozen? ⟨g, 7, none⟩ = false := frozen_of_row _ _ _ _ _ hG
            clear hG hwJ HLF HDI HP1 hsh' hp' f3 c3
            rcases r with _ | ⟨x, r⟩
            · have p0 : wJ.cell? ⟨pb, 0, none⟩ = some (.slice A5 m5 c5) := HDJ.out.cell rfl
              have p1 : wJ.cell? ⟨pb, 1, none⟩ = some (.slice A6 m6 c6) := HDJ.out.cell rfl
              have p2 : wJ.cell? ⟨pb, 2, none⟩ = some (.slice A7 m7 c7) := HDJ.out.cell rfl
              have p3 : wJ.cell? ⟨pb, 3, none⟩ = some (.slice A8 m8 c8) := HDJ.out.cell rfl
              have p4 : wJ.cell? ⟨pb, 4, none⟩ = some (.int .i64 (cHd 4 s0 : Int)) := HDJ.out.cell rfl
              have p5 : wJ.cell? ⟨pb, 5, none⟩ = some (.int .i64 (cHd 5 s0 : Int)) := HDJ.out.cell rfl
              have p6 : wJ.cell? ⟨pb, 6, none⟩ = some (.int .i64 (cHd 6 s0 : Int)) := HDJ.out.cell rfl
              have p7 : wJ.cell? ⟨pb, 7, none⟩ = some (.int .i64 (fu : Int)) := HDJ.out.cell rfl
              have hag : pcs ⟨A5, m5, c5, A6, m6, c6, A7, m7, c7, A8, m8, c8⟩ (rdP s0) = #[.slice A5 m5 c5, .slice A6 m6 c6, .slice A7 m7 c7, .slice A8 m8 c8, .int .i64 (cHd 4 s0 : Int), .int .i64 (cHd 5 s0 : Int), .int .i64 (cHd 6 s0 : Int), .int .i64 (fu : Int)] := by rw [← HFU.out]; rfl
              have hck := CodeCheck_any _ _ wJ _ HP2.out.pr (Nat.le_refl _)
              rw [hag] at hck
              obtain ⟨ck, hckd⟩ : ∃ ck, ckP (rdP s0) = ck := ⟨_, rfl⟩
              rw [hckd] at hck
              have HCK := Lib.hid hck
              have HKD := Lib.hid hckd
              have HAG := Lib.hid hag
              clear hck hckd hag
              go_wp2_with fail
              refine HCK.out.mono ?_
              rintro e wK ⟨rfl, hbK⟩
              have HBK := Lib.hid (HDJ.out.bl.trans (hbK.mono (by have h1 := HDJ.out.rd.base; have h2 := HDJ.out.rd.top; omega)))
              have HP3 := Lib.hid (HP2.out.later hbK)
              have hPB := (hbK.block pb HDJ.out.size).trans HDJ.out.pp
              have hG := HGZ.out _ HBK.out
              clear z0 z1 z2 z3 z4 z5 z6 z7 y0 y1 y2 y3 y4 y5 y6 y7 p0 p1 p2 p3 p4 p5 p6 p7 hbK HCK HP2 HDJ
              have z0 : (wK).cell? ⟨g, 0, none⟩ = some (.slice none 0 0) := by rw [blk_cell hG]; rfl
              have z1 : (wK).cell? ⟨g, 1, none⟩ = some (.slice none 0 0) := by rw [blk_cell hG]; rfl
              have z2 : (wK).cell? ⟨g, 2, none⟩ = some (.slice none 0 0) := by rw [blk_cell hG]; rfl
              have z3 : (wK).cell? ⟨g, 3, none⟩ = some (.slice none 0 0) := by rw [blk_cell hG]; rfl
              have z4 : (wK).cell? ⟨g, 4, none⟩ = some (.int .i64 0) := by rw [blk_cell hG]; rfl
              have z5 : (wK).cell? ⟨g, 5, none⟩ = some (.int .i64 0) := by rw [blk_cell hG]; rfl
              have z6 : (wK).cell? ⟨g, 6, none⟩ = some (.int .i64 0) := by rw [blk_cell hG]; rfl
              have z7 : (wK).cell? ⟨g, 7, none⟩ = some (.int .i64 0) := by rw [blk_cell hG]; rfl
              have y0 : (wK).frozen? ⟨g, 0, none⟩ = false := frozen_of_row _ _ _ _ _ hG
              have y1 : (wK).frozen? ⟨g, 1, none⟩ = false := frozen_of_row _ _ _ _ _ hG
              have y2 : (wK).frozen? ⟨g, 2, none⟩ = false := frozen_of_row _ _ _ _ _ hG
              have y3 : (wK).frozen? ⟨g, 3, none⟩ = false := frozen_of_row _ _ _ _ _ hG
              have y4 : (wK).frozen? ⟨g, 4, none⟩ = false := frozen_of_row _ _ _ _ _ hG
              have y5 : (wK).frozen? ⟨g, 5, none⟩ = false := frozen_of_row _ _ _ _ _ hG
              have y6 : (wK).frozen? ⟨g, 6, none⟩ = false := frozen_of_row _ _ _ _ _ hG
              have y7 : (wK).frozen? ⟨g, 7, none⟩ = false := frozen_of_row _ _ _ _ _ hG
              by_cases hc0 : ck = 0
              · subst hc0
                have HDE := Lib.hid (show D = (rdP s0, 0) by rw [HD.out]; unfold dcB; rw [HSE.out, if_pos rfl, if_pos HKD.out])
                have p0 : wK.cell? ⟨pb, 0, none⟩ = some (.slice A5 m5 c5) := by rw [blk_cell hPB]; rfl
                have p1 : wK.cell? ⟨pb, 1, none⟩ = some (.slice A6 m6 c6) := by rw [blk_cell hPB]; rfl
                have p2 : wK.cell? ⟨pb, 2, none⟩ = some (.slice A7 m7 c7) := by rw [blk_cell hPB]; rfl
                have p3 : wK.cell? ⟨pb, 3, none⟩ = some (.slice A8 m8 c8) := by rw [blk_cell hPB]; rfl
                have p4 : wK.cell? ⟨pb, 4, none⟩ = some (.int .i64 (cHd 4 s0 : Int)) := by rw [blk_cell hPB]; rfl
                have p5 : wK.cell? ⟨pb, 5, none⟩ = some (.int .i64 (cHd 5 s0 : Int)) := by rw [blk_cell hPB]; rfl
                have p6 : wK.cell? ⟨pb, 6, none⟩ = some (.int .i64 (cHd 6 s0 : Int)) := by rw [blk_cell hPB]; rfl
                have p7 : wK.cell? ⟨pb, 7, none⟩ = some (.int .i64 (fu : Int)) := by rw [blk_cell hPB]; rfl
                clear hG hPB
                go_wp2_with fail
                (try simp only [Exit.inBlock, Exit.then])
                refine bodyPost_ret (v := .tuple #[.agg #[.slice A5 m5 c5, .slice A6 m6 c6, .slice A7 m7 c7, .slice A8 m8 c8, .int .i64 (cHd 4 s0 : Int), .int .i64 (cHd 5 s0 : Int), .int .i64 (cHd 6 s0 : Int), .int .i64 (fu : Int)], .int .i64 0]) (results_cell_tmpD rfl _ _ _ ⟨g, 0, none⟩ _ _ rfl rfl (prg_load _ _ _ _ _ _ _ _ _ _ (prg_set _ _ _ _ _ _ _ _ _ _ _ _ _ _ _ _ _ _ _ (HGZ.out _ HBK.out)))) rfl ?_
                have hf := HFIN.out wK ⟨A5, m5, c5, A6, m6, c6, A7, m7, c7, A8, m8, c8⟩ (rdP s0) vm 0 HBK.out HP3.out HDE.out
                rw [HAG.out, show (rdP s0).fuel = (fu : Int) by rw [← HFU.out]; rfl] at hf
                exact hf
              · have hcb : (ck != 0) = true := by rw [bne_iff_ne]; exact hc0
                have HDE := Lib.hid (show D = (pZ, ck) by rw [HD.out]; unfold dcB; rw [HSE.out, if_pos rfl, HKD.out, if_neg hc0])
                clear hG hPB hc0
                go_wp2_with fail
                (try simp only [Exit.inBlock, Exit.then])
                refine bodyPost_ret (v := .tuple #[.agg #[.slice none 0 0, .slice none 0 0, .slice none 0 0, .slice none 0 0, .int .i64 0, .int .i64 0, .int .i64 0, .int .i64 0], .int .i64 ck]) (results_cell_tmpD rfl _ _ _ ⟨g, 0, none⟩ _ _ rfl rfl (prg_load _ _ _ _ _ _ _ _ _ _ (prg_set _ _ _ _ _ _ _ _ _ _ _ _ _ _ _ _ _ _ _ (HGZ.out _ (HBK.out))))) rfl ?_
                exact HFIN.out _ dZ pZ [] ck (HBK.out) (PO.nil _ _) HDE.out
            · have HDE := Lib.hid (show D = (pZ, 2) by rw [HD.out]; unfold dcB; rw [HSE.out, if_neg (fun h => by cases h)])
              have hrl : (0 : Int) < (((x :: r).length : Nat) : Int) := by rw [List.length_cons]; omega
              generalize (x :: r).length = nr at *
              go_wp2_with fail
              (try simp only [Exit.inBlock, Exit.then])
              refine bodyPost_ret (v := .tuple #[.agg #[.slice none 0 0, .slice none 0 0, .slice none 0 0, .slice none 0 0, .int .i64 0, .int .i64 0, .int .i64 0, .int .i64 0], .int .i64 2]) (results_cell_tmpD rfl _ _ _ ⟨g, 0, none⟩ _ _ rfl rfl (prg_load _ _ _ _ _ _ _ _ _ _ (prg_set _ _ _ _ _ _ _ _ _ _ _ _ _ _ _ _ _ _ _ (HGZ.out _ (HDJ.out.bl))))) rfl ?_
              exact HFIN.out _ dZ pZ [] 2 (HDJ.out.bl) (PO.nil _ _) HDE.out
end Go.Proofs.YtkmcjjoicpgjfaaDoor
