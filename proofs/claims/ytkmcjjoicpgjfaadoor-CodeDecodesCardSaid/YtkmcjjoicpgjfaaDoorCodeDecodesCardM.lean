/-
  shallot: CodeDecodesCardSaid is proved: for every input the law returns true, and the argument reads afterwards as it read before; the listed tables are tied to the program's text. Conditions: none but the statement's own.
-/
import Derived.Test.YtkmcjjoicpgjfaaDoorDec
import Derived.Test.YtkmcjjoicpgjfaaDoorCodeEncP
import Derived.Lib.AppendStr
import Derived.Lib.SlBytesConst
import Derived.Shelf.Strconv.Itoa0
import Derived.Shelf.Strconv.Itoa1
import Derived.Shelf.LaysM
import Derived.Shelf.Strconv.Itoa2
import Derived.Shelf.Strconv.Itoa3
import Derived.Shelf.Strconv.Itoa4
import Derived.Lib.AppendIntMem
import Derived.Test.YtkmcjjoicpgjfaaDoorProg
import Derived.Test.YtkmcjjoicpgjfaaDoorCodeLine
import Derived.Test.YtkmcjjoicpgjfaaDoorVerOwn
import Derived.Test.YtkmcjjoicpgjfaaDoorLists
import Derived.Test.YtkmcjjoicpgjfaaDoorRfDec
import Derived.Test.YtkmcjjoicpgjfaaDoorOpen
import Derived.Test.YtkmcjjoicpgjfaaDoorCards
import Derived.Test.YtkmcjjoicpgjfaaDoorTie
import Derived.WalkKit
import Derived.ProofKit
import Derived.OpenShut
import Derived.Deep.DeepHandedRow
import Derived.Lib.LaidTab
import Derived.Stop.LaidErr
import Derived.LaidMore
/-
  What was read whole is written as it was: the bytes of the program that Decode answers are the bytes themselves. In plain Lean; no statement of the seat is proved here.
-/
namespace Go.Proofs.YtkmcjjoicpgjfaaDoor
open Go Go.RowKit Go.Sh

theorem beB_one (v : Nat) : beB 1 (v : Int) = [UInt8.ofNat v] := by
  show [beK (v : Int) 0] = _
  unfold beK
  congr 1
  have : ((v : Int) / 2 ^ (8 * 0) % 256).toNat = v % 256 := by
    simp
    omega
  rw [this]
  apply UInt8.toNat_inj.1
  simp
theorem beB_sgn (a : Nat) : beB 4 (sgn a) = beB 4 (a : Int) := by
  have h : ∀ k, k < 4 → beK (sgn a) k = beK (a : Int) k := by
    intro k hk
    unfold sgn
    by_cases hb : 2147483647 < a
    · rw [if_pos hb]
      unfold beK
      have : ((a : Int) - 4294967296) / 2 ^ (8 * k) % 256 = (a : Int) / 2 ^ (8 * k) % 256 := by
        rcases (show k = 0 ∨ k = 1 ∨ k = 2 ∨ k = 3 by omega) with rfl | rfl | rfl | rfl <;> simp <;> omega
      rw [this]
    · rw [if_neg hb]
  show [beK _ 3, beK _ 2, beK _ 1, beK _ 0] = [beK _ 3, beK _ 2, beK _ 1, beK _ 0]
  rw [h 3 (by decide), h 2 (by decide), h 1 (by decide), h 0 (by decide)]
theorem fI_back (s : Sx) (r : List UInt8) (h : (fI s).2 = some r) : ∃ q, s = some q ∧ q = encI (fI s).1 ++ r := by
  obtain ⟨q2, e2, h2⟩ := nV_back (d := 2) h
  obtain ⟨q1, e1, h1⟩ := nV_back (d := 4) e2
  obtain ⟨q, e, h0⟩ := nV_back (d := 1) e1
  refine ⟨q, e, ?_⟩
  show q = (UInt8.ofNat (nV 1 s) :: (beB 4 (sgn (nV 4 (nS 1 s))) ++ beB 2 (nV 2 (nS 4 (nS 1 s)) : Int))) ++ r
  rw [beB_sgn, h0, h1, h2, beB_one]
  simp
theorem fM_back (s : Sx) (r : List UInt8) (h : (fM s).2 = some r) : ∃ q, s = some q ∧ q = encM (fM s).1 ++ r := by
  obtain ⟨q1, e1, h1, hl⟩ := pV_back h
  obtain ⟨q, e, h0⟩ := nV_back (d := 2) e1
  refine ⟨q, e, ?_⟩
  show q = (beB 2 ((pV (nV 2 s) (nS 2 s)).length : Int) ++ pV (nV 2 s) (nS 2 s)) ++ r
  rw [hl, h0, List.append_assoc, ← h1]
theorem fT_back (s : Sx) (r : List UInt8) (h : (fT s).2 = some r) : ∃ q, s = some q ∧ q = encT (fT s).1 ++ r := by
  obtain ⟨q3, e3, h3⟩ := nV_back (d := 1) h
  obtain ⟨q2, e2, h2⟩ := nV_back (d := 4) e3
  obtain ⟨q1, e1, h1, hl⟩ := pV_back e2
  obtain ⟨q, e, h0⟩ := nV_back (d := 1) e1
  refine ⟨q, e, ?_⟩
  show q = (beB 1 (((pV (nV 1 s) (nS 1 s)).toArray.size : Nat) : Int) ++ ((pV (nV 1 s) (nS 1 s)).toArray.toList ++ (beB 4 (nV 4 (nS (nV 1 s) (nS 1 s)) : Int) ++ beB 1 (nV 1 (nS 4 (nS (nV 1 s) (nS 1 s))) : Int)))) ++ r
  rw [List.size_toArray, hl, h0, h1, h2, h3]
  simp
theorem fR_back (s : Sx) (r : List UInt8) (h : (fR s).2 = some r) : ∃ q, s = some q ∧ q = encRt (fR s).1 ++ r := by
  obtain ⟨q1, e1, h1, hl⟩ := rep_back fT encT fT_back _ _ _ h
  obtain ⟨q, e, h0⟩ := nV_back (d := 1) e1
  refine ⟨q, e, ?_⟩
  show q = (beB 1 ((rep fT (nV 1 s) (nS 1 s)).1.length : Int) ++ (rep fT (nV 1 s) (nS 1 s)).1.flatMap encT) ++ r
  rw [hl, h0, List.append_assoc, ← h1]
theorem fN_back (s : Sx) (r : List UInt8) (h : (fN s).2 = some r) : ∃ q, s = some q ∧ q = beB 1 (fN s).1 ++ r := nV_back (d := 1) h
theorem fS_back (s : Sx) (r : List UInt8) (h : (fS s).2 = some r) : ∃ q, s = some q ∧ q = encSd (fS s).1 ++ r := by
  obtain ⟨q3, e3, h3⟩ := nV_back (d := 1) h
  obtain ⟨q2, e2, h2, hl⟩ := rep_back fN (beB 1) fN_back _ _ _ e3
  obtain ⟨q1, e1, h1⟩ := nV_back (d := 1) e2
  obtain ⟨q, e, h0⟩ := nV_back (d := 1) e1
  refine ⟨q, e, ?_⟩
  show q = (beB 1 (nV 1 s : Int) ++ (beB 1 ((rep fN (nV 1 (nS 1 s)) (nS 1 (nS 1 s))).1.length : Int) ++ ((rep fN (nV 1 (nS 1 s)) (nS 1 (nS 1 s))).1.flatMap (beB 1) ++ beB 1 ((nV 1 (rep fN (nV 1 (nS 1 s)) (nS 1 (nS 1 s))).2 : Int) - 1 + 1)))) ++ r
  rw [hl, h0, h1, h2, h3, Int.sub_add_cancel]
  simp only [List.append_assoc]
/-- the program that is read whole has these bytes -/
theorem rd_enc {l : List UInt8} (h : (rS (some l)).2 = some []) : (headsP (rdP (some l))).flatMap (beB 2) ++ tl0 (rdP (some l)) = l := by
  obtain ⟨q4, e4, h4, l4⟩ := rep_back fS encSd fS_back _ _ _ h
  obtain ⟨q3, e3, h3, l3⟩ := rep_back fR encRt fR_back _ _ _ e4
  obtain ⟨q2, e2, h2, l2⟩ := rep_back fM encM fM_back _ _ _ e3
  obtain ⟨q1, e1, h1, l1⟩ := rep_back fI encI fI_back _ _ _ e2
  obtain ⟨p7, g7, k7⟩ := nV_back (d := 4) e1
  obtain ⟨p6, g6, k6⟩ := nV_back (d := 2) g7
  obtain ⟨p5, g5, k5⟩ := nV_back (d := 2) g6
  obtain ⟨p4, g4, k4⟩ := nV_back (d := 2) g5
  obtain ⟨p3, g3, k3⟩ := nV_back (d := 2) g4
  obtain ⟨p2, g2, k2⟩ := nV_back (d := 2) g3
  obtain ⟨p1, g1, k1⟩ := nV_back (d := 2) g2
  obtain ⟨p0, g0, k0⟩ := nV_back (d := 2) g1
  injection g0 with g0
  subst g0
  have c1 : (rdP (some l)).code.length = cHd 0 (some l) := l1
  have c2 : (rdP (some l)).msgs.length = cHd 1 (some l) := l2
  have c3 : (rdP (some l)).rts.length = cHd 2 (some l) := l3
  have c4 : (rdP (some l)).snds.length = cHd 3 (some l) := l4
  have t3 : tl3 (rdP (some l)) = q4 := by rw [h4, List.append_nil]; rfl
  have t2 : tl2 (rdP (some l)) = q3 := by unfold tl2; rw [t3, h3]; rfl
  have t1 : tl1 (rdP (some l)) = q2 := by unfold tl1; rw [t2, h2]; rfl
  have t0 : tl0 (rdP (some l)) = p7 := by unfold tl0; rw [t1, k7, h1]; rfl
  rw [t0]
  unfold headsP
  rw [c1, c2, c3, c4]
  show beB 2 (cHd 0 (some l) : Int) ++ (beB 2 (cHd 1 (some l) : Int) ++ (beB 2 (cHd 2 (some l) : Int) ++ (beB 2 (cHd 3 (some l) : Int) ++ (beB 2 (cHd 4 (some l) : Int) ++ (beB 2 (cHd 5 (some l) : Int) ++ (beB 2 (cHd 6 (some l) : Int) ++ [])))))) ++ p7 = l
  simp only [List.append_assoc, List.nil_append]
  exact ((((((k0.trans (congrArg _ k1)).trans (congrArg _ (congrArg _ k2))).trans (congrArg _ (congrArg _ (congrArg _ k3)))).trans (congrArg _ (congrArg _ (congrArg _ (congrArg _ k4))))).trans (congrArg _ (congrArg _ (congrArg _ (congrArg _ (congrArg _ k5)))))).trans (congrArg _ (congrArg _ (congrArg _ (congrArg _ (congrArg _ (congrArg _ k6))))))).symm
theorem dec_enc {l : List UInt8} {p : Prg} (h : dcP l = (p, 0)) : ckP p = 0 ∧ encP p = l := by
  unfold dcP at h
  by_cases h4 : l.length < 4
  · rw [if_pos h4] at h
    injection h with _ h
    cases h
  · rw [if_neg h4] at h
    by_cases hm : l.take 4 = [115, 104, 108, 49]
    · rw [if_pos hm] at h
      unfold dcB at h
      by_cases hs : (rS (some (l.drop 4))).2 = some []
      · rw [if_pos hs] at h
        by_cases hc : ckP (rdP (some (l.drop 4))) = 0
        · rw [if_pos hc] at h
          injection h with h _
          subst h
          refine ⟨hc, ?_⟩
          unfold encP
          rw [rd_enc hs, ← hm, List.take_append_drop]
        · rw [if_neg hc] at h
          injection h with _ h
          exact absurd h hc
      · rw [if_neg hs] at h
        injection h with _ h
        cases h
    · rw [if_neg hm] at h
      injection h with _ h
      cases h
theorem dcP_err (l : List UInt8) : (dcP l).2 = 0 ∨ (dcP l).2 = 1 ∨ (dcP l).2 = 2 ∨ (dcP l).2 = 3 ∨ (dcP l).2 = 11 := by
  have hck : ∀ p, ckP p = 0 ∨ ckP p = 1 ∨ ckP p = 3 ∨ ckP p = 11 := by
    intro p
    unfold ckP
    split
    · exact .inr (.inl rfl)
    · split
      · exact .inr (.inr (.inl rfl))
      · split
        · exact .inr (.inr (.inr rfl))
        · exact .inl rfl
  unfold dcP
  split
  · exact .inr (.inr (.inl rfl))
  · split
    · unfold dcB
      split
      · split
        · exact .inl rfl
        · rcases hck (rdP (some (l.drop 4))) with h | h | h | h <;> simp [h]
      · exact .inr (.inr (.inl rfl))
    · exact .inr (.inr (.inr (.inl rfl)))
theorem rep_mem {α : Type} {f : Sx → α × Sx} : ∀ {n : Nat} {s : Sx} {x : α}, x ∈ (rep f n s).1 → ∃ s', x = (f s').1
  | 0, s, x, h => by cases h
  | n + 1, none, x, h => by cases h
  | n + 1, some r, x, h => by
    rw [rep_some] at h
    rcases List.mem_cons.1 h with rfl | h
    · exact ⟨_, rfl⟩
    · exact rep_mem h
theorem rd_small (s : Sx) : (∀ m ∈ (rdP s).msgs, m.length ≤ 65535) ∧ (∀ r ∈ (rdP s).rts, r.length ≤ 255) ∧ ∀ d ∈ (rdP s).snds, d.rts.length ≤ 255 := by
  refine ⟨fun m hm => ?_, fun r hr => ?_, fun d hd => ?_⟩
  · obtain ⟨s', rfl⟩ := rep_mem (f := fM) hm
    have h1 := pV_len (nV 2 s') (nS 2 s')
    have h2 := nV_lt 2 s'
    show (pV (nV 2 s') (nS 2 s')).length ≤ 65535
    omega
  · obtain ⟨s', rfl⟩ := rep_mem (f := fR) hr
    have h1 := rep_len fT (nV 1 s') (nS 1 s')
    have h2 := nV_lt 1 s'
    show (rep fT (nV 1 s') (nS 1 s')).1.length ≤ 255
    omega
  · obtain ⟨s', rfl⟩ := rep_mem (f := fS) hd
    have h1 := rep_len fN (nV 1 (nS 1 s')) (nS 1 (nS 1 s'))
    have h2 := nV_lt 1 (nS 1 s')
    show (rep fN (nV 1 (nS 1 s')) (nS 1 (nS 1 s'))).1.length ≤ 255
    omega
theorem dcP_small (l : List UInt8) : (∀ m ∈ (dcP l).1.msgs, m.length ≤ 65535) ∧ (∀ r ∈ (dcP l).1.rts, r.length ≤ 255) ∧ ∀ d ∈ (dcP l).1.snds, d.rts.length ≤ 255 := by
  have hz : (∀ m ∈ pZ.msgs, m.length ≤ 65535) ∧ (∀ r ∈ pZ.rts, r.length ≤ 255) ∧ ∀ d ∈ pZ.snds, d.rts.length ≤ 255 :=
    ⟨(fun _ h => by cases h), (fun _ h => by cases h), (fun _ h => by cases h)⟩
  unfold dcP
  split
  · exact hz
  · split
    · unfold dcB
      split
      · split
        · exact rd_small _
        · exact hz
      · exact hz
    · exact hz
end Go.Proofs.YtkmcjjoicpgjfaaDoor
/-
  A string's bytes are appended to a row of the call's own: with word on where the new row lies. No statement of the seat is proved here.
-/
namespace Go.Proofs.YtkmcjjoicpgjfaaDoor
open Go Go.RowKit Go.Sh

theorem strCells_bv (s : ByteArray) : Go.Lib.strCells s = bv (nmL s) := rfl
theorem run_appS (w : World) (ty base : Nat) (A : Option Addr) (n c : Nat) (l : List UInt8) (hown : w.ownsRow base 5 1 (.slice A n c) n (bv l)) (hn : 0 < n) (s : ByteArray) (hbytes : n + s.size ≤ 140737488355328) (hbase : base ≤ w.heap.size) :
    ∃ A' c' w', (Builtin.append_ #[39, 9] ty #[.slice A n c, .string s]).run Tryd.prog w = .ok (.slice A' (n + s.size) c') w' ∧ w'.ownsRow base 5 1 (.slice A' (n + s.size) c') (n + s.size) (bv (l ++ nmL s)) ∧ w.grownBy w' (Value.slice A n c).ownBlock ∧
      ((Value.slice A' (n + s.size) c').ownBlock = (Value.slice A n c).ownBlock ∨ (Value.slice A' (n + s.size) c').ownBlock = some w.heap.size) := by
  obtain ⟨i, hi, hz, hsize, hby⟩ := info_parts TB.info
  have h63 : n + s.size ≤ maxLen := by simp only [maxLen]; omega
  obtain ⟨v', w', hr, h2, h3, _⟩ := Go.Lib.run_append_own_string (P := Tryd.prog) w base 39 9 ty 5 i Tryd.underlying39 Tryd.underlying9 hi hz hsize hby (.slice A n c) n (bv l) hown s h63 hbytes hbase
  rw [strCells_bv, ← bv_append] at h2
  rcases hown.2 with ⟨_, h0⟩ | ⟨g, cap, cur, hv, hbg, hg, hnc, hcm, hcs, htake⟩
  · omega
  · injection hv with hv1 hv2 hv3
    subst hv1 hv3
    by_cases hroom : n + s.size ≤ c
    · have hr2 := Go.Lib.run_append_room_string (P := Tryd.prog) w 39 9 ty 5 i Tryd.underlying39 Tryd.underlying9 hi hsize g n c cur hg s hroom (by omega)
      rw [hr2] at hr
      injection hr with e1 e2
      subst e1
      exact ⟨_, _, w', by rw [hr2, e2], h2, h3, .inl rfl⟩
    · have holds : ∀ j u, (bv l)[j]? = some u → w.cell? ((⟨g, 0, none⟩ : Addr).add j) = some u := hown.cells (g := g) rfl
      have hr2 := Go.Lib.run_append_grow_string (P := Tryd.prog) w 39 9 ty 5 i (.int .u8 0) Tryd.underlying39 Tryd.underlying9 hi hz ⟨g, 0, none⟩ n c (bv l) (by rw [hsize]; exact hown.1) holds s (by omega) (by omega) (growslice_fits (by omega) (by rw [hby]; omega))
      rw [hr2] at hr
      injection hr with e1 e2
      subst e1
      exact ⟨_, _, w', by rw [hr2, e2], h2, h3, .inr rfl⟩
theorem step_appS {w : World} {ops : Array Oper} {o : Oper} {a : Act} {K : Act → World → Prop} {Q : Exit → Act → World → Prop} {Er : Prop} (hw : Region.wanted o (yielded ops a.tmps) = true) (sl x : Operand)
    (ho : o.op = .call { callee := .builtin .append, args := #[sl, x], argTypes := #[39, 9] })
    (A0 : Option Addr) (n c0 : Nat) (hs : a.eval sl = .slice A0 n c0) (s : ByteArray) (hx : a.eval x = .string s)
    (base : Nat) (rest E : List UInt8) (hown : OWr base w A0 n c0 (nmL s ++ rest) E) (hn : 0 < n) (hE : E.length ≤ 140737488355000) (hbase : base ≤ w.heap.size)
    (h : ∀ A' c' w', OWr base w' A' (n + s.size) c' rest E → Below base w w' → Far w w' (.slice A0 n c0) (.slice A' (n + s.size) c') → K (a.put o.dst (.slice A' (n + s.size) c')) w') :
    if Region.wanted o (yielded ops a.tmps) = true then Oper.wp Tryd.prog o a w K Q else Er := by
  rw [if_pos hw]
  obtain ⟨l, h1, h2⟩ := hown
  have hl : n + s.size ≤ 140737488355000 := by
    have h3 := congrArg List.length h2
    have h4 := h1.1
    rw [length_bv] at h4
    rw [List.length_append, List.length_append, nmL_len] at h3
    omega
  obtain ⟨A', c', w', hr, g1, g2, g3⟩ := run_appS w o.type base A0 n c0 l h1 hn s (by omega) hbase
  exact Lib.wp_append_run w sl x 39 9 ho _ _ hs hx _ _ hr (h A' c' w' ⟨l ++ nmL s, g1, by rw [← h2, List.append_assoc]⟩ ((Below.refl base w).grown g2 hbase (own_drop h1)) (Far.of_grown g2 g3))
end Go.Proofs.YtkmcjjoicpgjfaaDoor
/-
  Contract of code.Encode: a program's bytes, or the error of its form. Conditions: the sizes that slices can have.
-/
namespace Go.Proofs.YtkmcjjoicpgjfaaDoor
open Go Go.RowKit Go.Sh

theorem step_appO {w : World} {ops : Array Oper} {o : Oper} {a : Act} {K : Act → World → Prop} {Q : Exit → Act → World → Prop} {Er : Prop} (hw : Region.wanted o (yielded ops a.tmps) = true) (s x : Operand)
    (ho : o.op = .call { callee := .builtin .append, args := #[s, x], argTypes := #[39, 39] })
    (A0 : Option Addr) (n c0 : Nat) (hs : a.eval s = .slice A0 n c0) (A : Option Addr) (m c : Nat) (hx : a.eval x = .slice A m c)
    (base : Nat) (rest E : List UInt8) (B : Nat) (news : List UInt8) (hown : OWr base w A0 n c0 (news ++ rest) E)
    (hr : RB w B A m news) (hE : E.length ≤ 140737488355000) (hbase : base ≤ w.heap.size)
    (h : ∀ A' c' w', OWr base w' A' (n + m) c' rest E → Below base w w' → Far w w' (.slice A0 n c0) (.slice A' (n + m) c') → K (a.put o.dst (.slice A' (n + m) c')) w') :
    if Region.wanted o (yielded ops a.tmps) = true then Oper.wp Tryd.prog o a w K Q else Er := by
  obtain ⟨l, h1, h2⟩ := hown
  have hl : n + m ≤ 140737488355000 := by
    have h3 := congrArg List.length h2
    have h4 := h1.1
    have h5 := hr.len
    rw [length_bv] at h4
    rw [List.length_append, List.length_append] at h3
    omega
  exact step_app TB hw s x ho _ hs A m c hx base n (bv l) h1 B (bv news) hr (bv_one _) (by omega) (by omega) hbase fun A' c' w' g1 g2 g3 => h A' c' w' ⟨l ++ news, by rw [bv_append]; exact g1, by rw [← h2, List.append_assoc]⟩ ((Below.refl base w).grown g2 hbase (own_drop h1)) (Far.of_grown g2 g3)
theorem wl_appO {w : World} {ops : Array Oper} {rs : List Oper} {o : Oper} {a : Act} {Q : Exit → Act → World → Prop} (hw : Region.wanted o (yielded ops a.tmps) = true) (s x : Operand)
    (ho : o.op = .call { callee := .builtin .append, args := #[s, x], argTypes := #[39, 39] })
    (A0 : Option Addr) (n c0 : Nat) (hs : a.eval s = .slice A0 n c0) (A : Option Addr) (m c : Nat) (hx : a.eval x = .slice A m c)
    (base : Nat) (rest E : List UInt8) (B : Nat) (news : List UInt8) (hown : OWr base w A0 n c0 (news ++ rest) E)
    (hr : RB w B A m news) (hE : E.length ≤ 140737488355000) (hbase : base ≤ w.heap.size)
    (h : ∀ A' c' w', OWr base w' A' (n + m) c' rest E → Below base w w' → Far w w' (.slice A0 n c0) (.slice A' (n + m) c') → wpList Tryd.prog ops Q rs (a.put o.dst (.slice A' (n + m) c')) w') : wpList Tryd.prog ops Q (o :: rs) a w := by
  obtain ⟨l, h1, h2⟩ := hown
  have hl : n + m ≤ 140737488355000 := by
    have h3 := congrArg List.length h2
    have h4 := h1.1
    have h5 := hr.len
    rw [length_bv] at h4
    rw [List.length_append, List.length_append] at h3
    omega
  exact wl_app TB hw s x ho _ hs A m c hx base n (bv l) h1 B (bv news) hr (bv_one _) (by omega) (by omega) hbase fun A' c' w' g1 g2 g3 => h A' c' w' ⟨l ++ news, by rw [bv_append]; exact g1, by rw [← h2, List.append_assoc]⟩ ((Below.refl base w).grown g2 hbase (own_drop h1)) (Far.of_grown g2 g3)
theorem itI_eq {l : List Int} {k : Nat} (h : k < l.length) : l[k]? = some (it l k) := by
  unfold it
  rw [List.getD_eq_getElem?_getD, List.getElem?_eq_getElem h, Option.getD_some]
/-- a constant string's bytes: full, marked -/
theorem EO.marked (w : World) (base : Nat) (hB : base ≤ w.heap.size) (l : List UInt8) (cs : Array Value) (hc : cs.toList = bv l) (n : Nat) (hn : l.length = n) (fr : Nat × Nat) : EO base (w.alloc (.cells cs 5 fr)) (some ⟨w.heap.size, 0, none⟩) n n l := by
  refine .inr ⟨rfl, hn, _, rfl, hB, by simp, fun j hj => ?_⟩
  rw [add_mk, blk_cell (heap_alloc_new w _), Nat.zero_add, ← hc]
  simp
theorem putD_any (d : Nat) (D n : Int) (hD : D = (d : Int)) (hd0 : 1 ≤ d) (hd : d ≤ 4) (A : Option Addr) (m c : Nat) (w : World) (base : Nat) (rest E : List UInt8) (ho : EOr base w A m c (beB d n ++ rest) E) (hB : base ≤ w.heap.size) (hE : E.length ≤ 140737488355000) :
    Calls Tryd.prog 51 #[.slice A m c, .int .i64 D, .int .i64 n] w (fun e w' => ∃ A' m' c', e = .returned (.slice A' m' c') ∧ OWr base w' A' m' c' rest E ∧ Below base w w' ∧ Far w w' (.slice A m c) (.slice A' m' c') ∧ 0 < m') := by
  subst hD
  exact putR_any d n hd0 hd A m c w base rest E ho hB hE
set_option maxRecDepth 100000 in
set_option maxHeartbeats 16000000 in
theorem Encode_any (d : Pad) (p : Prg) (w : World) (B : Nat) (hp : PR w B d p) (hB : B ≤ w.heap.size) :
    Calls Tryd.prog 17 #[.agg (pcs d p)] w (fun e w' => Below w.heap.size w w' ∧ ((ckP p ≠ 0 ∧ e = .returned (.tuple #[.slice none 0 0, .int .i64 (ckP p)])) ∨ (ckP p = 0 ∧ ∃ A n c, e = .returned (.tuple #[.slice A n c, .int .i64 0]) ∧ (encP p).length = n ∧ w'.ownsRow w.heap.size 5 1 (.slice A n c) n (bv (encP p))))) := by
  have hb1 := (Below.refl w.heap.size w).alloc (Nat.le_refl _) (.cells (pcs d p) 30)
  have HB1 := Lib.hid hb1
  have HPR := Lib.hid (hp.below (hb1.mono hB))
  have HBX := Lib.hid (show (w.alloc (.cells (pcs d p) 30)).heap[w.heap.size]? = some (.cells (pcs d p).toList.toArray 30 (0, 0)) from heap_alloc_new w _)
  have hps : (pcs d p).size = 8 := rfl
  have hz1 : (w.alloc (.cells (pcs d p) 30)).heap.size = w.heap.size + 1 := by simp
  have HCK := Lib.hid (fun (W : World) (h : PR W B d p) (hB : B ≤ W.heap.size) => CodeCheck_any d p W B h hB)
  have HI := Lib.hid (show (Tryd.prog.info? 30).map (·.size) = some (pcs d p).toList.length by rw [show (pcs d p).toList.length = 8 from rfl]; exact info_prog)
  have HFM := Lib.hid (fun h : ckP p = 0 => fm_of h)
  have HLE := Lib.hid (fun h : ckP p = 0 => encP_len h)
  have HEN := Lib.hid (show [115, 104, 108, 49] ++ ((headsP p).flatMap (beB 2) ++ tl0 p) = encP p from rfl)
  have HL1 := Lib.hid (show p.code.length = d.n1 by have := hp.code.len; rw [List.length_map] at this; exact this)
  have HL2 := Lib.hid (show p.msgs.length = d.n2 from hp.msgs.len)
  have HL3 := Lib.hid (show p.rts.length = d.n3 from hp.rts.len)
  have HL4 := Lib.hid (show p.snds.length = d.n4 from hp.snds.len)
  have HHS := Lib.hid (show headsP p = [(d.n1 : Int), (d.n2 : Int), (d.n3 : Int), (d.n4 : Int), p.vars, p.stack, p.blocks] by unfold headsP; rw [HL1.out, HL2.out, HL3.out, HL4.out])
  generalize headsP p = hs at *
  have HT0 := Lib.hid (show tl0 p = beB 4 p.fuel ++ (p.code.flatMap encI ++ tl1 p) from rfl)
  have HT1 := Lib.hid (show tl1 p = p.msgs.flatMap encM ++ tl2 p from rfl)
  have HT2 := Lib.hid (show tl2 p = p.rts.flatMap encRt ++ tl3 p from rfl)
  have HT3 := Lib.hid (show tl3 p = p.snds.flatMap encSd ++ [] by rw [List.append_nil]; rfl)
  generalize tl0 p = T0 at *
  generalize tl1 p = T1 at *
  generalize tl2 p = T2 at *
  generalize tl3 p = T3 at *
  generalize encP p = E at *
  generalize ckP p = ck at *
  have e0 : (pcs d p).toList[0]? = some (.slice d.A1 d.n1 d.c1) := rfl
  have e1 : (pcs d p).toList[1]? = some (.slice d.A2 d.n2 d.c2) := rfl
  have e2 : (pcs d p).toList[2]? = some (.slice d.A3 d.n3 d.c3) := rfl
  have e3 : (pcs d p).toList[3]? = some (.slice d.A4 d.n4 d.c4) := rfl
  have e4 : (pcs d p).toList[4]? = some (.int .i64 p.vars) := rfl
  have e5 : (pcs d p).toList[5]? = some (.int .i64 p.stack) := rfl
  have e6 : (pcs d p).toList[6]? = some (.int .i64 p.blocks) := rfl
  have e7 : (pcs d p).toList[7]? = some (.int .i64 p.fuel) := rfl
  have HEL := Lib.hid (And.intro e0 (And.intro e1 (And.intro e2 (And.intro e3 (And.intro e4 (And.intro e5 (And.intro e6 e7)))))))
  clear e0 e1 e2 e3 e4 e5 e6 e7 hp hb1
  obtain ⟨X, hX⟩ : ∃ X, pcs d p = X := ⟨_, rfl⟩
  have HTA := Lib.hid (show (pcs d p).toList.toArray = X by rw [hX])
  rw [hX] at HB1 HPR hps hz1 HCK ⊢
  have hxe : ¬ X = #[] := by intro h; rw [h] at hps; cases hps
  have HBX1 := Lib.hid (show (w.alloc (.cells X 30)).heap[w.heap.size]? = some (.cells (pcs d p).toList.toArray 30 (0, 0)) by rw [← hX]; exact HBX.out)
  clear hX HBX
  generalize (pcs d p).toList = L at *
  go_enter Tryd.func17, Tryd.ntmps17
  have HRNG := Lib.hid (blk_range HBX1.out)
  go_wp2_with (refine wl_load_mid rfl 30 (.tmp 1) rfl w.heap.size 0 rfl L _ HRNG.out Tryd.underlying30 rfl HI.out ?_; rw [HTA.out])
  clear HRNG
  generalize w.alloc (.cells X 30) = w1 at *
  obtain ⟨g, hg⟩ : ∃ g, w.heap.size = g := ⟨_, rfl⟩
  have HG := Lib.hid hg
  rw [hg] at hB hz1 HB1 HBX1 ⊢
  clear hg
  have HFR := Lib.hid (fun (W : World) (h : Below (g + 1) w1 W) (j : Nat) (v : Value) (hv : L[j]? = some v) => show W.cell? ⟨g, j, none⟩ = some v by rw [blk_cell ((h.block g (Nat.lt_succ_self _)).trans HBX1.out), List.getElem?_toArray]; exact hv)
  refine (HCK.out w1 HPR.out (by omega)).mono ?_
  rintro e w2 ⟨rfl, hb2⟩
  rw [hz1] at hb2
  have HB2 := Lib.hid hb2
  have hs2 := hb2.size
  clear hb2 HCK HTA
  by_cases hck : ck = 0
  case neg =>
    have hne : (ck != 0) = true := by rw [bne_iff_ne]; exact hck
    have HNE := Lib.hid hck
    clear hck
    go_wp2_with fail
    go_ret2
    exact ⟨by rw [HG.out]; exact HB1.out.trans (HB2.out.mono (Nat.le_succ _)), .inl ⟨HNE.out, rfl⟩⟩
  case pos =>
    have HFMM := Lib.hid (HFM.out hck)
    have hEl := HLE.out hck
    have HLEN := Lib.hid (show E.length ≤ 140737488355000 by omega)
    subst hck
    clear HFM HLE hEl
    have hcv := fun (W : World) (C : Array Value) (n c : Nat) => Lib.run_convert_bytes_const (P := Tryd.prog) W 39 5 C n c Tryd.underlying39 Tryd.underlying5
    have hb3 := (Below.refl w2.heap.size w2).alloc (Nat.le_refl _) (.cells #[.int .u8 115, .int .u8 104, .int .u8 108, .int .u8 49] 5 (4, 5))
    have HB3 := Lib.hid (HB2.out.trans (hb3.mono (by omega)))
    have HO3 := Lib.hid (show EOr (g + 1) (w2.alloc (.cells #[.int .u8 115, .int .u8 104, .int .u8 108, .int .u8 49] 5 (4, 5))) (some ⟨w2.heap.size, 0, none⟩) 4 4 ((hs.drop 0).flatMap (beB 2) ++ T0) E from ⟨[115, 104, 108, 49], EO.marked w2 (g + 1) (by omega) [115, 104, 108, 49] #[.int .u8 115, .int .u8 104, .int .u8 108, .int .u8 49] rfl 4 rfl (4, 5), HEN.out⟩)
    have hz3 : (w2.alloc (.cells #[.int .u8 115, .int .u8 104, .int .u8 108, .int .u8 49] 5 (4, 5))).heap.size = w2.heap.size + 1 := by simp
    have HP1 := Lib.hid (fun (A : Option Addr) (m c : Nat) (n : Int) (W : World) (rest : List UInt8) (h : EOr (g + 1) W A m c (beB 1 n ++ rest) E) (hB : g + 1 ≤ W.heap.size) => putD_any 1 1 n rfl (by decide) (by decide) A m c W (g + 1) rest E h hB HLEN.out)
    have HP2 := Lib.hid (fun (A : Option Addr) (m c : Nat) (n : Int) (W : World) (rest : List UInt8) (h : EOr (g + 1) W A m c (beB 2 n ++ rest) E) (hB : g + 1 ≤ W.heap.size) => putD_any 2 2 n rfl (by decide) (by decide) A m c W (g + 1) rest E h hB HLEN.out)
    have HP4 := Lib.hid (fun (A : Option Addr) (m c : Nat) (n : Int) (W : World) (rest : List UInt8) (h : EOr (g + 1) W A m c (beB 4 n ++ rest) E) (hB : g + 1 ≤ W.heap.size) => putD_any 4 4 n rfl (by decide) (by decide) A m c W (g + 1) rest E h hB HLEN.out)
    obtain ⟨e0, e1, e2, e3, e4, e5, e6, e7⟩ := HEL.out
    have k0 := HFR.out _ HB3.out 0 _ e0
    have k1 := HFR.out _ HB3.out 1 _ e1
    have k2 := HFR.out _ HB3.out 2 _ e2
    have k3 := HFR.out _ HB3.out 3 _ e3
    have k4 := HFR.out _ HB3.out 4 _ e4
    have k5 := HFR.out _ HB3.out 5 _ e5
    have k6 := HFR.out _ HB3.out 6 _ e6
    clear e0 e1 e2 e3 e4 e5 e6 e7 hb3
    go_wp2_with fail
    generalize w2.alloc (.cells #[.int .u8 115, .int .u8 104, .int .u8 108, .int .u8 49] 5 (4, 5)) = w3 at *
    clear hcv k0 k1 k2 k3 k4 k5 k6
    go_loopw [5, 7, 46] (fun o _ i wr => ∃ (k : Nat) (A : Option Addr) (m c : Nat), k ≤ 7 ∧ i = .int .i64 (k : Int) ∧ o = .slice A m c ∧ EOr (g + 1) wr A m c ((hs.drop k).flatMap (beB 2) ++ T0) E ∧ Below (g + 1) w1 wr) (fun _ _ i _ => 7 - (intOf i).toNat)
    case atStart => exact ⟨0, some ⟨w2.heap.size, 0, none⟩, 4, 4, by omega, rfl, rfl, HO3.out, HB3.out⟩
    case round =>
      obtain ⟨k, A, m, c, hk, rfl, rfl, ho, hb⟩ := hrel
      have HO := Lib.hid ho
      have HBr := Lib.hid hb
      have hzr := hb.size
      clear ho hb HO3 HB3
      rcases (show k = 0 ∨ k = 1 ∨ k = 2 ∨ k = 3 ∨ k = 4 ∨ k = 5 ∨ k = 6 ∨ k = 7 by omega) with rfl | rfl | rfl | rfl | rfl | rfl | rfl | rfl
      · have hix : ∀ W : World, (Instr.index 97 (.agg #[.int .i64 ((d.n1 : Int)), .int .i64 ((d.n2 : Int)), .int .i64 ((d.n3 : Int)), .int .i64 ((d.n4 : Int)), .int .i64 (p.vars), .int .i64 (p.stack), .int .i64 (p.blocks)]) (.int .i64 0)).run Tryd.prog W = .ok (.int .i64 ((d.n1 : Int))) W := fun _ => by kernel_rfl
        go_wp2_with fail
        refine (putD_any 2 2 (d.n1 : Int) rfl (by decide) (by decide) A m c _ (g + 1) ((hs.drop 1).flatMap (beB 2) ++ T0) E (HO.out.to (drop_flat (by rw [HHS.out]; rfl) _)) (by omega) HLEN.out).mono ?_
        rintro e w4 ⟨A4, m4, c4, rfl, ho4, hb4, _⟩
        have HO4 := Lib.hid ho4.eo
        have HB4 := Lib.hid (HBr.out.trans hb4)
        clear ho4 hb4
        go_wp2_with fail
        exact ⟨⟨1, A4, m4, c4, by decide, rfl, rfl, HO4.out, HB4.out⟩, by simp [intOf]⟩
      · have hix : ∀ W : World, (Instr.index 97 (.agg #[.int .i64 ((d.n1 : Int)), .int .i64 ((d.n2 : Int)), .int .i64 ((d.n3 : Int)), .int .i64 ((d.n4 : Int)), .int .i64 (p.vars), .int .i64 (p.stack), .int .i64 (p.blocks)]) (.int .i64 1)).run Tryd.prog W = .ok (.int .i64 ((d.n2 : Int))) W := fun _ => by kernel_rfl
        go_wp2_with fail
        refine (putD_any 2 2 (d.n2 : Int) rfl (by decide) (by decide) A m c _ (g + 1) ((hs.drop 2).flatMap (beB 2) ++ T0) E (HO.out.to (drop_flat (by rw [HHS.out]; rfl) _)) (by omega) HLEN.out).mono ?_
        rintro e w4 ⟨A4, m4, c4, rfl, ho4, hb4, _⟩
        have HO4 := Lib.hid ho4.eo
        have HB4 := Lib.hid (HBr.out.trans hb4)
        clear ho4 hb4
        go_wp2_with fail
        exact ⟨⟨2, A4, m4, c4, by decide, rfl, rfl, HO4.out, HB4.out⟩, by simp [intOf]⟩
      · have hix : ∀ W : World, (Instr.index 97 (.agg #[.int .i64 ((d.n1 : Int)), .int .i64 ((d.n2 : Int)), .int .i64 ((d.n3 : Int)), .int .i64 ((d.n4 : Int)), .int .i64 (p.vars), .int .i64 (p.stack), .int .i64 (p.blocks)]) (.int .i64 2)).run Tryd.prog W = .ok (.int .i64 ((d.n3 : Int))) W := fun _ => by kernel_rfl
        go_wp2_with fail
        refine (putD_any 2 2 (d.n3 : Int) rfl (by decide) (by decide) A m c _ (g + 1) ((hs.drop 3).flatMap (beB 2) ++ T0) E (HO.out.to (drop_flat (by rw [HHS.out]; rfl) _)) (by omega) HLEN.out).mono ?_
        rintro e w4 ⟨A4, m4, c4, rfl, ho4, hb4, _⟩
        have HO4 := Lib.hid ho4.eo
        have HB4 := Lib.hid (HBr.out.trans hb4)
        clear ho4 hb4
        go_wp2_with fail
        exact ⟨⟨3, A4, m4, c4, by decide, rfl, rfl, HO4.out, HB4.out⟩, by simp [intOf]⟩
      · have hix : ∀ W : World, (Instr.index 97 (.agg #[.int .i64 ((d.n1 : Int)), .int .i64 ((d.n2 : Int)), .int .i64 ((d.n3 : Int)), .int .i64 ((d.n4 : Int)), .int .i64 (p.vars), .int .i64 (p.stack), .int .i64 (p.blocks)]) (.int .i64 3)).run Tryd.prog W = .ok (.int .i64 ((d.n4 : Int))) W := fun _ => by kernel_rfl
        go_wp2_with fail
        refine (putD_any 2 2 (d.n4 : Int) rfl (by decide) (by decide) A m c _ (g + 1) ((hs.drop 4).flatMap (beB 2) ++ T0) E (HO.out.to (drop_flat (by rw [HHS.out]; rfl) _)) (by omega) HLEN.out).mono ?_
        rintro e w4 ⟨A4, m4, c4, rfl, ho4, hb4, _⟩
        have HO4 := Lib.hid ho4.eo
        have HB4 := Lib.hid (HBr.out.trans hb4)
        clear ho4 hb4
        go_wp2_with fail
        exact ⟨⟨4, A4, m4, c4, by decide, rfl, rfl, HO4.out, HB4.out⟩, by simp [intOf]⟩
      · have hix : ∀ W : World, (Instr.index 97 (.agg #[.int .i64 ((d.n1 : Int)), .int .i64 ((d.n2 : Int)), .int .i64 ((d.n3 : Int)), .int .i64 ((d.n4 : Int)), .int .i64 (p.vars), .int .i64 (p.stack), .int .i64 (p.blocks)]) (.int .i64 4)).run Tryd.prog W = .ok (.int .i64 (p.vars)) W := fun _ => by kernel_rfl
        go_wp2_with fail
        refine (putD_any 2 2 p.vars rfl (by decide) (by decide) A m c _ (g + 1) ((hs.drop 5).flatMap (beB 2) ++ T0) E (HO.out.to (drop_flat (by rw [HHS.out]; rfl) _)) (by omega) HLEN.out).mono ?_
        rintro e w4 ⟨A4, m4, c4, rfl, ho4, hb4, _⟩
        have HO4 := Lib.hid ho4.eo
        have HB4 := Lib.hid (HBr.out.trans hb4)
        clear ho4 hb4
        go_wp2_with fail
        exact ⟨⟨5, A4, m4, c4, by decide, rfl, rfl, HO4.out, HB4.out⟩, by simp [intOf]⟩
      · have hix : ∀ W : World, (Instr.index 97 (.agg #[.int .i64 ((d.n1 : Int)), .int .i64 ((d.n2 : Int)), .int .i64 ((d.n3 : Int)), .int .i64 ((d.n4 : Int)), .int .i64 (p.vars), .int .i64 (p.stack), .int .i64 (p.blocks)]) (.int .i64 5)).run Tryd.prog W = .ok (.int .i64 (p.stack)) W := fun _ => by kernel_rfl
        go_wp2_with fail
        refine (putD_any 2 2 p.stack rfl (by decide) (by decide) A m c _ (g + 1) ((hs.drop 6).flatMap (beB 2) ++ T0) E (HO.out.to (drop_flat (by rw [HHS.out]; rfl) _)) (by omega) HLEN.out).mono ?_
        rintro e w4 ⟨A4, m4, c4, rfl, ho4, hb4, _⟩
        have HO4 := Lib.hid ho4.eo
        have HB4 := Lib.hid (HBr.out.trans hb4)
        clear ho4 hb4
        go_wp2_with fail
        exact ⟨⟨6, A4, m4, c4, by decide, rfl, rfl, HO4.out, HB4.out⟩, by simp [intOf]⟩
      · have hix : ∀ W : World, (Instr.index 97 (.agg #[.int .i64 ((d.n1 : Int)), .int .i64 ((d.n2 : Int)), .int .i64 ((d.n3 : Int)), .int .i64 ((d.n4 : Int)), .int .i64 (p.vars), .int .i64 (p.stack), .int .i64 (p.blocks)]) (.int .i64 6)).run Tryd.prog W = .ok (.int .i64 (p.blocks)) W := fun _ => by kernel_rfl
        go_wp2_with fail
        refine (putD_any 2 2 p.blocks rfl (by decide) (by decide) A m c _ (g + 1) ((hs.drop 7).flatMap (beB 2) ++ T0) E (HO.out.to (drop_flat (by rw [HHS.out]; rfl) _)) (by omega) HLEN.out).mono ?_
        rintro e w4 ⟨A4, m4, c4, rfl, ho4, hb4, _⟩
        have HO4 := Lib.hid ho4.eo
        have HB4 := Lib.hid (HBr.out.trans hb4)
        clear ho4 hb4
        go_wp2_with fail
        exact ⟨⟨7, A4, m4, c4, by decide, rfl, rfl, HO4.out, HB4.out⟩, by simp [intOf]⟩
      · have HO7 := Lib.hid (HO.out.to (show (hs.drop 7).flatMap (beB 2) ++ T0 = beB 4 p.fuel ++ (p.code.flatMap encI ++ T1) by rw [drop_end (by rw [HHS.out]; exact Nat.le_refl _), HT0.out]))
        have k7 := HFR.out _ HBr.out 7 _ HEL.out.2.2.2.2.2.2.2
        clear HO
        go_wp2_with fail
        refine (putD_any 4 4 p.fuel rfl (by decide) (by decide) A m c _ (g + 1) (p.code.flatMap encI ++ T1) E HO7.out (by omega) HLEN.out).mono ?_
        rintro e w5 ⟨A5, m5, c5, rfl, ho5, hb5, _⟩
        have HO5 := Lib.hid ho5
        have HB5 := Lib.hid (HBr.out.trans hb5)
        have k0 := HFR.out _ HB5.out 0 _ HEL.out.1
        have hz5 := HB5.out.size
        clear ho5 hb5 HO7 HBr k7 hzr HHS HEN HT0
        go_wp2_with fail
        clear k0
        have hn1 : d.n1 ≤ 4000 := by have := HFMM.out.n1; rw [HL1.out] at this; exact this
        go_loopw [5, 9, 60] (fun o _ i wr => ∃ (k : Nat) (A : Option Addr) (m c : Nat), k ≤ d.n1 ∧ i = .int .i64 (k : Int) ∧ o = .slice A m c ∧ OWr (g + 1) wr A m c ((p.code.drop k).flatMap encI ++ T1) E ∧ Below (g + 1) w1 wr) (fun _ _ i _ => d.n1 - (intOf i).toNat)
        case atStart => exact ⟨0, A5, m5, c5, by omega, rfl, rfl, HO5.out, HB5.out⟩
        case round =>
          obtain ⟨k, A, m, c, hk, rfl, rfl, ho, hb⟩ := hrel
          have HO := Lib.hid ho
          have HBr := Lib.hid hb
          have hzr := hb.size
          clear ho hb HO5 HB5
          by_cases hlt : k < d.n1
          · have dk : (k : Int) < (d.n1 : Int) := by omega
            obtain ⟨b, off, hA1, hbB, c0, c1, c2⟩ := ins_at (HPR.out.code.below (HBr.out.mono (by omega))) hlt
            rw [hA1]
            have HO2 := Lib.hid (HO.out.to (show _ = (iat p.code k).op :: (beB 4 (iat p.code k).a ++ (beB 2 (iat p.code k).b ++ ((p.code.drop (k + 1)).flatMap encI ++ T1))) by rw [drop_flat (iat_eq (by have := HL1.out; omega)) T1]; unfold encI; simp))
            obtain ⟨R0, hR0⟩ : ∃ R0, (p.code.drop (k + 1)).flatMap encI ++ T1 = R0 := ⟨_, rfl⟩
            rw [hR0] at HO2
            have HR0 := Lib.hid hR0
            clear hR0
            generalize iat p.code k = st at *
            obtain ⟨op, a, bb⟩ := st
            simp only at c0 c1 c2 HO2
            have hba := (Below.refl wr.heap.size wr).alloc (Nat.le_refl _) (.cells #[.int .u8 (op.toNat : Int), .int .i64 a, .int .i64 bb] 33)
            have HBA := Lib.hid (HBr.out.trans (hba.mono (by omega)))
            have HOA := Lib.hid (HO2.out.later hba)
            have hng := HO.out.not_new (k := wr.heap.size) (Nat.le_refl _)
            have HCA := Lib.hid (heap_alloc_new wr (.cells #[.int .u8 (op.toNat : Int), .int .i64 a, .int .i64 bb] 33))
            have hzA : (wr.alloc (.cells #[.int .u8 (op.toNat : Int), .int .i64 a, .int .i64 bb] 33)).heap.size = wr.heap.size + 1 := by simp
            clear hba HO HO2 HBr
            go_wp2_with fail
            generalize wr.alloc (.cells #[.int .u8 (op.toNat : Int), .int .i64 a, .int .i64 bb] 33) = wa at *
            clear c0 c1 c2
            obtain ⟨ga, hga⟩ : ∃ ga, wr.heap.size = ga := ⟨_, rfl⟩
            rw [hga] at HCA hzA hzr hng ⊢
            have HGA := Lib.hid hng
            clear hng
            have j0 : wa.cell? ⟨ga, 0, none⟩ = some (.int .u8 (op.toNat : Int)) := by rw [blk_cell HCA.out]; rfl
            have j1 : wa.cell? ⟨ga, 1, none⟩ = some (.int .i64 a) := by rw [blk_cell HCA.out]; rfl
            have j2 : wa.cell? ⟨ga, 2, none⟩ = some (.int .i64 bb) := by rw [blk_cell HCA.out]; rfl
            have hga2 : ga < wa.heap.size := by omega
            have hga3 : g + 1 ≤ ga := by omega
            have hga4 : g + 1 ≤ wa.heap.size := by omega
            clear hzA hga
            have hb14 : Below wa.heap.size wa (wa.alloc (.cells #[.int .u8 (op.toNat : Int)] 5)).drew := ((Below.refl _ _).alloc (Nat.le_refl _) _).drew
            have HBB := Lib.hid (HBA.out.trans (hb14.mono hga4))
            have HOB := Lib.hid (HOA.out.later hb14)
            have HNB := Lib.hid (HOA.out.not_new (k := wa.heap.size) (Nat.le_refl _))
            have HCB := Lib.hid ((hb14.block ga hga2).trans HCA.out)
            have HRB := Lib.hid (show RB (wa.alloc (.cells #[.int .u8 (op.toNat : Int)] 5)).drew (wa.heap.size + 1) (some ⟨wa.heap.size, 0, none⟩) 1 [op] from Reads.lit wa _ [.int .u8 (op.toNat : Int)] 1 1 rfl _ rfl)
            have hz14 : (wa.alloc (.cells #[.int .u8 (op.toNat : Int)] 5)).drew.heap.size = wa.heap.size + 1 := by show (wa.alloc _).heap.size = _; simp
            have hz15 : g + 1 ≤ (wa.alloc (.cells #[.int .u8 (op.toNat : Int)] 5)).drew.heap.size := by omega
            have hz16 : ga < (wa.alloc (.cells #[.int .u8 (op.toNat : Int)] 5)).drew.heap.size := by omega
            clear hb14
            go_region_held3 (fun w' => w'.cell? ⟨ga, 0, none⟩ = some (.int .u8 (op.toNat : Int)) ∧ w'.cell? ⟨ga, 1, none⟩ = some (.int .i64 a) ∧ w'.cell? ⟨ga, 2, none⟩ = some (.int .i64 bb)) (go_keep) (first | ((fail_if_success (go_simp; go_at_call 51)); refine step_appO (by rfl) (.tmp 64) (.tmp 67) (by rfl) A m c (by rfl) (some ⟨wa.heap.size, 0, none⟩) 1 1 (by rfl) (g + 1) (beB 4 a ++ (beB 2 bb ++ R0)) E (wa.heap.size + 1) [op] HOB.out HRB.out HLEN.out hz15 ?_; intro A5 c5 w5 ho5 hb5 hf5; have HO5 := Lib.hid ho5.eo; have HB5 := Lib.hid (HBB.out.trans hb5); have HF5 := Lib.hid (hf5 ga hz16 HGA.out); have hs5 := hb5.size; have hg5 : g + 1 ≤ w5.heap.size := Nat.le_trans hz15 hs5; have hg5a : ga < w5.heap.size := Nat.lt_of_lt_of_le hz16 hs5; have HC5 := Lib.hid (HF5.out.1.trans HCB.out); have ka0 : w5.cell? ⟨ga, 0, none⟩ = some (.int .u8 (op.toNat : Int)) := (by rw [blk_cell HC5.out]; rfl); have ka1 : w5.cell? ⟨ga, 1, none⟩ = some (.int .i64 a) := (by rw [blk_cell HC5.out]; rfl); have ka2 : w5.cell? ⟨ga, 2, none⟩ = some (.int .i64 bb) := (by rw [blk_cell HC5.out]; rfl); clear ho5 hb5 hf5) | (go_at_call 51; refine (HP2.out A6 m6 c6 bb w6 R0 HO6.out hg6).mono ?_; rintro e w7 ⟨A7, m7, c7, rfl, ho7, hb7, hf7, _⟩; have HO7 := Lib.hid ho7; have HB7 := Lib.hid (HB6.out.trans hb7); have HF7 := Lib.hid (hf7 ga hg6a HF6.out.2); have HC7 := Lib.hid (HF7.out.1.trans HC6.out); have kc0 : w7.cell? ⟨ga, 0, none⟩ = some (.int .u8 (op.toNat : Int)) := (by rw [blk_cell HC7.out]; rfl); have kc1 : w7.cell? ⟨ga, 1, none⟩ = some (.int .i64 a) := (by rw [blk_cell HC7.out]; rfl); have kc2 : w7.cell? ⟨ga, 2, none⟩ = some (.int .i64 bb) := (by rw [blk_cell HC7.out]; rfl); clear ho7 hb7 hf7) | (go_at_call 51; refine (HP4.out A5 (m + 1) c5 a w5 (beB 2 bb ++ R0) HO5.out hg5).mono ?_; rintro e w6 ⟨A6, m6, c6, rfl, ho6, hb6, hf6, _⟩; have HO6 := Lib.hid ho6.eo; have HB6 := Lib.hid (HB5.out.trans hb6); have HF6 := Lib.hid (hf6 ga hg5a HF5.out.2); have hs6 := hb6.size; have hg6 : g + 1 ≤ w6.heap.size := Nat.le_trans hg5 hs6; have hg6a : ga < w6.heap.size := Nat.lt_of_lt_of_le hg5a hs6; have HC6 := Lib.hid (HF6.out.1.trans HC5.out); have kb0 : w6.cell? ⟨ga, 0, none⟩ = some (.int .u8 (op.toNat : Int)) := (by rw [blk_cell HC6.out]; rfl); have kb1 : w6.cell? ⟨ga, 1, none⟩ = some (.int .i64 a) := (by rw [blk_cell HC6.out]; rfl); have kb2 : w6.cell? ⟨ga, 2, none⟩ = some (.int .i64 bb) := (by rw [blk_cell HC6.out]; rfl); clear ho6 hb6 hf6))
            all_goals go_wp2_with fail
            all_goals exact ⟨⟨k + 1, A7, m7, c7, by omega, by go_num, rfl, by rw [HR0.out]; exact HO7.out, HB7.out⟩, by simp [intOf]; omega⟩
          · obtain rfl : k = d.n1 := by omega
            have HO1 := Lib.hid (HO.out.to (show _ = p.msgs.flatMap encM ++ T2 by rw [drop_end (by have := HL1.out; omega), HT1.out]))
            have k1 := HFR.out _ HBr.out 1 _ HEL.out.2.1
            clear HO hn1
            go_wp2_with fail
            clear k1
            have hn2 : d.n2 ≤ 64 := by have := HFMM.out.n2; rw [HL2.out] at this; exact this
            go_loopw [5, 11, 79] (fun o _ i wr => ∃ (k : Nat) (A : Option Addr) (m c : Nat), k ≤ d.n2 ∧ i = .int .i64 (k : Int) ∧ o = .slice A m c ∧ OWr (g + 1) wr A m c ((p.msgs.drop k).flatMap encM ++ T2) E ∧ Below (g + 1) w1 wr) (fun _ _ i _ => d.n2 - (intOf i).toNat)
            case atStart => exact ⟨0, A, m, c, by omega, rfl, rfl, HO1.out, HBr.out⟩
            case round =>
              clear HO1 HBr hzr
              obtain ⟨k, A, m, c, hk, rfl, rfl, ho, hb⟩ := hrel
              have HO := Lib.hid ho
              have HBr := Lib.hid hb
              have hzr := hb.size
              clear ho hb
              by_cases hlt : k < d.n2
              · have dk : (k : Int) < (d.n2 : Int) := by omega
                obtain ⟨ad, Ai, ni, ci, hA2, hbB, c0, hnc, hrow⟩ := (HPR.out.msgs.below (HBr.out.mono (by omega))).at_ hlt
                rw [hA2]
                have hml := hrow.len
                obtain ⟨R0, hR0⟩ : ∃ R0, (p.msgs.drop (k + 1)).flatMap encM ++ T2 = R0 := ⟨_, rfl⟩
                have HO2 := Lib.hid (HO.out.to (show _ = beB 2 (ni : Int) ++ (lat p.msgs k ++ R0) by rw [drop_flat (show p.msgs[k]? = some (lat p.msgs k) from lat_eq (by have := HL2.out; omega)) T2, hR0]; unfold encM; rw [hml, List.append_assoc]))
                have HR0 := Lib.hid hR0
                have HRW := Lib.hid hrow
                clear hR0 HO hrow hml
                generalize lat p.msgs k = ms at *
                go_wp2_with fail
                refine (HP2.out A m c (ni : Int) _ (ms ++ R0) HO2.out.eo (by omega)).mono ?_
                rintro e w6 ⟨A6, m6, c6, rfl, ho6, hb6, _, _⟩
                have HO6 := Lib.hid ho6
                have HB6 := Lib.hid (HBr.out.trans hb6)
                have HRW6 := Lib.hid (HRW.out.below (hb6.mono (by omega)))
                have hz6 := HB6.out.size
                have hg6 : g + 1 ≤ w6.heap.size := by omega
                clear ho6 hb6 HO2 HBr HRW c0
                go_wp2_with (at_builtin; refine wl_appO rfl (.tmp 86) (.tmp 87) rfl A6 m6 c6 rfl Ai ni ci rfl (g + 1) R0 E B ms HO6.out HRW6.out HLEN.out hg6 ?appm)
                case appm =>
                  intro A7 c7 w7 ho7 hb7 _
                  have HO7 := Lib.hid ho7
                  have HB7 := Lib.hid (HB6.out.trans hb7)
                  clear ho7 hb7 HO6 HB6 HRW6
                  go_wp2_with fail
                  exact ⟨⟨k + 1, A7, m6 + ni, c7, by omega, by go_num, rfl, by rw [HR0.out]; exact HO7.out, HB7.out⟩, by simp [intOf]; omega⟩
              · obtain rfl : k = d.n2 := by omega
                have HO1 := Lib.hid (HO.out.to (show _ = p.rts.flatMap encRt ++ T3 by rw [drop_end (by have := HL2.out; omega), HT2.out]))
                have k2 := HFR.out _ HBr.out 2 _ HEL.out.2.2.1
                clear HO hn2
                go_wp2_with fail
                clear k2
                have hn3 : d.n3 ≤ 64 := by have := HFMM.out.n3; rw [HL3.out] at this; exact this
                go_loopw [5, 13, 15, 93] (fun o _ _ i wr => ∃ (k : Nat) (A : Option Addr) (m c : Nat), k ≤ d.n3 ∧ i = .int .i64 (k : Int) ∧ o = .slice A m c ∧ OWr (g + 1) wr A m c ((p.rts.drop k).flatMap encRt ++ T3) E ∧ Below (g + 1) w1 wr) (fun _ _ _ i _ => d.n3 - (intOf i).toNat)
                case atStart => exact ⟨0, A, m, c, by omega, rfl, rfl, HO1.out, HBr.out⟩
                case round =>
                  clear HO1 HBr hzr
                  obtain ⟨k, A, m, c, hk, rfl, rfl, ho, hb⟩ := hrel
                  have HO := Lib.hid ho
                  have HBr := Lib.hid hb
                  have hzr := hb.size
                  clear ho hb
                  by_cases hlt : k < d.n3
                  · have dk : (k : Int) < (d.n3 : Int) := by omega
                    obtain ⟨ad, Ai, ni, ci, hA3, hbB, c0, hnc, hrow⟩ := (HPR.out.rts.below (HBr.out.mono (by omega))).at_ hlt
                    rw [hA3]
                    have hml : (rat p.rts k).length = ni := by have := hrow.len; rw [List.length_map] at this; exact this
                    obtain ⟨R0, hR0⟩ : ∃ R0, (p.rts.drop (k + 1)).flatMap encRt ++ T3 = R0 := ⟨_, rfl⟩
                    have HO2 := Lib.hid (HO.out.to (show _ = beB 1 (ni : Int) ++ ((rat p.rts k).flatMap encT ++ R0) by rw [drop_flat (rat_eq (by have := HL3.out; omega)) T3, hR0]; unfold encRt; rw [hml, List.append_assoc]))
                    have HR0 := Lib.hid hR0
                    have HRW := Lib.hid hrow
                    have HML := Lib.hid hml
                    have HRT := Lib.hid (HFMM.out.rts _ (rat_mem (l := p.rts) (k := k) (by have := HL3.out; omega)))
                    have hni : ni ≤ 5 := by have := HRT.out.2.1; omega
                    clear hR0 HO hrow hml
                    generalize rat p.rts k = rt at *
                    go_wp2_with fail
                    refine (HP1.out A m c (ni : Int) _ (rt.flatMap encT ++ R0) HO2.out.eo (by omega)).mono ?_
                    rintro e w6 ⟨A6, m6, c6, rfl, ho6, hb6, _, _⟩
                    have HO6 := Lib.hid ho6
                    have HB6 := Lib.hid (HBr.out.trans hb6)
                    have hz6 := HB6.out.size
                    have HRW6 := Lib.hid (HRW.out.below (hb6.mono (by omega)))
                    clear ho6 hb6 HO2 HBr HRW c0
                    go_wp2_with fail
                    go_loopw [5, 15, 103] (fun o _ i wr => ∃ (j : Nat) (A : Option Addr) (m c : Nat), j ≤ ni ∧ i = .int .i64 (j : Int) ∧ o = .slice A m c ∧ OWr (g + 1) wr A m c ((rt.drop j).flatMap encT ++ R0) E ∧ Below (g + 1) w6 wr) (fun _ _ i _ => ni - (intOf i).toNat)
                    case atStart => exact ⟨0, A6, m6, c6, by omega, rfl, rfl, HO6.out, Below.refl _ _⟩
                    case round =>
                      clear HO6
                      obtain ⟨j, A, m, c, hj, rfl, rfl, ho, hb⟩ := hrel
                      have HO := Lib.hid ho
                      have HBi := Lib.hid (HB6.out.trans hb)
                      have HRWi := Lib.hid (HRW6.out.below (hb.mono (by omega)))
                      have hzi := hb.size
                      clear ho
                      have HBj := Lib.hid hb
                      clear hb
                      by_cases hlj : j < ni
                      · have dj : (j : Int) < (ni : Int) := by omega
                        obtain ⟨b, off, hAi, hbB2, c0, c1, c2⟩ := stop_at HRWi.out hlj
                        rw [hAi]
                        obtain ⟨R1, hR1⟩ : ∃ R1, (rt.drop (j + 1)).flatMap encT ++ R0 = R1 := ⟨_, rfl⟩
                        have HO2 := Lib.hid (HO.out.to (show _ = beB 1 ((sat rt j).nm.size : Int) ++ (nmL (sat rt j).nm ++ (beB 4 (sat rt j).dl ++ (beB 1 (sat rt j).fl ++ R1))) by rw [drop_flat (sat_eq (by have := HML.out; omega)) R0, hR1]; unfold encT; simp))
                        have HR1 := Lib.hid hR1
                        clear hR1 HO
                        generalize sat rt j = st at *
                        obtain ⟨nm, dl, fl⟩ := st
                        simp only at c0 c1 c2 HO2
                        have hba := (Below.refl wr.heap.size wr).alloc (Nat.le_refl _) (.cells #[.string nm, .int .i64 dl, .int .i64 fl] 66)
                        have HBA := Lib.hid (HBi.out.trans (hba.mono (by omega)))
                        have HBA6 := Lib.hid (HBj.out.trans (hba.mono (by omega)))
                        have HOA := Lib.hid (HO2.out.later hba)
                        have hng := HO2.out.not_new (k := wr.heap.size) (Nat.le_refl _)
                        have HCA := Lib.hid (heap_alloc_new wr (.cells #[.string nm, .int .i64 dl, .int .i64 fl] 66))
                        have hzA : (wr.alloc (.cells #[.string nm, .int .i64 dl, .int .i64 fl] 66)).heap.size = wr.heap.size + 1 := by simp
                        clear hba HO2 HBi
                        go_wp2_with fail
                        generalize wr.alloc (.cells #[.string nm, .int .i64 dl, .int .i64 fl] 66) = wa at *
                        clear c0 c1 c2
                        obtain ⟨ga, hga⟩ : ∃ ga, wr.heap.size = ga := ⟨_, rfl⟩
                        rw [hga] at HCA hzA hzi hng ⊢
                        have HGA := Lib.hid hng
                        have j0 : wa.cell? ⟨ga, 0, none⟩ = some (.string nm) := by rw [blk_cell HCA.out]; rfl
                        have hga2 : ga < wa.heap.size := by omega
                        have hga3 : g + 1 ≤ ga := by omega
                        have hga4 : g + 1 ≤ wa.heap.size := by omega
                        clear hzA hga hng
                        have hbd : Below wa.heap.size wa wa.drew := (Below.refl _ _).drew
                        have HBB := Lib.hid (HBA.out.trans (hbd.mono hga4))
                        have HOB := Lib.hid (HOA.out.later hbd)
                        have HCB := Lib.hid ((hbd.block ga hga2).trans HCA.out)
                        have hz15 : g + 1 ≤ wa.drew.heap.size := hga4
                        have hz16 : ga < wa.drew.heap.size := hga2
                        clear hbd
                        go_region_held3 (fun w' => w'.cell? ⟨ga, 0, none⟩ = some (.string nm)) (go_keep) (first | (go_at_call 51; refine (HP1.out A m c (nm.size : Int) wa.drew (nmL nm ++ (beB 4 dl ++ (beB 1 fl ++ R1))) HOB.out.eo hz15).mono ?_; rintro e w7 ⟨A7, m7, c7, rfl, ho7, hb7, hf7, hp7⟩; have HO7 := Lib.hid ho7; have HB7 := Lib.hid (HBB.out.trans hb7); have HF7 := Lib.hid (hf7 ga hz16 HGA.out); have hs7 := hb7.size; have hg7 : g + 1 ≤ w7.heap.size := Nat.le_trans hz15 hs7; have hg7a : ga < w7.heap.size := Nat.lt_of_lt_of_le hz16 hs7; have HC7 := Lib.hid (HF7.out.1.trans HCB.out); have ka0 : w7.cell? ⟨ga, 0, none⟩ = some (.string nm) := (by rw [blk_cell HC7.out]; rfl); have HP7 := Lib.hid hp7; have HFX := Lib.hid hb7; clear ho7 hb7 hf7 hp7) | ((fail_if_success (go_simp; go_at_call 51)); refine step_appS (by rfl) (.tmp 111) (.tmp 113) (by rfl) A7 m7 c7 (by rfl) nm (by rfl) (g + 1) (beB 4 dl ++ (beB 1 fl ++ R1)) E HO7.out HP7.out HLEN.out hg7 ?_; intro A8 c8 w8 ho8 hb8 hf8; have HO8 := Lib.hid ho8; have HB8 := Lib.hid (HB7.out.trans hb8); have HF8 := Lib.hid (hf8 ga hg7a HF7.out.2); have hs8 := hb8.size; have hg8 : g + 1 ≤ w8.heap.size := Nat.le_trans hg7 hs8; have hg8a : ga < w8.heap.size := Nat.lt_of_lt_of_le hg7a hs8; have HC8 := Lib.hid (HF8.out.1.trans HC7.out); have kb0 : w8.cell? ⟨ga, 0, none⟩ = some (.string nm) := (by rw [blk_cell HC8.out]; rfl); have HFY := Lib.hid hb8; clear ho8 hb8 hf8))
                        all_goals (have HB8i := Lib.hid (((HBA6.out.trans ((Below.refl (g + 1) wa).drew)).trans HFX.out).trans HFY.out))
                        all_goals (clear j0 ka0 kb0 HOA HOB HCA HCB HGA HBB HB7 HO7 HF7 HC7 HBA HBA6 hs7 hg7 hg7a hga2 hga4 hz15 hz16 HFX HFY)
                        all_goals go_wp2_with fail
                        all_goals (have HOD := Lib.hid (HO8.out.later ((Below.refl w8.heap.size w8).drew)))
                        all_goals (have j1 : w8.cell? ⟨ga, 1, none⟩ = some (.int .i64 dl) := by rw [blk_cell HC8.out]; rfl)
                        all_goals (have j2 : w8.cell? ⟨ga, 2, none⟩ = some (.int .i64 fl) := by rw [blk_cell HC8.out]; rfl)
                        all_goals go_region_held3 (fun w' => w'.cell? ⟨ga, 1, none⟩ = some (.int .i64 dl) ∧ w'.cell? ⟨ga, 2, none⟩ = some (.int .i64 fl)) (go_keep) (first | (go_at_call 51; refine (HP1.out A9 m9 c9 fl w9 R1 HO9.out.eo hg9).mono ?_; rintro e wx ⟨Ax, mx, cx, rfl, hox, hbx, hfx, _⟩; have HOX := Lib.hid hox; have HFZ := Lib.hid (hfx ga hg9a HF9.out.2); have HCX := Lib.hid (HFZ.out.1.trans HC9.out); have kd1 : wx.cell? ⟨ga, 1, none⟩ = some (.int .i64 dl) := (by rw [blk_cell HCX.out]; rfl); have kd2 : wx.cell? ⟨ga, 2, none⟩ = some (.int .i64 fl) := (by rw [blk_cell HCX.out]; rfl); have HFY := Lib.hid hbx; clear hox hbx hfx) | (go_at_call 51; refine (HP4.out A8 (m7 + nm.size) c8 dl w8.drew (beB 1 fl ++ R1) HOD.out.eo hg8).mono ?_; rintro e w9 ⟨A9, m9, c9, rfl, ho9, hb9, hf9, _⟩; have HO9 := Lib.hid ho9; have HF9 := Lib.hid (hf9 ga hg8a HF8.out.2); have hs9 := hb9.size; have hg9 : g + 1 ≤ w9.heap.size := Nat.le_trans hg8 hs9; have hg9a : ga < w9.heap.size := Nat.lt_of_lt_of_le hg8a hs9; have HC9 := Lib.hid (HF9.out.1.trans HC8.out); have kc1 : w9.cell? ⟨ga, 1, none⟩ = some (.int .i64 dl) := (by rw [blk_cell HC9.out]; rfl); have kc2 : w9.cell? ⟨ga, 2, none⟩ = some (.int .i64 fl) := (by rw [blk_cell HC9.out]; rfl); have HFX := Lib.hid hb9; clear ho9 hb9 hf9))
                        all_goals go_wp2_with fail
                        all_goals exact ⟨⟨j + 1, Ax, mx, cx, by omega, by go_num, rfl, by rw [HR1.out]; exact HOX.out, ((HB8i.out.trans ((Below.refl (g + 1) w8).drew)).trans HFX.out).trans HFY.out⟩, by simp [intOf]; omega⟩
                      · obtain rfl : j = ni := by omega
                        have HO8 := Lib.hid (HO.out.to (show _ = R0 by rw [drop_end (by have := HML.out; omega)]))
                        clear HO HRWi
                        go_wp2_with fail
                        exact ⟨⟨k + 1, A, m, c, by omega, by go_num, rfl, by rw [HR0.out]; exact HO8.out, HBi.out⟩, by simp [intOf]; omega⟩
                  · obtain rfl : k = d.n3 := by omega
                    have HO1 := Lib.hid (HO.out.to (show _ = p.snds.flatMap encSd ++ [] by rw [drop_end (by have := HL3.out; omega), HT3.out]))
                    have k3 := HFR.out _ HBr.out 3 _ HEL.out.2.2.2.1
                    clear HO hn3
                    go_wp2_with fail
                    clear k3
                    have hn4 : d.n4 ≤ 64 := by have := HFMM.out.n4; rw [HL4.out] at this; exact this
                    go_loopw [5, 17, 19, 127] (fun o _ _ i wr => ∃ (k : Nat) (A : Option Addr) (m c : Nat), k ≤ d.n4 ∧ i = .int .i64 (k : Int) ∧ o = .slice A m c ∧ OWr (g + 1) wr A m c ((p.snds.drop k).flatMap encSd ++ []) E ∧ Below (g + 1) w1 wr) (fun _ _ _ i _ => d.n4 - (intOf i).toNat)
                    case atStart => exact ⟨0, A, m, c, by omega, rfl, rfl, HO1.out, HBr.out⟩
                    case round =>
                      clear HO1 HBr hzr
                      obtain ⟨k, A, m, c, hk, rfl, rfl, ho, hb⟩ := hrel
                      have HO := Lib.hid ho
                      have HBr := Lib.hid hb
                      have hzr := hb.size
                      clear ho hb
                      by_cases hlt : k < d.n4
                      · have dk : (k : Int) < (d.n4 : Int) := by omega
                        obtain ⟨b, off, Ai, ni, ci, hA4, hbB, c0, c1, c2, hnc, hrow⟩ := (HPR.out.snds.below (HBr.out.mono (by omega))).at_ hlt
                        rw [hA4]
                        have hml : (dat p.snds k).rts.length = ni := hrow.len
                        obtain ⟨R0, hR0⟩ : ∃ R0, (p.snds.drop (k + 1)).flatMap encSd ++ [] = R0 := ⟨_, rfl⟩
                        have HO2 := Lib.hid (HO.out.to (show _ = beB 1 (dat p.snds k).msg ++ (beB 1 (ni : Int) ++ ((dat p.snds k).rts.flatMap (beB 1) ++ (beB 1 ((dat p.snds k).blk + 1) ++ R0))) by rw [drop_flat (dat_eq (by have := HL4.out; omega)) [], hR0]; unfold encSd; rw [hml]; simp))
                        have HR0 := Lib.hid hR0
                        have HRW := Lib.hid hrow
                        have HML := Lib.hid hml
                        have HRT := Lib.hid (HFMM.out.snds _ (dat_mem (l := p.snds) (k := k) (by have := HL4.out; omega)))
                        have hni : ni ≤ 8 := by have := HRT.out.2.1; omega
                        have hbk1 : -1 ≤ (dat p.snds k).blk := HRT.out.2.2.2.2.2.1
                        have hbk2 : (dat p.snds k).blk ≤ 15 := HRT.out.2.2.2.2.2.2
                        clear hR0 HO hrow hml HRT
                        generalize dat p.snds k = sd at *
                        obtain ⟨mg, rl, bk⟩ := sd
                        simp only at c0 c1 c2 HO2 HRW HML hbk1 hbk2
                        have hba := (Below.refl wr.heap.size wr).alloc (Nat.le_refl _) (.cells #[.int .i64 mg, .slice Ai ni ci, .int .i64 bk] 43)
                        have HBA := Lib.hid (HBr.out.trans (hba.mono (by omega)))
                        have HOA := Lib.hid (HO2.out.later hba)
                        have HRA := Lib.hid (HRW.out.below (hba.mono (by omega)))
                        have hng := HO2.out.not_new (k := wr.heap.size) (Nat.le_refl _)
                        have HCA := Lib.hid (heap_alloc_new wr (.cells #[.int .i64 mg, .slice Ai ni ci, .int .i64 bk] 43))
                        have hzA : (wr.alloc (.cells #[.int .i64 mg, .slice Ai ni ci, .int .i64 bk] 43)).heap.size = wr.heap.size + 1 := by simp
                        clear hba HO2 HBr HRW
                        go_wp2_with fail
                        generalize wr.alloc (.cells #[.int .i64 mg, .slice Ai ni ci, .int .i64 bk] 43) = wa at *
                        clear c0 c1 c2
                        obtain ⟨ga, hga⟩ : ∃ ga, wr.heap.size = ga := ⟨_, rfl⟩
                        rw [hga] at HCA hzA hzr hng ⊢
                        have HGA := Lib.hid hng
                        have j0 : wa.cell? ⟨ga, 0, none⟩ = some (.int .i64 mg) := by rw [blk_cell HCA.out]; rfl
                        have j1 : wa.cell? ⟨ga, 1, none⟩ = some (.slice Ai ni ci) := by rw [blk_cell HCA.out]; rfl
                        have hga2 : ga < wa.heap.size := by omega
                        have hga3 : g + 1 ≤ ga := by omega
                        have hga4 : g + 1 ≤ wa.heap.size := by omega
                        clear hzA hga hng
                        have hbd : Below wa.heap.size wa wa.drew := (Below.refl _ _).drew
                        have HBB := Lib.hid (HBA.out.trans (hbd.mono hga4))
                        have HOB := Lib.hid (HOA.out.later hbd)
                        have HCB := Lib.hid ((hbd.block ga hga2).trans HCA.out)
                        have hz15 : g + 1 ≤ wa.drew.heap.size := hga4
                        have hz16 : ga < wa.drew.heap.size := hga2
                        clear hbd
                        have hBg : B ≤ g + 1 := by omega
                        go_region_held3 (fun w' => w'.cell? ⟨ga, 0, none⟩ = some (.int .i64 mg) ∧ w'.cell? ⟨ga, 1, none⟩ = some (.slice Ai ni ci)) (go_keep) (first | (go_at_call 51; refine (HP1.out A7 m7 c7 (ni : Int) w7 (rl.flatMap (beB 1) ++ (beB 1 (bk + 1) ++ R0)) HO7.out.eo hg7).mono ?_; rintro e w8 ⟨A8, m8, c8, rfl, ho8, hb8, hf8, _⟩; have HO8 := Lib.hid ho8; have HB8 := Lib.hid (HB7.out.trans hb8); have HF8 := Lib.hid (hf8 ga hg7a HF7.out.2); have hs8 := hb8.size; have hg8 : g + 1 ≤ w8.heap.size := Nat.le_trans hg7 hs8; have hg8a : ga < w8.heap.size := Nat.lt_of_lt_of_le hg7a hs8; have HC8 := Lib.hid (HF8.out.1.trans HC7.out); have HR8 := Lib.hid (HR7.out.below (hb8.mono hBg)); have kb0 : w8.cell? ⟨ga, 0, none⟩ = some (.int .i64 mg) := (by rw [blk_cell HC8.out]; rfl); have kb1 : w8.cell? ⟨ga, 1, none⟩ = some (.slice Ai ni ci) := (by rw [blk_cell HC8.out]; rfl); clear ho8 hb8 hf8) | (go_at_call 51; refine (HP1.out A m c mg wa.drew (beB 1 (ni : Int) ++ (rl.flatMap (beB 1) ++ (beB 1 (bk + 1) ++ R0))) HOB.out.eo hz15).mono ?_; rintro e w7 ⟨A7, m7, c7, rfl, ho7, hb7, hf7, _⟩; have HO7 := Lib.hid ho7; have HB7 := Lib.hid (HBB.out.trans hb7); have HF7 := Lib.hid (hf7 ga hz16 HGA.out); have hs7 := hb7.size; have hg7 : g + 1 ≤ w7.heap.size := Nat.le_trans hz15 hs7; have hg7a : ga < w7.heap.size := Nat.lt_of_lt_of_le hz16 hs7; have HC7 := Lib.hid (HF7.out.1.trans HCB.out); have HR7 := Lib.hid (HRA.out.below (((Below.refl B wa).drew).trans (hb7.mono hBg))); have ka0 : w7.cell? ⟨ga, 0, none⟩ = some (.int .i64 mg) := (by rw [blk_cell HC7.out]; rfl); have ka1 : w7.cell? ⟨ga, 1, none⟩ = some (.slice Ai ni ci) := (by rw [blk_cell HC7.out]; rfl); clear ho7 hb7 hf7))
                        all_goals (clear j0 j1 ka0 ka1 kb0 HOA HOB HCA HCB HGA HBB HB7 HO7 HF7 HC7 HBA hs7 hg7 hg7a hga2 hga4 hz15 hz16 HR7 HRA)
                        all_goals go_wp2_with fail
                        all_goals clear kb1
                        all_goals go_loopw [5, 19, 142] (fun o _ i wr => ∃ (j : Nat) (A : Option Addr) (m c : Nat), j ≤ ni ∧ i = .int .i64 (j : Int) ∧ o = .slice A m c ∧ OWr (g + 1) wr A m c ((rl.drop j).flatMap (beB 1) ++ (beB 1 (bk + 1) ++ R0)) E ∧ Below (g + 1) w8 wr ∧ wr.heap[ga]? = some (.cells #[.int .i64 mg, .slice Ai ni ci, .int .i64 bk] 43 (0, 0)) ∧ (Value.slice A m c).ownBlock ≠ some ga) (fun _ _ i _ => ni - (intOf i).toNat)
                        case atStart => exact ⟨0, A8, m8, c8, by omega, rfl, rfl, HO8.out, Below.refl _ _, HC8.out, HF8.out.2⟩
                        case round =>
                          clear HO8
                          obtain ⟨j, A, m, c, hj, rfl, rfl, ho, hb, hcg, hog⟩ := hrel
                          have HO := Lib.hid ho
                          have HBi := Lib.hid (HB8.out.trans hb)
                          have HBj := Lib.hid hb
                          have HRi := Lib.hid (HR8.out.below (hb.mono hBg))
                          have HCG := Lib.hid hcg
                          have HOG := Lib.hid hog
                          have hzi := hb.size
                          have hgi : g + 1 ≤ wr.heap.size := Nat.le_trans hg8 hzi
                          have hgia : ga < wr.heap.size := Nat.lt_of_lt_of_le hg8a hzi
                          clear ho hb hcg hog
                          by_cases hlj : j < ni
                          · have dj : (j : Int) < (ni : Int) := by omega
                            obtain ⟨ad, hAi, hbb, hcell, hi1, hi2⟩ := HRi.out.at_ hlj
                            rw [hAi]
                            have hRj := HO.out.to (show _ = beB 1 (it rl j) ++ ((rl.drop (j + 1)).flatMap (beB 1) ++ (beB 1 (bk + 1) ++ R0)) from drop_flat (show rl[j]? = some (it rl j) from itI_eq (by have := HML.out; omega)) _)
                            have HOj := Lib.hid hRj
                            clear hRj HO
                            go_wp2_with fail
                            refine (HP1.out A m c (it rl j) _ _ HOj.out.eo hgi).mono ?_
                            rintro e w9 ⟨A9, m9, c9, rfl, ho9, hb9, hf9, _⟩
                            have HO9 := Lib.hid ho9
                            have HB9 := Lib.hid (HBj.out.trans hb9)
                            have HF9 := Lib.hid (hf9 ga hgia HOG.out)
                            clear ho9 hb9 hf9
                            go_wp2_with fail
                            exact ⟨⟨j + 1, A9, m9, c9, by omega, by go_num, rfl, HO9.out, HB9.out, by rw [← hAi]; exact HF9.out.1.trans HCG.out, HF9.out.2⟩, by simp [intOf]; omega⟩
                          · obtain rfl : j = ni := by omega
                            have HOe := Lib.hid (HO.out.to (show _ = beB 1 (bk + 1) ++ R0 from drop_end (by have := HML.out; omega) _))
                            have k2 : wr.cell? ⟨ga, 2, none⟩ = some (.int .i64 bk) := by rw [blk_cell HCG.out]; rfl
                            clear HO
                            go_wp2_with fail
                            refine (HP1.out A m c (bk + 1) _ _ HOe.out.eo hgi).mono ?_
                            rintro e w9 ⟨A9, m9, c9, rfl, ho9, hb9, _, _⟩
                            have HO9 := Lib.hid ho9
                            have HB9 := Lib.hid (HBi.out.trans hb9)
                            clear ho9 hb9
                            go_wp2_with fail
                            exact ⟨⟨k + 1, A9, m9, c9, by omega, by go_num, rfl, by rw [HR0.out]; exact HO9.out, HB9.out⟩, by simp [intOf]; omega⟩
                      · obtain rfl : k = d.n4 := by omega
                        have HO8 := Lib.hid (HO.out.to (show _ = [] by rw [drop_end (by have := HL4.out; omega)]))
                        have HBF := Lib.hid (HB1.out.trans (HBr.out.mono (Nat.le_succ _)))
                        clear HO HBr
                        obtain ⟨l, hl1, hl2⟩ := HO8.out
                        rw [List.append_nil] at hl2
                        subst hl2
                        have HOL := Lib.hid (own_base hl1 (Nat.le_succ g))
                        have hll : l.length = m := by have := hl1.1; rw [length_bv] at this; omega
                        have HLL := Lib.hid hll
                        clear hl1 hll HO8
                        go_wp2_with fail
                        go_ret2
                        refine ⟨by rw [HG.out]; exact HBF.out, ?_⟩
                        first
                          | exact .inr ⟨rfl, A, m, c, rfl, HLL.out, by rw [HG.out]; exact HOL.out⟩
                          | exact ⟨A, m, c, rfl, HLL.out, by rw [HG.out]; exact HOL.out⟩
end Go.Proofs.YtkmcjjoicpgjfaaDoor
/-
  strconv.Itoa by the shelf's contract, laid at this program. (Only in the seat of the Code laws.)
-/
namespace Go.Proofs.YtkmcjjoicpgjfaaDoor
open Go Go.Shelf
def laysM171_ren : Go.Shelf.Ren := ⟨fun | 171 => 28 | 243 => 53 | 246 => 75 | 283 => 83 | 284 => 84 | 285 => 85 | 286 => 86 | 129 => 90 | 317 => 89 | 318 => 91 | 319 => 92 | 320 => 93 | 337 => 95 | 338 => 96 | n => n, fun | 3 => 3 | 9 => 9 | 2 => 2 | 4 => 4 | 171 => 134 | 0 => 0 | 53 => 113 | 37 => 39 | 5 => 5 | 173 => 137 | 212 => 141 | 51 => 142 | 20 => 20 | 213 => 143 | 46 => 139 | 232 => 147 | 233 => 152 | n => n, fun | 17 => 0 | 18 => 1 | 19 => 2 | n => n⟩
theorem laysM171 : Go.Proofs.LaysM.n171 Tryd.prog laysM171_ren := {
  mixed := by kernel_rfl
  f129 := Tryd.func90.trans (congrArg some (by kernel_rfl))
  f171 := Tryd.func28.trans (congrArg some (by kernel_rfl))
  f243 := Tryd.func53.trans (congrArg some (by kernel_rfl))
  f246 := Tryd.func75.trans (congrArg some (by kernel_rfl))
  f283 := Tryd.func83.trans (congrArg some (by kernel_rfl))
  f284 := Tryd.func84.trans (congrArg some (by kernel_rfl))
  f285 := Tryd.func85.trans (congrArg some (by kernel_rfl))
  f286 := Tryd.func86.trans (congrArg some (by kernel_rfl))
  f317 := Tryd.func89.trans (congrArg some (by kernel_rfl))
  f318 := Tryd.func91.trans (congrArg some (by kernel_rfl))
  f319 := Tryd.func92.trans (congrArg some (by kernel_rfl))
  f320 := Tryd.func93.trans (congrArg some (by kernel_rfl))
  f337 := Tryd.func95.trans (congrArg some (by kernel_rfl))
  f338 := Tryd.func96.trans (congrArg some (by kernel_rfl))
  t0 := Tryd.underlying0
  a0 := Tryd.isAgg0
  z0 := Tryd.sizeOf0
  v0 := Tryd.zeroValue0
  t2 := Tryd.underlying2
  a2 := Tryd.isAgg2
  z2 := Tryd.sizeOf2
  v2 := Tryd.zeroValue2
  t3 := Tryd.underlying3
  a3 := Tryd.isAgg3
  z3 := Tryd.sizeOf3
  v3 := Tryd.zeroValue3
  t4 := Tryd.underlying4
  a4 := Tryd.isAgg4
  z4 := Tryd.sizeOf4
  v4 := Tryd.zeroValue4
  t5 := Tryd.underlying5
  a5 := Tryd.isAgg5
  z5 := Tryd.sizeOf5
  v5 := Tryd.zeroValue5
  t9 := Tryd.underlying9
  a9 := Tryd.isAgg9
  z9 := Tryd.sizeOf9
  v9 := Tryd.zeroValue9
  t20 := Tryd.underlying20
  a20 := Tryd.isAgg20
  z20 := Tryd.sizeOf20
  v20 := Tryd.zeroValue20
  t37 := Tryd.underlying39
  a37 := Tryd.isAgg39
  z37 := Tryd.sizeOf39
  v37 := Tryd.zeroValue39
  t46 := Tryd.underlying139
  a46 := Tryd.isAgg139
  z46 := Tryd.sizeOf139
  v46 := Tryd.zeroValue139
  t51 := Tryd.underlying142
  a51 := Tryd.isAgg142
  z51 := Tryd.sizeOf142
  v51 := Tryd.zeroValue142
  t53 := Tryd.underlying113
  a53 := Tryd.isAgg113
  z53 := Tryd.sizeOf113
  v53 := Tryd.zeroValue113
  t171 := Tryd.underlying134
  a171 := Tryd.isAgg134
  z171 := Tryd.sizeOf134
  v171 := Tryd.zeroValue134
  t173 := Tryd.underlying137
  a173 := Tryd.isAgg137
  z173 := Tryd.sizeOf137
  v173 := Tryd.zeroValue137
  t212 := Tryd.underlying141
  a212 := Tryd.isAgg141
  z212 := Tryd.sizeOf141
  v212 := Tryd.zeroValue141
  t213 := Tryd.underlying143
  a213 := Tryd.isAgg143
  z213 := Tryd.sizeOf143
  t232 := Tryd.underlying147
  a232 := Tryd.isAgg147
  z232 := Tryd.sizeOf147
  v232 := Tryd.zeroValue147
  t233 := Tryd.underlying152
  a233 := Tryd.isAgg152
  z233 := Tryd.sizeOf152
  v233 := Tryd.zeroValue152
  g17 := by kernel_rfl
  g18 := by kernel_rfl
  g19 := by kernel_rfl
  i0 := by kernel_rfl
  i2 := by kernel_rfl
  i3 := by kernel_rfl
  i4 := by kernel_rfl
  i5 := by kernel_rfl
  i9 := by kernel_rfl
  i20 := by kernel_rfl
  i37 := by kernel_rfl
  i46 := by kernel_rfl
  i51 := by kernel_rfl
  i53 := by kernel_rfl
  i171 := by kernel_rfl
  i173 := by kernel_rfl
  i212 := by kernel_rfl
  i232 := by kernel_rfl
  i233 := by kernel_rfl
  m17 := by kernel_rfl
  m18 := by kernel_rfl
  m19 := by kernel_rfl }
open Go.Sort in
theorem Itoa_any (n : Int) (h0 : -9223372036854775808 ≤ n) (h1 : n ≤ 9223372036854775807) (w : World) (htab : Lib.TabIs Tryd.prog w "internal/strconv.uint64pow10" .u64 Lib.pow10Tab) :
    Calls Tryd.prog 28 #[.int .i64 n] w fun e w' => e = .returned (.string ⟨(Lib.itoa n).toArray⟩) ∧ ∃ k os, w' = grow (w.drewN k) os := Any.strconv_Itoa laysM171 n h0 h1 w htab
end Go.Proofs.YtkmcjjoicpgjfaaDoor
/-
  Contract of code.Lines: a line for each instruction. Conditions: the sizes that slices can have, numbers that fit, and the table that strconv.Itoa reads.
-/
namespace Go.Proofs.YtkmcjjoicpgjfaaDoor
open Go Go.RowKit Go.Sh

set_option maxRecDepth 100000 in
theorem TSs : STy Tryd.prog 24 9 (.string .empty) 1 16 := ⟨Tryd.underlying24, by kernel_rfl, rfl, by decide⟩
/-- the table of powers of ten reads as it should, whatever is done from B on -/
def TabOK (B : Nat) (w : World) : Prop := Lib.TabBelow Tryd.prog B w "internal/strconv.uint64pow10" .u64 Lib.pow10Tab
theorem TabOK.on {B B' : Nat} {w w' : World} (h : TabOK B w) (hb : Below B' w w') (hB : B ≤ B') : TabOK B w' := Lib.TabBelow.on h (hb.mono hB)
theorem ItoaL_any (n : Int) (h0 : -9223372036854775808 ≤ n) (h1 : n ≤ 9223372036854775807) (w : World) {B : Nat} (ht : TabOK B w) :
    Calls Tryd.prog 28 #[.int .i64 n] w fun e w' => e = .returned (.string ⟨(Lib.itoa n).toArray⟩) ∧ Below w.heap.size w w' := by
  refine (Itoa_any n h0 h1 w ht.here).mono ?_
  rintro e w' ⟨rfl, k, os, rfl⟩
  exact ⟨rfl, Lib.below_grow _ w (Nat.le_refl _) k os⟩
theorem ln_one' {i : Ins} (h : usN i.op.toNat ≠ 0) (h3 : usN i.op.toNat ≠ 3) : (⟨(lnS i).toArray⟩ : ByteArray) = nmV i.op.toNat ++ (⟨#[32]⟩ ++ ⟨(Lib.itoa i.a).toArray⟩) := by
  unfold lnS nmV
  rw [if_neg h, if_neg h3, List.append_nil, show (⟨#[32]⟩ : ByteArray) = ⟨[32].toArray⟩ from rfl, str_cat, str_cat]
  rfl
theorem ln_two' {i : Ins} (h3 : usN i.op.toNat = 3) : (⟨(lnS i).toArray⟩ : ByteArray) = nmV i.op.toNat ++ (⟨#[32]⟩ ++ ⟨(Lib.itoa i.a).toArray⟩) ++ (⟨#[32]⟩ ++ ⟨(Lib.itoa i.b).toArray⟩) := by
  unfold lnS nmV
  rw [if_neg (by omega), if_pos h3, show (⟨#[32]⟩ : ByteArray) = ⟨[32].toArray⟩ from rfl, str_cat, str_cat, str_cat, str_cat]
  simp
set_option maxRecDepth 100000 in
set_option maxHeartbeats 4000000 in
theorem Lines_any (d : Pad) (p : Prg) (w : World) (B : Nat) (hc : RR w B 3 d.A1 d.n1 (p.code.map Ins.cells)) (hB : B ≤ w.heap.size) (hok : ∀ i ∈ p.code, i.OK) (hn : d.n1 * 16 ≤ 140737488355328) (ht : TabOK w.heap.size w) :
    Calls Tryd.prog 8 #[.agg (pcs d p)] w (fun e w' => ∃ A c, e = .returned (.slice A d.n1 c) ∧ w'.ownsRow w.heap.size 9 1 (.slice A d.n1 c) d.n1 (p.code.map lnV) ∧ Below w.heap.size w w') := by
  have hb1 := (Below.refl w.heap.size w).alloc (Nat.le_refl _) (.cells (pcs d p) 30)
  have HB1 := Lib.hid hb1
  have HT1 := Lib.hid (ht.on hb1 (Nat.le_refl _))
  have HC1 := Lib.hid (hc.below (hb1.mono hB))
  have hc0 : (w.alloc (.cells (pcs d p) 30)).cell? ⟨w.heap.size, 0, none⟩ = some (.slice d.A1 d.n1 d.c1) := by rw [blk_cell (heap_alloc_new w _)]; rfl
  have hps : (pcs d p).size = 8 := rfl
  have hz1 : (w.alloc (.cells (pcs d p) 30)).heap.size = w.heap.size + 1 := by simp
  have HOK := Lib.hid hok
  have HL1 := Lib.hid (show p.code.length = d.n1 by have := hc.len; rw [List.length_map] at this; exact this)
  clear hc hb1 hok ht
  obtain ⟨X, hX⟩ : ∃ X, pcs d p = X := ⟨_, rfl⟩
  rw [hX] at HB1 HT1 HC1 hc0 hps hz1 ⊢
  have hxe : ¬ X = #[] := by intro h; rw [h] at hps; cases hps
  clear hX
  generalize d.n1 = n at *
  generalize d.A1 = A0 at *
  generalize d.c1 = cc at *
  go_enter Tryd.func8, Tryd.ntmps8
  go_wp2_with fail
  clear hc0
  generalize w.alloc (.cells X 30) = w1 at *
  generalize hg : w.heap.size = g at *
  have HG := Lib.hid hg
  clear hg
  go_loopw [3, 5, 6, 7, 8, 12] (fun ls _ _ _ _ i wr => ∃ (k : Nat) (A : Option Addr) (c : Nat), k ≤ n ∧ i = .int .i64 (k : Int) ∧ ls = .slice A k c ∧ wr.ownsRow (g + 1) 9 1 (.slice A k c) k ((p.code.map lnV).take k) ∧ Below (g + 1) w1 wr) (fun _ _ _ _ _ i _ => n - (intOf i).toNat)
  case atStart => exact ⟨0, none, 0, by omega, rfl, rfl, World.ownsRow_nil _ _ _ _, Below.refl _ _⟩
  case round =>
    obtain ⟨k, A, c, hk, rfl, rfl, ho, hb⟩ := hrel
    have HO := Lib.hid ho
    have HBr := Lib.hid hb
    have hz := hb.size
    clear ho hb
    by_cases hlt : k < n
    · have dk : (k : Int) < (n : Int) := by omega
      obtain ⟨b, off, hA1, hbB, c0, c1, c2⟩ := ins_at (HC1.out.below (HBr.out.mono (by omega))) hlt
      rw [hA1]
      have HMEM := Lib.hid (HOK.out _ (iat_mem (l := p.code) (k := k) (by have := HL1.out; omega)))
      have HTK := Lib.hid (show (p.code.map lnV).take (k + 1) = (p.code.map lnV).take k ++ [lnV (iat p.code k)] by
        rw [List.take_add_one, List.getElem?_map, iat_eq (by have := HL1.out; omega)]; rfl)
      generalize iat p.code k = st at *
      have HTA := Lib.hid (fun W h => ItoaL_any st.a HMEM.out.a.1 HMEM.out.a.2 W (B := g) h)
      have HTB := Lib.hid (fun W h => ItoaL_any st.b HMEM.out.b.1 HMEM.out.b.2 W (B := g) h)
      have la : (⟨(Lib.itoa st.a).toArray⟩ : ByteArray).size ≤ 21 := Lib.itoa_length_le st.a HMEM.out.a.1 HMEM.out.a.2
      have lb : (⟨(Lib.itoa st.b).toArray⟩ : ByteArray).size ≤ 21 := Lib.itoa_length_le st.b HMEM.out.b.1 HMEM.out.b.2
      have HN0 := Lib.hid (fun h => ln_none (i := st) h)
      have HN1 := Lib.hid (fun h h3 => ln_one' (i := st) h h3)
      have HN2 := Lib.hid (fun h3 => ln_two' (i := st) h3)
      have HLV := Lib.hid (show lnV st = .string ⟨(lnS st).toArray⟩ from rfl)
      clear HMEM
      generalize (⟨(Lib.itoa st.a).toArray⟩ : ByteArray) = sa at *
      generalize (⟨(Lib.itoa st.b).toArray⟩ : ByteArray) = sb at *
      generalize (⟨(lnS st).toArray⟩ : ByteArray) = LN at *
      generalize lnV st = lv at *
      obtain ⟨op, a, bb⟩ := st
      simp only at c0 c1 c2 HTA HTB HN0 HN1 HN2
      have hln := nmV_size op.toNat
      have HTI := Lib.hid (fun W => title_any op.toNat W)
      have HUS := Lib.hid (fun W => uses_any op.toNat W)
      generalize nmV op.toNat = nm at *
      generalize usN op.toNat = u at *
      generalize usB op.toNat = ub at *
      generalize op.toNat = o at *
      have hba := (Below.refl wr.heap.size wr).alloc (Nat.le_refl _) (.cells #[.int .u8 (o : Int), .int .i64 a, .int .i64 bb] 33)
      have HBA := Lib.hid (HBr.out.trans (hba.mono (by omega)))
      have HOA := Lib.hid (own_later HO.out hba)
      have HCA := Lib.hid (heap_alloc_new wr (.cells #[.int .u8 (o : Int), .int .i64 a, .int .i64 bb] 33))
      have hzA : (wr.alloc (.cells #[.int .u8 (o : Int), .int .i64 a, .int .i64 bb] 33)).heap.size = wr.heap.size + 1 := by simp
      clear hba HO HBr
      go_wp2_with fail
      generalize wr.alloc (.cells #[.int .u8 (o : Int), .int .i64 a, .int .i64 bb] 33) = wa at *
      clear c0 c1 c2
      obtain ⟨ga, hga⟩ : ∃ ga, wr.heap.size = ga := ⟨_, rfl⟩
      rw [hga] at HCA hzA hz ⊢
      have HTA1 := Lib.hid (HT1.out.on HBA.out (Nat.le_succ _))
      refine (HTI.out _).mono ?_
      rintro e wb ⟨rfl, rfl⟩
      have j0 : wa.cell? ⟨ga, 0, none⟩ = some (.int .u8 (o : Int)) := by rw [blk_cell HCA.out]; rfl
      have j1 : wa.cell? ⟨ga, 1, none⟩ = some (.int .i64 a) := by rw [blk_cell HCA.out]; rfl
      go_wp2_with fail
      refine (HUS.out _).mono ?_
      rintro e wb ⟨rfl, rfl⟩
      clear HTI HUS
      rcases (show u = 0 ∨ u = 3 ∨ (u ≠ 0 ∧ u ≠ 3) by omega) with hu | hu | hu
      · have E := Lib.hid (HN0.out hu)
        subst hu
        rw [← E.out]
        have hge_u0 : g + 1 ≤ wa.heap.size := by omega
        clear hzA
        go_wp2_with (at_builtin; (refine wl_app TSs rfl (.tmp 41) (.tmp 43) rfl _ rfl (some ⟨wa.heap.size, 0, none⟩) 1 1 rfl (g + 1) k _ (HOA.out.alloc _) (wa.heap.size + 1) _ (Reads.lit wa _ [.string LN] 1 1 rfl _ rfl) ?hone_u0 ?hb1_u0 ?hb2_u0 ?hb3_u0 ?hgo_u0))
        case hone_u0 => simp [Value.oneCell']
        case hb1_u0 => omega
        case hb2_u0 => omega
        case hb3_u0 => simp; omega
        case hgo_u0 =>
          intro A3 c3 w3 hown3 hg3 _
          have HB3 := Lib.hid ((HBA.out.alloc (by omega) _).grown hg3 (by simp; omega) (own_drop HOA.out))
          have HO3 := Lib.hid (show w3.ownsRow (g + 1) 9 1 (.slice A3 (k + 1) c3) (k + 1) ((p.code.map lnV).take (k + 1)) by rw [HTK.out, HLV.out]; exact hown3)
          clear hown3 hg3
          go_wp2_with fail
          exact ⟨⟨k + 1, A3, c3, by omega, by go_num, rfl, HO3.out, HB3.out⟩, by simp [intOf]; omega⟩
      · have E := Lib.hid (HN2.out hu)
        have u0 : ((u : Int) != 0) = true := by rw [bne_iff_ne]; omega
        have u3 : ((u : Int) == 3) = true := by rw [beq_iff_eq]; omega
        clear hu
        go_wp2_with fail
        refine (HTA.out _ HTA1.out).mono ?_
        rintro e w5 ⟨rfl, hb5⟩
        have hs5 := hb5.size
        have HB5 := Lib.hid (HBA.out.trans (hb5.mono (by omega)))
        have HO5 := Lib.hid (own_later HOA.out hb5)
        have HC5 := Lib.hid ((hb5.block ga (by omega)).trans HCA.out)
        have HTB5 := Lib.hid (HT1.out.on HB5.out (Nat.le_succ _))
        clear hb5
        have k05 : w5.cell? ⟨ga, 0, none⟩ = some (.int .u8 (o : Int)) := by rw [blk_cell HC5.out]; rfl
        have k25 : w5.cell? ⟨ga, 2, none⟩ = some (.int .i64 bb) := by rw [blk_cell HC5.out]; rfl
        go_wp2_with fail
        refine (HTB.out _ HTB5.out).mono ?_
        rintro e w6 ⟨rfl, hb6⟩
        have hs6 := hb6.size
        have HB6 := Lib.hid (HB5.out.trans (hb6.mono (by omega)))
        have HO6 := Lib.hid (own_later HO5.out hb6)
        have HC6 := Lib.hid ((hb6.block ga (by omega)).trans HC5.out)
        have HTB6 := Lib.hid (HT1.out.on HB6.out (Nat.le_succ _))
        clear hb6
        have k06 : w6.cell? ⟨ga, 0, none⟩ = some (.int .u8 (o : Int)) := by rw [blk_cell HC6.out]; rfl
        have k26 : w6.cell? ⟨ga, 2, none⟩ = some (.int .i64 bb) := by rw [blk_cell HC6.out]; rfl
        rw [E.out] at HLV
        have hge_u3 : g + 1 ≤ w6.heap.size := by omega
        skip
        go_wp2_with (at_builtin; (refine wl_app TSs rfl (.tmp 41) (.tmp 43) rfl _ rfl (some ⟨w6.heap.size, 0, none⟩) 1 1 rfl (g + 1) k _ (HO6.out.alloc _) (w6.heap.size + 1) _ (Reads.lit w6 _ [.string _] 1 1 rfl _ rfl) ?hone_u3 ?hb1_u3 ?hb2_u3 ?hb3_u3 ?hgo_u3))
        case hone_u3 => simp [Value.oneCell']
        case hb1_u3 => omega
        case hb2_u3 => omega
        case hb3_u3 => simp; omega
        case hgo_u3 =>
          intro A3 c3 w3 hown3 hg3 _
          have HB3 := Lib.hid ((HB6.out.alloc (by omega) _).grown hg3 (by simp; omega) (own_drop HO6.out))
          have HO3 := Lib.hid (show w3.ownsRow (g + 1) 9 1 (.slice A3 (k + 1) c3) (k + 1) ((p.code.map lnV).take (k + 1)) by rw [HTK.out, HLV.out]; exact hown3)
          clear hown3 hg3
          go_wp2_with fail
          exact ⟨⟨k + 1, A3, c3, by omega, by go_num, rfl, HO3.out, HB3.out⟩, by simp [intOf]; omega⟩
      · have E := Lib.hid (HN1.out hu.1 hu.2)
        have u0 : ((u : Int) != 0) = true := by rw [bne_iff_ne]; omega
        have u3 : ((u : Int) == 3) = false := by rw [beq_eq_false_iff_ne]; omega
        clear hu
        go_wp2_with fail
        refine (HTA.out _ HTA1.out).mono ?_
        rintro e w5 ⟨rfl, hb5⟩
        have hs5 := hb5.size
        have HB5 := Lib.hid (HBA.out.trans (hb5.mono (by omega)))
        have HO5 := Lib.hid (own_later HOA.out hb5)
        have HC5 := Lib.hid ((hb5.block ga (by omega)).trans HCA.out)
        have HTB5 := Lib.hid (HT1.out.on HB5.out (Nat.le_succ _))
        clear hb5
        have k05 : w5.cell? ⟨ga, 0, none⟩ = some (.int .u8 (o : Int)) := by rw [blk_cell HC5.out]; rfl
        have k25 : w5.cell? ⟨ga, 2, none⟩ = some (.int .i64 bb) := by rw [blk_cell HC5.out]; rfl
        rw [E.out] at HLV
        have hge_u1 : g + 1 ≤ w5.heap.size := by omega
        skip
        go_wp2_with (at_builtin; (refine wl_app TSs rfl (.tmp 41) (.tmp 43) rfl _ rfl (some ⟨w5.heap.size, 0, none⟩) 1 1 rfl (g + 1) k _ (HO5.out.alloc _) (w5.heap.size + 1) _ (Reads.lit w5 _ [.string _] 1 1 rfl _ rfl) ?hone_u1 ?hb1_u1 ?hb2_u1 ?hb3_u1 ?hgo_u1))
        case hone_u1 => simp [Value.oneCell']
        case hb1_u1 => omega
        case hb2_u1 => omega
        case hb3_u1 => simp; omega
        case hgo_u1 =>
          intro A3 c3 w3 hown3 hg3 _
          have HB3 := Lib.hid ((HB5.out.alloc (by omega) _).grown hg3 (by simp; omega) (own_drop HO5.out))
          have HO3 := Lib.hid (show w3.ownsRow (g + 1) 9 1 (.slice A3 (k + 1) c3) (k + 1) ((p.code.map lnV).take (k + 1)) by rw [HTK.out, HLV.out]; exact hown3)
          clear hown3 hg3
          go_wp2_with fail
          exact ⟨⟨k + 1, A3, c3, by omega, by go_num, rfl, HO3.out, HB3.out⟩, by simp [intOf]; omega⟩
    · obtain rfl : k = n := by omega
      have HO2 := Lib.hid (show wr.ownsRow g 9 1 (.slice A k c) k (p.code.map lnV) by
        have h := own_base HO.out (Nat.le_succ g)
        rw [List.take_of_length_le (by rw [List.length_map]; have := HL1.out; omega)] at h
        exact h)
      have HBF := Lib.hid (HB1.out.trans (HBr.out.mono (Nat.le_succ _)))
      clear HO HBr
      go_wp2_with fail
      go_ret
      exact ⟨A, c, rfl, by rw [HG.out]; exact HO2.out, by rw [HG.out]; exact HBF.out⟩
end Go.Proofs.YtkmcjjoicpgjfaaDoor
/-
  Contract of shallotlaw18.awake: true. Conditions: the table that strconv.Itoa reads.
-/
namespace Go.Proofs.YtkmcjjoicpgjfaaDoor
open Go Go.RowKit Go.Sh

theorem TabOK.more {B B' : Nat} {w : World} (h : TabOK B w) (hB : B ≤ B') : TabOK B' w := fun w' hb => h w' (hb.mono hB)
theorem own_at18 {w : World} {base e size n c : Nat} {A : Option Addr} {xs : List Value} (h : w.ownsRow base e size (.slice A n c) n xs) (hn : 0 < n) : ∃ g, A = some ⟨g, 0, none⟩ ∧ base ≤ g ∧ g < w.heap.size := by
  rcases h.2 with ⟨_, h0⟩ | ⟨g, cap, cur, hv, hb, hh, _⟩
  · omega
  · injection hv with hv
    exact ⟨g, hv, hb, (Array.getElem?_eq_some_iff.1 hh).1⟩
/-- the fixed program of one push -/
def p18 : Prg := ⟨[⟨1, -1, 0⟩], [], [], [], 0, 1, 0, 0⟩
theorem p18_ck : ckP p18 = 0 := by unfold ckP; decide
def b18 : List UInt8 := [115, 104, 108, 49, 0, 1, 0, 0, 0, 0, 0, 0, 0, 0, 0, 1, 0, 0, 0, 0, 0, 0, 1, 255, 255, 255, 255, 0, 0]
theorem p18_enc : encP p18 = b18 := by decide +kernel
theorem p18_line : p18.code.map lnV = [.string ⟨#[112, 117, 115, 104, 32, 45, 49]⟩] := by
  show [lnV ⟨1, -1, 0⟩] = _
  unfold lnV lnS
  have h1 : Lib.itoa (-1) = [45, 49] := by
    unfold Lib.itoa
    rw [if_pos (by decide), show Int.natAbs (-1) = 1 from rfl, Lib.decDigits_one (by decide)]
    rfl
  simp only
  rw [h1]
  rfl
/-- where it lies -/
def d18 (g : Nat) : Pad := ⟨some ⟨g, 0, none⟩, 1, 1, none, 0, 0, none, 0, 0, none, 0, 0⟩
theorem p18_at {W : World} {g B : Nat} {ty : TypeId} {fr : Nat × Nat} (h : W.heap[g]? = some (.cells #[.int .u8 1, .int .i64 (-1), .int .i64 0] ty fr)) (hB : g < B) : PR W B (d18 g) p18 := by
  have hz : RR W B 3 none 0 ([] : List (List Value)) := ⟨rfl, (fun _ h => by cases h), .inl rfl⟩
  have hc : ∀ k v, (#[.int .u8 1, .int .i64 (-1), .int .i64 0] : Array Value)[k]? = some v → W.cell? ⟨g, k, none⟩ = some v := fun k v hv => by rw [blk_cell h]; exact hv
  refine ⟨⟨rfl, fun cs hcs => ?_, .inr ⟨g, 0, rfl, hB, fun i cs hi j v hv => ?_⟩⟩, ⟨rfl, [], ⟨rfl, .inl rfl⟩, fun i hi => absurd hi (Nat.not_lt_zero _)⟩, ⟨rfl, [], ⟨rfl, .inl rfl⟩, fun i hi => absurd hi (Nat.not_lt_zero _)⟩, ⟨rfl, [], hz, fun i hi => absurd hi (Nat.not_lt_zero _)⟩, Nat.le_refl _, Nat.le_refl _, Nat.le_refl _, Nat.le_refl _, show 1 ≤ 140737488355328 by decide, Nat.zero_le _, Nat.zero_le _, Nat.zero_le _⟩
  · obtain ⟨x, _, rfl⟩ := List.mem_map.1 hcs
    rfl
  · refine hc _ _ ?_
    match i, j with
    | 0, 0 | 0, 1 | 0, 2 => obtain rfl := Option.some.inj hi; exact hv
    | 0, j + 3 => obtain rfl := Option.some.inj hi; simp [Ins.cells] at hv
    | i + 1, _ => simp [p18] at hi
set_option maxHeartbeats 4000000 in
set_option maxRecDepth 100000 in
theorem awake18_any (w : World) (ht : TabOK w.heap.size w) : Calls Tryd.prog 7 #[] w (fun e w' => e = .returned (.bool true) ∧ Below w.heap.size w w') := by
  have HE := Lib.hid (fun W g (h : W.heap[g]? = some (.cells #[.int .u8 1, .int .i64 (-1), .int .i64 0] 33 (0, 0))) (hg : g < W.heap.size) => Encode_any (d18 g) p18 W W.heap.size (p18_at h hg) (Nat.le_refl _))
  have HLN := Lib.hid (fun W g (h : W.heap[g]? = some (.cells #[.int .u8 1, .int .i64 (-1), .int .i64 0] 33 (0, 0))) (hg : g < W.heap.size) (ht : TabOK W.heap.size W) => Lines_any (d18 g) p18 W W.heap.size (p18_at h hg).code (Nat.le_refl _) (fun i hi => by
    obtain rfl : i = ⟨1, -1, 0⟩ := by simpa [p18] using hi
    exact ⟨⟨by decide, by decide⟩, by decide, by decide⟩) (show 1 * 16 ≤ 140737488355328 by decide) ht)
  rw [p18_ck, p18_enc] at HE
  rw [p18_line] at HLN
  obtain ⟨hz2, hc2, hd2, hb2⟩ := two_new w (.cells #[.int .u8 1, .int .i64 (-1), .int .i64 0] 33) (.cells #[.slice (some ⟨w.heap.size, 0, none⟩) 1 1, .slice none 0 0, .slice none 0 0, .slice none 0 0, .int .i64 0, .int .i64 1, .int .i64 0, .int .i64 0] 30)
  go_enter Tryd.func7, Tryd.ntmps7
  go_wp2_with fail
  generalize (w.alloc (.cells #[.int .u8 1, .int .i64 (-1), .int .i64 0] 33)).alloc (.cells #[.slice (some ⟨w.heap.size, 0, none⟩) 1 1, .slice none 0 0, .slice none 0 0, .slice none 0 0, .int .i64 0, .int .i64 1, .int .i64 0, .int .i64 0] 30) = w2 at *
  have HB2 := Lib.hid hb2
  have HC2 := Lib.hid hc2
  have HD2 := Lib.hid hd2
  have HT0 := Lib.hid ht
  clear hb2 hc2 hd2 ht
  refine (HE.out w2 w.heap.size HC2.out (by omega)).mono ?_
  rintro e w3 ⟨hb3, hpost⟩
  rcases hpost with ⟨hne, _⟩ | ⟨_, A, n, c, rfl, hn, ho⟩
  · exact absurd rfl hne
  have HB3 := Lib.hid (HB2.out.trans (hb3.mono (by omega)))
  have HC3 := Lib.hid ((hb3.block w.heap.size (by omega)).trans HC2.out)
  have HD3 := Lib.hid ((hb3.block (w.heap.size + 1) (by omega)).trans HD2.out)
  have HO3 := Lib.hid ho
  have hs3 := hb3.size
  obtain rfl : 29 = n := hn
  clear hb3 ho HE
  have m0 : w3.cell? ⟨w.heap.size + 1, 0, none⟩ = some (.slice (some ⟨w.heap.size, 0, none⟩) 1 1) := by rw [blk_cell HD3.out]; rfl
  have m1 : w3.cell? ⟨w.heap.size + 1, 1, none⟩ = some (.slice none 0 0) := by rw [blk_cell HD3.out]; rfl
  have m2 : w3.cell? ⟨w.heap.size + 1, 2, none⟩ = some (.slice none 0 0) := by rw [blk_cell HD3.out]; rfl
  have m3 : w3.cell? ⟨w.heap.size + 1, 3, none⟩ = some (.slice none 0 0) := by rw [blk_cell HD3.out]; rfl
  have m4 : w3.cell? ⟨w.heap.size + 1, 4, none⟩ = some (.int .i64 0) := by rw [blk_cell HD3.out]; rfl
  have m5 : w3.cell? ⟨w.heap.size + 1, 5, none⟩ = some (.int .i64 1) := by rw [blk_cell HD3.out]; rfl
  have m6 : w3.cell? ⟨w.heap.size + 1, 6, none⟩ = some (.int .i64 0) := by rw [blk_cell HD3.out]; rfl
  have m7 : w3.cell? ⟨w.heap.size + 1, 7, none⟩ = some (.int .i64 0) := by rw [blk_cell HD3.out]; rfl
  go_wp2_with fail
  refine (HLN.out w3 w.heap.size HC3.out (by omega) ((HT0.out.on HB3.out (Nat.le_refl _)).more (by omega))).mono ?_
  rintro e w4 ⟨A4, c4, rfl, ho4, hb4⟩
  have HB4 := Lib.hid (HB3.out.trans (hb4.mono (by omega)))
  obtain ⟨g3, rfl, _, _⟩ := own_at18 HO3.out (by decide)
  obtain ⟨g4, rfl, _, _⟩ := own_at18 ho4 (show 0 < 1 by decide)
  have HO4 := Lib.hid (own_later HO3.out hb4)
  have x0 := HO4.out.cellAt 0 (by decide)
  have x5 := HO4.out.cellAt 5 (by decide)
  have x22 := HO4.out.cellAt 22 (by decide)
  have x26 := HO4.out.cellAt 26 (by decide)
  have y0 := ho4.cellAt 0 (show 0 < 1 * 1 by decide)
  clear m0 m1 m2 m3 m4 m5 m6 m7 hb4 ho4 HO3 HO4 HLN
  rw [show (d18 w.heap.size).n1 = 1 from rfl]
  simp only [b18, bv, List.map_cons, List.getElem?_cons_succ, List.getElem?_cons_zero] at x0 x5 x22 x26 y0
  go_wp2_with fail
  go_ret
  exact ⟨rfl, HB4.out⟩
end Go.Proofs.YtkmcjjoicpgjfaaDoor
/-
  Contracts of shallotref18.SameInts, SameStops, SameSpec at equal rows: true. Conditions: the sizes that slices can have.
-/
namespace Go.Proofs.YtkmcjjoicpgjfaaDoor
open Go Go.RowKit Go.Sh

/-- true is handed back; only draws -/
def OnlyTrue (w : World) (e : Ending) (w' : World) : Prop := e = .returned (.bool true) ∧ ∃ d, w' = w.drewN d
set_option maxHeartbeats 2000000 in
set_option maxRecDepth 100000 in
theorem SameInts_eq (A A' : Option Addr) (n c c' : Nat) (l : List Int) (w : World) (B B' : Nat) (hl : RI w B A n l) (hr : RI w B' A' n l) (hn : n ≤ 140737488355328) :
    Calls Tryd.prog 61 #[.slice A n c, .slice A' n c'] w (OnlyTrue w) := by
  have HL := Lib.hid hl
  have HR := Lib.hid hr
  clear hl hr
  have dnn : ((n : Int) != (n : Int)) = false := by simp
  go_enter Tryd.func61, Tryd.ntmps61
  go_wp2_with fail
  go_loopw [5] (fun i wr => ∃ k d : Nat, k ≤ n ∧ i = .int .i64 (k : Int) ∧ wr = w.drewN d) (fun i _ => n - (intOf i).toNat)
  case atStart => exact ⟨0, 0, by omega, rfl, rfl⟩
  case round =>
    obtain ⟨k, d, hk, rfl, rfl⟩ := hrel
    by_cases hlt : k < n
    · obtain ⟨ad, rfl, _, he, _⟩ := HL.out.at_ hlt
      obtain ⟨ad', rfl, _, he', _⟩ := HR.out.at_ hlt
      have hki : (k : Int) < (n : Int) := by omega
      generalize it l k = x at *
      have hxx : (x != x) = false := by simp
      go_wp2_with fail
      go_quiet (fail)
      go_wp2_with fail
      exact ⟨⟨k + 1, d + nq, by omega, by go_num, by first | rfl | simp⟩, by simp [intOf]; omega⟩
    · go_wp2_with fail
      go_ret
      exact ⟨rfl, d, rfl⟩
set_option maxHeartbeats 2000000 in
set_option maxRecDepth 100000 in
theorem SameStops_eq (A A' : Option Addr) (n c c' : Nat) (l : List Sp) (w : World) (B B' : Nat) (hl : RR w B 3 A n (l.map Sp.cells)) (hr : RR w B' 3 A' n (l.map Sp.cells)) (hn : n ≤ 140737488355328) :
    Calls Tryd.prog 36 #[.slice A n c, .slice A' n c'] w (OnlyTrue w) := by
  have HL := Lib.hid hl
  have HR := Lib.hid hr
  clear hl hr
  have dnn : ((n : Int) != (n : Int)) = false := by simp
  go_enter Tryd.func36, Tryd.ntmps36
  go_wp2_with fail
  go_loopw [5] (fun i wr => ∃ k d : Nat, k ≤ n ∧ i = .int .i64 (k : Int) ∧ wr = w.drewN d) (fun i _ => n - (intOf i).toNat)
  case atStart => exact ⟨0, 0, by omega, rfl, rfl⟩
  case round =>
    obtain ⟨k, d, hk, rfl, rfl⟩ := hrel
    by_cases hlt : k < n
    · obtain ⟨b, o, rfl, _, e0, e1, e2⟩ := stop_at HL.out hlt
      obtain ⟨b', o', rfl, _, f0, f1, f2⟩ := stop_at HR.out hlt
      have hki : (k : Int) < (n : Int) := by omega
      generalize sat l k = st at *
      obtain ⟨nm, dl, fl⟩ := st
      simp only at e0 e1 e2 f0 f1 f2
      go_wp2_with fail
      go_quiet (fail)
      go_wp2_with fail
      exact ⟨⟨k + 1, d + nq, by omega, by go_num, by first | rfl | simp⟩, by simp [intOf]; omega⟩
    · go_wp2_with fail
      go_ret
      exact ⟨rfl, d, rfl⟩
set_option maxHeartbeats 2000000 in
set_option maxRecDepth 100000 in
theorem SameSpec_eq (m b : Int) (A A' : Option Addr) (n c c' : Nat) (l : List Int) (w : World) (B B' : Nat) (hl : RI w B A n l) (hr : RI w B' A' n l) (hB : B ≤ w.heap.size) (hB' : B' ≤ w.heap.size) (hn : n ≤ 140737488355328) :
    Calls Tryd.prog 38 #[.agg #[.int .i64 m, .slice A n c, .int .i64 b], .agg #[.int .i64 m, .slice A' n c', .int .i64 b]] w (fun e w' => e = .returned (.bool true) ∧ Below w.heap.size w w') := by
  have HS := Lib.hid (fun W (h : RI W B A n l) (h' : RI W B' A' n l) => SameInts_eq A A' n c c' l W B B' h h' hn)
  have e1 : (m == m) = true := by simp
  have e2 : (b == b) = true := by simp
  obtain ⟨hz2, hc2, hd2, hb2⟩ := two_new w (.cells #[.int .i64 m, .slice A n c, .int .i64 b] 43) (.cells #[.int .i64 m, .slice A' n c', .int .i64 b] 43)
  have hz1 : (w.alloc (.cells #[.int .i64 m, .slice A n c, .int .i64 b] 43)).heap.size = w.heap.size + 1 := by simp
  have HB := Lib.hid hb2
  have HL := Lib.hid (hl.below (hb2.mono hB))
  have HR := Lib.hid (hr.below (hb2.mono hB'))
  clear hl hr hb2 hc2 hd2
  go_enter Tryd.func38, Tryd.ntmps38
  go_wp2_with fail
  refine (HS.out _ HL.out HR.out).mono ?_
  rintro e w1 ⟨rfl, dd, rfl⟩
  have HB2 := Lib.hid (below_drewN HB.out dd)
  go_wp2_with fail
  go_ret
  exact ⟨rfl, HB2.out⟩
end Go.Proofs.YtkmcjjoicpgjfaaDoor
/-
  Contract of shallotref18.Same at equal programs: true. Conditions: a program in memory twice.
-/
namespace Go.Proofs.YtkmcjjoicpgjfaaDoor
open Go Go.RowKit Go.Sh

theorem EqPost.quiet0 {P : Program} {f : FuncId} {args : Array Value} {w : World} {n : Nat} {b : Bool} (h : Calls P f args (w.drewN n) (EqPost (w.drewN n) b)) :
    Calls P f args (w.drewN n) fun e w'' => e = .returned (.bool b) ∧ ∃ m, w'' = w.drewN m := by
  refine h.mono fun e w'' hh => ?_
  obtain ⟨h1, k, rfl⟩ := hh
  exact ⟨h1, n + k, by rw [World.drewN_drewN]⟩
set_option maxHeartbeats 8000000 in
set_option maxRecDepth 100000 in
theorem Same_eq (d d' : Pad) (p : Prg) (w : World) (B B' : Nat) (hp : PR w B d p) (hp' : PR w B' d' p) (hB : B ≤ w.heap.size) (hB' : B' ≤ w.heap.size) (hs : ∀ l ∈ p.msgs, l.length ≤ 140737488355328) (hr : ∀ r ∈ p.rts, r.length ≤ 140737488355328) (hq : ∀ s ∈ p.snds, s.rts.length ≤ 140737488355328) :
    Calls Tryd.prog 13 #[.agg (pcs d p), .agg (pcs d' p)] w (fun e w' => e = .returned (.bool true) ∧ Below w.heap.size w w') := by
  have hn1 : d'.n1 = d.n1 := by have a := hp.code.len; have b := hp'.code.len; rw [List.length_map] at a b; omega
  have hn2 : d'.n2 = d.n2 := by have a := hp.msgs.len; have b := hp'.msgs.len; omega
  have hn3 : d'.n3 = d.n3 := by have a := hp.rts.len; have b := hp'.rts.len; omega
  have hn4 : d'.n4 = d.n4 := by have a := hp.snds.len; have b := hp'.snds.len; omega
  obtain ⟨A1, n1, c1, A2, n2, c2, A3, n3, c3, A4, n4, c4⟩ := d
  obtain ⟨A1', n1', c1', A2', n2', c2', A3', n3', c3', A4', n4', c4'⟩ := d'
  simp only at hn1 hn2 hn3 hn4
  subst hn1 hn2 hn3 hn4
  have b1 := hp.b1
  have b2 := hp.b2
  have b3 := hp.b3
  have b4 := hp.b4
  simp only at b1 b2 b3 b4
  simp only [pcs]
  have HL3 := Lib.hid hp.rts.len
  have HL4 := Lib.hid hp.snds.len
  obtain ⟨hz2, hc2, hd2, hb2⟩ := two_new w (.cells #[.slice A1 n1' c1, .slice A2 n2' c2, .slice A3 n3' c3, .slice A4 n4' c4, .int .i64 p.vars, .int .i64 p.stack, .int .i64 p.blocks, .int .i64 p.fuel] 30) (.cells #[.slice A1' n1' c1', .slice A2' n2' c2', .slice A3' n3' c3', .slice A4' n4' c4', .int .i64 p.vars, .int .i64 p.stack, .int .i64 p.blocks, .int .i64 p.fuel] 30)
  have hz1 : (w.alloc (.cells #[.slice A1 n1' c1, .slice A2 n2' c2, .slice A3 n3' c3, .slice A4 n4' c4, .int .i64 p.vars, .int .i64 p.stack, .int .i64 p.blocks, .int .i64 p.fuel] 30)).heap.size = w.heap.size + 1 := by simp
  have HB := Lib.hid hb2
  have HC := Lib.hid hc2
  have HD := Lib.hid hd2
  have HP := Lib.hid (hp.below (hb2.mono hB))
  have HP' := Lib.hid (hp'.below (hb2.mono hB'))
  have HEQ := Lib.hid (fun W (h : RBB W B A2 n2' p.msgs) (h' : RBB W B' A2' n2' p.msgs) => Equals_any A2 A2' n2' n2' c2 c2' p.msgs p.msgs W B B' h h' b2 hs)
  have d1 : ((n1' : Int) != (n1' : Int)) = false := by simp
  have d3 : ((n3' : Int) != (n3' : Int)) = false := by simp
  have d4 : ((n4' : Int) != (n4' : Int)) = false := by simp
  have q4 : (p.vars == p.vars) = true := by simp
  have q5 : (p.stack == p.stack) = true := by simp
  have q6 : (p.blocks == p.blocks) = true := by simp
  have q7 : (p.fuel == p.fuel) = true := by simp
  clear hp hp' hb2 hc2 hd2
  go_enter Tryd.func13, Tryd.ntmps13
  go_wp2_with fail
  generalize (w.alloc (.cells #[.slice A1 n1' c1, .slice A2 n2' c2, .slice A3 n3' c3, .slice A4 n4' c4, .int .i64 p.vars, .int .i64 p.stack, .int .i64 p.blocks, .int .i64 p.fuel] 30)).alloc (.cells #[.slice A1' n1' c1', .slice A2' n2' c2', .slice A3' n3' c3', .slice A4' n4' c4', .int .i64 p.vars, .int .i64 p.stack, .int .i64 p.blocks, .int .i64 p.fuel] 30) = w2 at *
  refine (HEQ.out w2 HP.out.msgs HP'.out.msgs).mono ?_
  rintro e w3 ⟨rfl, q3, rfl⟩
  rw [show decide True = true from rfl]
  have HC1 := HC.out
  have HD1 := HD.out
  have HB3 := Lib.hid (below_drewN (Below.refl (w.heap.size + 2) w2) q3)
  go_wp2_with fail
  go_loopw [5] (fun i wr => ∃ k : Nat, k ≤ n1' ∧ i = .int .i64 (k : Int) ∧ Below (w.heap.size + 2) w2 wr) (fun i _ => n1' - (intOf i).toNat)
  case atStart => exact ⟨0, by omega, rfl, HB3.out⟩
  case round =>
    obtain ⟨k, hk, rfl, hb⟩ := hrel
    have HBr := Lib.hid hb
    have x0 : wr.cell? ⟨w.heap.size, 0, none⟩ = some (.slice A1 n1' c1) := by rw [hb.cell (p := ⟨w.heap.size, 0, none⟩) (by show w.heap.size < _; omega), blk_cell HC1]; rfl
    have y0 : wr.cell? ⟨w.heap.size + 1, 0, none⟩ = some (.slice A1' n1' c1') := by rw [hb.cell (p := ⟨w.heap.size + 1, 0, none⟩) (by show w.heap.size + 1 < _; omega), blk_cell HD1]; rfl
    by_cases hlt : k < n1'
    · obtain ⟨b, o, rfl, _, e0, e1, e2⟩ := ins_at (HP.out.code.below (hb.mono (by omega))) hlt
      obtain ⟨b', o', rfl, _, f0, f1, f2⟩ := ins_at (HP'.out.code.below (hb.mono (by omega))) hlt
      have hki : (k : Int) < (n1' : Int) := by omega
      generalize iat p.code k = st at *
      obtain ⟨op, a, bb⟩ := st
      simp only at e0 e1 e2 f0 f1 f2
      clear hb
      go_wp2_with fail
      go_quiet (fail)
      have HBq := Lib.hid (below_drewN HBr.out nq)
      go_wp2_with fail
      exact ⟨⟨k + 1, by omega, by go_num, HBq.out⟩, by simp [intOf]; omega⟩
    · obtain rfl : k = n1' := by omega
      have HBr := Lib.hid hb
      clear hb
      go_wp2_with fail
      go_loopw [6] (fun i wr => ∃ j : Nat, j ≤ n3' ∧ i = .int .i64 (j : Int) ∧ Below (w.heap.size + 2) w2 wr) (fun i _ => n3' - (intOf i).toNat)
      case atStart => exact ⟨0, by omega, rfl, HBr.out⟩
      case round =>
        obtain ⟨k, hk, rfl, hb⟩ := hrel
        have HBr := Lib.hid hb
        have x0 : wr.cell? ⟨w.heap.size, 2, none⟩ = some (.slice A3 n3' c3) := by rw [hb.cell (p := ⟨w.heap.size, 2, none⟩) (by show w.heap.size < _; omega), blk_cell HC1]; rfl
        have y0 : wr.cell? ⟨w.heap.size + 1, 2, none⟩ = some (.slice A3' n3' c3') := by rw [hb.cell (p := ⟨w.heap.size + 1, 2, none⟩) (by show w.heap.size + 1 < _; omega), blk_cell HD1]; rfl
        by_cases hlt : k < n3'
        · obtain ⟨ad, Ai, ni, ci, rfl, _, e0, _, hrr⟩ := (HP.out.rts.below (hb.mono (by omega))).at_ hlt
          obtain ⟨ad', Aj, nj, cj, rfl, _, f0, _, hrr'⟩ := (HP'.out.rts.below (hb.mono (by omega))).at_ hlt
          have hki : (k : Int) < (n3' : Int) := by omega
          have hni : ni ≤ 140737488355328 := by
            have := hrr.len
            rw [List.length_map] at this
            rw [← this]
            exact hr _ (rat_mem (by rw [HL3.out]; exact hlt))
          obtain rfl : nj = ni := by have a := hrr.len; have b := hrr'.len; omega
          have HRR := Lib.hid hrr
          have HRR' := Lib.hid hrr'
          clear hb hrr hrr'
          generalize rat p.rts k = ss at *
          go_wp2_with fail
          go_quiet ((go_at_call 36; exact EqPost.quiet0 (SameStops_eq Ai Aj nj ci cj ss _ B B' (HRR.out.below (below_drewN (Below.refl B wr) _)) (HRR'.out.below (below_drewN (Below.refl B' wr) _)) hni)))
          have HBq := Lib.hid (below_drewN HBr.out nq)
          go_wp2_with fail
          exact ⟨⟨k + 1, by omega, by go_num, HBq.out⟩, by simp [intOf]; omega⟩
        · obtain rfl : k = n3' := by omega
          clear hb
          go_wp2_with fail
          go_loopw [7] (fun i wr => ∃ j : Nat, j ≤ n4' ∧ i = .int .i64 (j : Int) ∧ Below (w.heap.size + 2) w2 wr) (fun i _ => n4' - (intOf i).toNat)
          case atStart => exact ⟨0, by omega, rfl, HBr.out⟩
          case round =>
            obtain ⟨k, hk, rfl, hb⟩ := hrel
            have HBr := Lib.hid hb
            have hsz := hb.size
            have x0 : wr.cell? ⟨w.heap.size, 3, none⟩ = some (.slice A4 n4' c4) := by rw [hb.cell (p := ⟨w.heap.size, 3, none⟩) (by show w.heap.size < _; omega), blk_cell HC1]; rfl
            have y0 : wr.cell? ⟨w.heap.size + 1, 3, none⟩ = some (.slice A4' n4' c4') := by rw [hb.cell (p := ⟨w.heap.size + 1, 3, none⟩) (by show w.heap.size + 1 < _; omega), blk_cell HD1]; rfl
            by_cases hlt : k < n4'
            · obtain ⟨b, o, Ai, ni, ci, rfl, hbb, e0, e1, e2, _, hrr⟩ := (HP.out.snds.below (hb.mono (by omega))).at_ hlt
              obtain ⟨b', o', Aj, nj, cj, rfl, hbb', f0, f1, f2, _, hrr'⟩ := (HP'.out.snds.below (hb.mono (by omega))).at_ hlt
              have hki : (k : Int) < (n4' : Int) := by omega
              obtain rfl : nj = ni := by have a := hrr.len; have b := hrr'.len; omega
              have hni : nj ≤ 140737488355328 := by
                have := hrr.len
                rw [← this]
                exact hq _ (dat_mem (by rw [HL4.out]; exact hlt))
              generalize dat p.snds k = sd at *
              obtain ⟨m, rts, bb⟩ := sd
              simp only at e0 e1 e2 f0 f1 f2 hrr hrr'
              have HSP := Lib.hid (SameSpec_eq m bb Ai Aj nj ci cj rts wr.drew B B' (hrr.below (below_drewN (Below.refl B wr) 1)) (hrr'.below (below_drewN (Below.refl B' wr) 1)) (by show B ≤ wr.heap.size; omega) (by show B' ≤ wr.heap.size; omega) hni)
              have HK := Lib.hid (show ∀ W' : World, Below wr.heap.size wr.drew W' → W'.cell? ⟨w.heap.size, 3, none⟩ = some (.slice (some ⟨b, o, none⟩) n4' c4) ∧ W'.cell? ⟨w.heap.size + 1, 3, none⟩ = some (.slice (some ⟨b', o', none⟩) n4' c4') ∧ W'.cell? ⟨b, o + k * 3, none⟩ = some (.int .i64 m) ∧ W'.cell? ⟨b, o + k * 3 + 1, none⟩ = some (.slice Ai nj ci) ∧ W'.cell? ⟨b, o + k * 3 + 2, none⟩ = some (.int .i64 bb) ∧ W'.cell? ⟨b', o' + k * 3, none⟩ = some (.int .i64 m) ∧ W'.cell? ⟨b', o' + k * 3 + 1, none⟩ = some (.slice Aj nj cj) ∧ W'.cell? ⟨b', o' + k * 3 + 2, none⟩ = some (.int .i64 bb) from fun W' h => ⟨(h.cell (p := ⟨w.heap.size, 3, none⟩) (by show w.heap.size < _; omega)).trans x0, (h.cell (p := ⟨w.heap.size + 1, 3, none⟩) (by show w.heap.size + 1 < _; omega)).trans y0, (h.cell (p := ⟨b, o + k * 3, none⟩) (by show b < _; omega)).trans e0, (h.cell (p := ⟨b, o + k * 3 + 1, none⟩) (by show b < _; omega)).trans e1, (h.cell (p := ⟨b, o + k * 3 + 2, none⟩) (by show b < _; omega)).trans e2, (h.cell (p := ⟨b', o' + k * 3, none⟩) (by show b' < _; omega)).trans f0, (h.cell (p := ⟨b', o' + k * 3 + 1, none⟩) (by show b' < _; omega)).trans f1, (h.cell (p := ⟨b', o' + k * 3 + 2, none⟩) (by show b' < _; omega)).trans f2⟩)
              clear hb hrr hrr'
              go_wp2_with fail
              go_region_held3 (fun W' => W'.cell? ⟨w.heap.size, 3, none⟩ = some (.slice (some ⟨b, o, none⟩) n4' c4) ∧ W'.cell? ⟨w.heap.size + 1, 3, none⟩ = some (.slice (some ⟨b', o', none⟩) n4' c4') ∧ W'.cell? ⟨b, o + k * 3, none⟩ = some (.int .i64 m) ∧ W'.cell? ⟨b, o + k * 3 + 1, none⟩ = some (.slice Ai nj ci) ∧ W'.cell? ⟨b, o + k * 3 + 2, none⟩ = some (.int .i64 bb) ∧ W'.cell? ⟨b', o' + k * 3, none⟩ = some (.int .i64 m) ∧ W'.cell? ⟨b', o' + k * 3 + 1, none⟩ = some (.slice Aj nj cj) ∧ W'.cell? ⟨b', o' + k * 3 + 2, none⟩ = some (.int .i64 bb)) (go_keep) ((go_at_call 38; refine HSP.out.mono ?_; rintro e w5 ⟨rfl, hb5⟩; obtain ⟨t0, t1, t2, t3, t4, t5, t6, t7⟩ := HK.out w5 hb5))
              have HB6 := Lib.hid (HBr.out.trans ((below_drewN (Below.refl (w.heap.size + 2) wr) 1).trans (Below.mono hb5 (show w.heap.size + 2 ≤ wr.heap.size by omega))))
              clear t0 t1 t2 t3 t4 t5 t6 t7 hb5
              go_wp2_with fail
              exact ⟨⟨k + 1, by omega, by go_num, HB6.out⟩, by simp [intOf]; omega⟩
            · obtain rfl : k = n4' := by omega
              have x4 : wr.cell? ⟨w.heap.size, 4, none⟩ = some (.int .i64 p.vars) := by rw [hb.cell (p := ⟨w.heap.size, 4, none⟩) (by show w.heap.size < _; omega), blk_cell HC1]; rfl
              have x5 : wr.cell? ⟨w.heap.size, 5, none⟩ = some (.int .i64 p.stack) := by rw [hb.cell (p := ⟨w.heap.size, 5, none⟩) (by show w.heap.size < _; omega), blk_cell HC1]; rfl
              have x6 : wr.cell? ⟨w.heap.size, 6, none⟩ = some (.int .i64 p.blocks) := by rw [hb.cell (p := ⟨w.heap.size, 6, none⟩) (by show w.heap.size < _; omega), blk_cell HC1]; rfl
              have x7 : wr.cell? ⟨w.heap.size, 7, none⟩ = some (.int .i64 p.fuel) := by rw [hb.cell (p := ⟨w.heap.size, 7, none⟩) (by show w.heap.size < _; omega), blk_cell HC1]; rfl
              have y4 : wr.cell? ⟨w.heap.size + 1, 4, none⟩ = some (.int .i64 p.vars) := by rw [hb.cell (p := ⟨w.heap.size + 1, 4, none⟩) (by show w.heap.size + 1 < _; omega), blk_cell HD1]; rfl
              have y5 : wr.cell? ⟨w.heap.size + 1, 5, none⟩ = some (.int .i64 p.stack) := by rw [hb.cell (p := ⟨w.heap.size + 1, 5, none⟩) (by show w.heap.size + 1 < _; omega), blk_cell HD1]; rfl
              have y6 : wr.cell? ⟨w.heap.size + 1, 6, none⟩ = some (.int .i64 p.blocks) := by rw [hb.cell (p := ⟨w.heap.size + 1, 6, none⟩) (by show w.heap.size + 1 < _; omega), blk_cell HD1]; rfl
              have y7 : wr.cell? ⟨w.heap.size + 1, 7, none⟩ = some (.int .i64 p.fuel) := by rw [hb.cell (p := ⟨w.heap.size + 1, 7, none⟩) (by show w.heap.size + 1 < _; omega), blk_cell HD1]; rfl
              clear hb
              go_wp2_with fail
              go_ret
              exact ⟨rfl, HB.out.trans (HBr.out.mono (by omega))⟩
end Go.Proofs.YtkmcjjoicpgjfaaDoor
/-
  The walk of shallotlaw18.CodeDecodes: it returns true. Conditions: the sizes that slices can have, and the table that strconv.Itoa reads.
-/
namespace Go.Proofs.YtkmcjjoicpgjfaaDoor
open Go Go.RowKit Go.Sh

set_option maxHeartbeats 8000000 in
set_option maxRecDepth 100000 in
theorem CodeDecodes_walk (A : Option Addr) (n c : Nat) (l : List UInt8) (w : World) (hr : RB w w.heap.size A n l) (hn : n ≤ 140737488355328) (hc : n ≤ c) (ht : TabOK w.heap.size w) :
    Calls Tryd.prog 5 #[.slice A n c] w (fun e w' => e = .returned (.bool true) ∧ Below w.heap.size w w') := by
  have HR := Lib.hid hr
  have HT := Lib.hid ht
  have HAW := Lib.hid (fun W h => awake18_any W h)
  have HL := Lib.hid hr.len
  have HSM := Lib.hid (dcP_small l)
  have HEN := Lib.hid (fun (p : Prg) (h : dcP l = (p, 0)) => dec_enc h)
  clear hr ht
  go_enter Tryd.func5, Tryd.ntmps5
  go_wp2_with fail
  refine (HAW.out w HT.out).mono ?_
  rintro e w1 ⟨rfl, hb1⟩
  have HB1 := Lib.hid hb1
  have hs1 := hb1.size
  clear hb1 HAW HT
  go_wp2_with fail
  refine (Copy_any A n c l w1 w.heap.size (HR.out.below HB1.out) hs1 hn).mono ?_
  rintro e w2 ⟨g2, c2, rfl, ho2, hb2⟩
  have HRB2 := Lib.hid (RB.of_own ho2)
  have hcap2 := own_cap ho2
  have HB2 := Lib.hid (HB1.out.trans (hb2.mono hs1))
  have hs2 := HB2.out.size
  clear ho2 hb2
  have HDE := Lib.hid (Decode_any (some ⟨g2, 0, none⟩) n c2 l w2 w2.heap.size HRB2.out (Nat.le_refl _) hn hcap2)
  have HRD := Lib.hid (fun (W : World) (h : RB W w.heap.size A n l) (hB : w.heap.size ≤ W.heap.size) => RfDecode_any A n c l W w.heap.size h hB hn hc)
  obtain ⟨p, er, hD⟩ : ∃ p er, dcP l = (p, er) := ⟨_, _, rfl⟩
  have HD := Lib.hid hD
  rw [hD] at HDE HSM
  have HRE := Lib.hid (fun (W : World) (h : RB W w.heap.size A n l) (hB : w.heap.size ≤ W.heap.size) => (by have := HRD.out W h hB; rw [hD] at this; exact this : Calls Tryd.prog 16 #[.slice A n c] W (decPost W (p, er))))
  clear hD HRD
  go_wp2_with fail
  refine HDE.out.mono ?_
  rintro e w3 ⟨d, vm, rfl, hpo, hb3⟩
  obtain ⟨A1, n1, c1, A2, n2, k2, A3, n3, c3, A4, n4, c4⟩ := d
  have HPO3 := Lib.hid hpo
  have HB3 := Lib.hid (HB2.out.trans (hb3.mono hs2))
  have hs3 := HB3.out.size
  clear hpo hb3 HDE
  have hag : pcs ⟨A1, n1, c1, A2, n2, k2, A3, n3, c3, A4, n4, c4⟩ p = #[.slice A1 n1 c1, .slice A2 n2 k2, .slice A3 n3 c3, .slice A4 n4 c4, .int .i64 p.vars, .int .i64 p.stack, .int .i64 p.blocks, .int .i64 p.fuel] := rfl
  rw [hag]
  have HAG := Lib.hid hag
  have hba := (Below.refl w3.heap.size w3).alloc (Nat.le_refl _) (.cells #[.slice A1 n1 c1, .slice A2 n2 k2, .slice A3 n3 c3, .slice A4 n4 c4, .int .i64 p.vars, .int .i64 p.stack, .int .i64 p.blocks, .int .i64 p.fuel] 30)
  have HP4 := Lib.hid (heap_alloc_new w3 (.cells #[.slice A1 n1 c1, .slice A2 n2 k2, .slice A3 n3 c3, .slice A4 n4 c4, .int .i64 p.vars, .int .i64 p.stack, .int .i64 p.blocks, .int .i64 p.fuel] 30))
  have HO4 := Lib.hid (HPO3.out.later hba)
  have HB4 := Lib.hid (HB3.out.trans (hba.mono hs3))
  have hz4 : (w3.alloc (.cells #[.slice A1 n1 c1, .slice A2 n2 k2, .slice A3 n3 c3, .slice A4 n4 c4, .int .i64 p.vars, .int .i64 p.stack, .int .i64 p.blocks, .int .i64 p.fuel] 30)).heap.size = w3.heap.size + 1 := by simp
  have HRE4 := Lib.hid (HRE.out (w3.alloc (.cells #[.slice A1 n1 c1, .slice A2 n2 k2, .slice A3 n3 c3, .slice A4 n4 c4, .int .i64 p.vars, .int .i64 p.stack, .int .i64 p.blocks, .int .i64 p.fuel] 30)) (HR.out.below HB4.out) (by omega))
  clear hag hba HPO3 HB3 HRE
  go_wp2_with fail
  generalize w3.alloc (.cells #[.slice A1 n1 c1, .slice A2 n2 k2, .slice A3 n3 c3, .slice A4 n4 c4, .int .i64 p.vars, .int .i64 p.stack, .int .i64 p.blocks, .int .i64 p.fuel] 30) = w4 at *
  obtain ⟨g3, hg3⟩ : ∃ g3, w3.heap.size = g3 := ⟨_, rfl⟩
  rw [hg3] at HP4 hz4 hs3 ⊢
  clear hg3
  refine HRE4.out.mono ?_
  rintro e w5 ⟨d', vm', rfl, hpo', hb5⟩
  obtain ⟨B1, m1, e1, B2, m2, e2, B3, m3, e3, B4, m4, e4⟩ := d'
  have hag' : pcs ⟨B1, m1, e1, B2, m2, e2, B3, m3, e3, B4, m4, e4⟩ p = #[.slice B1 m1 e1, .slice B2 m2 e2, .slice B3 m3 e3, .slice B4 m4 e4, .int .i64 p.vars, .int .i64 p.stack, .int .i64 p.blocks, .int .i64 p.fuel] := rfl
  have HB5 := Lib.hid (HB4.out.trans (hb5.mono (by omega)))
  have hP5 := (hb5.block g3 (by omega)).trans HP4.out
  have hO5 := HO4.out.later hb5
  have hz5 := hb5.size
  have hba := (Below.refl w5.heap.size w5).alloc (Nat.le_refl _) (.cells #[.slice B1 m1 e1, .slice B2 m2 e2, .slice B3 m3 e3, .slice B4 m4 e4, .int .i64 p.vars, .int .i64 p.stack, .int .i64 p.blocks, .int .i64 p.fuel] 30)
  have HP6 := Lib.hid ((hba.block g3 (by omega)).trans hP5)
  have HQ6 := Lib.hid (heap_alloc_new w5 (.cells #[.slice B1 m1 e1, .slice B2 m2 e2, .slice B3 m3 e3, .slice B4 m4 e4, .int .i64 p.vars, .int .i64 p.stack, .int .i64 p.blocks, .int .i64 p.fuel] 30))
  have HO6 := Lib.hid (hO5.later hba)
  have HU6 := Lib.hid (hpo'.later hba)
  have HB6 := Lib.hid (HB5.out.trans (hba.mono (by have := HB5.out.size; omega)))
  have hz6 : (w5.alloc (.cells #[.slice B1 m1 e1, .slice B2 m2 e2, .slice B3 m3 e3, .slice B4 m4 e4, .int .i64 p.vars, .int .i64 p.stack, .int .i64 p.blocks, .int .i64 p.fuel] 30)).heap.size = w5.heap.size + 1 := by simp
  have hsame := Same_eq ⟨A1, n1, c1, A2, n2, k2, A3, n3, c3, A4, n4, c4⟩ ⟨B1, m1, e1, B2, m2, e2, B3, m3, e3, B4, m4, e4⟩ p _ _ _ HO6.out.pr HU6.out.pr (Nat.le_refl _) (Nat.le_refl _) (fun x h => by have := HSM.out.1 x h; omega) (fun x h => by have := HSM.out.2.1 x h; omega) (fun x h => by have := HSM.out.2.2 x h; omega)
  rw [HAG.out, hag'] at hsame
  have HSA := Lib.hid hsame
  rw [show (p, er).1 = p from rfl, show (p, er).2 = er from rfl, hag']
  clear hag' hba hb5 hP5 hO5 hpo' hsame HP4 HO4 HB4 HRE4 HB5
  have a0 : (w5.alloc (.cells #[.slice B1 m1 e1, .slice B2 m2 e2, .slice B3 m3 e3, .slice B4 m4 e4, .int .i64 p.vars, .int .i64 p.stack, .int .i64 p.blocks, .int .i64 p.fuel] 30)).cell? ⟨g3, 0, none⟩ = some (.slice A1 n1 c1) := by rw [blk_cell HP6.out]; rfl
  have a1 : (w5.alloc (.cells #[.slice B1 m1 e1, .slice B2 m2 e2, .slice B3 m3 e3, .slice B4 m4 e4, .int .i64 p.vars, .int .i64 p.stack, .int .i64 p.blocks, .int .i64 p.fuel] 30)).cell? ⟨g3, 1, none⟩ = some (.slice A2 n2 k2) := by rw [blk_cell HP6.out]; rfl
  have a2 : (w5.alloc (.cells #[.slice B1 m1 e1, .slice B2 m2 e2, .slice B3 m3 e3, .slice B4 m4 e4, .int .i64 p.vars, .int .i64 p.stack, .int .i64 p.blocks, .int .i64 p.fuel] 30)).cell? ⟨g3, 2, none⟩ = some (.slice A3 n3 c3) := by rw [blk_cell HP6.out]; rfl
  have a3 : (w5.alloc (.cells #[.slice B1 m1 e1, .slice B2 m2 e2, .slice B3 m3 e3, .slice B4 m4 e4, .int .i64 p.vars, .int .i64 p.stack, .int .i64 p.blocks, .int .i64 p.fuel] 30)).cell? ⟨g3, 3, none⟩ = some (.slice A4 n4 c4) := by rw [blk_cell HP6.out]; rfl
  have a4 : (w5.alloc (.cells #[.slice B1 m1 e1, .slice B2 m2 e2, .slice B3 m3 e3, .slice B4 m4 e4, .int .i64 p.vars, .int .i64 p.stack, .int .i64 p.blocks, .int .i64 p.fuel] 30)).cell? ⟨g3, 4, none⟩ = some (.int .i64 p.vars) := by rw [blk_cell HP6.out]; rfl
  have a5 : (w5.alloc (.cells #[.slice B1 m1 e1, .slice B2 m2 e2, .slice B3 m3 e3, .slice B4 m4 e4, .int .i64 p.vars, .int .i64 p.stack, .int .i64 p.blocks, .int .i64 p.fuel] 30)).cell? ⟨g3, 5, none⟩ = some (.int .i64 p.stack) := by rw [blk_cell HP6.out]; rfl
  have a6 : (w5.alloc (.cells #[.slice B1 m1 e1, .slice B2 m2 e2, .slice B3 m3 e3, .slice B4 m4 e4, .int .i64 p.vars, .int .i64 p.stack, .int .i64 p.blocks, .int .i64 p.fuel] 30)).cell? ⟨g3, 6, none⟩ = some (.int .i64 p.blocks) := by rw [blk_cell HP6.out]; rfl
  have a7 : (w5.alloc (.cells #[.slice B1 m1 e1, .slice B2 m2 e2, .slice B3 m3 e3, .slice B4 m4 e4, .int .i64 p.vars, .int .i64 p.stack, .int .i64 p.blocks, .int .i64 p.fuel] 30)).cell? ⟨g3, 7, none⟩ = some (.int .i64 p.fuel) := by rw [blk_cell HP6.out]; rfl
  have b0 : (w5.alloc (.cells #[.slice B1 m1 e1, .slice B2 m2 e2, .slice B3 m3 e3, .slice B4 m4 e4, .int .i64 p.vars, .int .i64 p.stack, .int .i64 p.blocks, .int .i64 p.fuel] 30)).cell? ⟨w5.heap.size, 0, none⟩ = some (.slice B1 m1 e1) := by rw [blk_cell HQ6.out]; rfl
  have b1 : (w5.alloc (.cells #[.slice B1 m1 e1, .slice B2 m2 e2, .slice B3 m3 e3, .slice B4 m4 e4, .int .i64 p.vars, .int .i64 p.stack, .int .i64 p.blocks, .int .i64 p.fuel] 30)).cell? ⟨w5.heap.size, 1, none⟩ = some (.slice B2 m2 e2) := by rw [blk_cell HQ6.out]; rfl
  have b2 : (w5.alloc (.cells #[.slice B1 m1 e1, .slice B2 m2 e2, .slice B3 m3 e3, .slice B4 m4 e4, .int .i64 p.vars, .int .i64 p.stack, .int .i64 p.blocks, .int .i64 p.fuel] 30)).cell? ⟨w5.heap.size, 2, none⟩ = some (.slice B3 m3 e3) := by rw [blk_cell HQ6.out]; rfl
  have b3 : (w5.alloc (.cells #[.slice B1 m1 e1, .slice B2 m2 e2, .slice B3 m3 e3, .slice B4 m4 e4, .int .i64 p.vars, .int .i64 p.stack, .int .i64 p.blocks, .int .i64 p.fuel] 30)).cell? ⟨w5.heap.size, 3, none⟩ = some (.slice B4 m4 e4) := by rw [blk_cell HQ6.out]; rfl
  have b4 : (w5.alloc (.cells #[.slice B1 m1 e1, .slice B2 m2 e2, .slice B3 m3 e3, .slice B4 m4 e4, .int .i64 p.vars, .int .i64 p.stack, .int .i64 p.blocks, .int .i64 p.fuel] 30)).cell? ⟨w5.heap.size, 4, none⟩ = some (.int .i64 p.vars) := by rw [blk_cell HQ6.out]; rfl
  have b5 : (w5.alloc (.cells #[.slice B1 m1 e1, .slice B2 m2 e2, .slice B3 m3 e3, .slice B4 m4 e4, .int .i64 p.vars, .int .i64 p.stack, .int .i64 p.blocks, .int .i64 p.fuel] 30)).cell? ⟨w5.heap.size, 5, none⟩ = some (.int .i64 p.stack) := by rw [blk_cell HQ6.out]; rfl
  have b6 : (w5.alloc (.cells #[.slice B1 m1 e1, .slice B2 m2 e2, .slice B3 m3 e3, .slice B4 m4 e4, .int .i64 p.vars, .int .i64 p.stack, .int .i64 p.blocks, .int .i64 p.fuel] 30)).cell? ⟨w5.heap.size, 6, none⟩ = some (.int .i64 p.blocks) := by rw [blk_cell HQ6.out]; rfl
  have b7 : (w5.alloc (.cells #[.slice B1 m1 e1, .slice B2 m2 e2, .slice B3 m3 e3, .slice B4 m4 e4, .int .i64 p.vars, .int .i64 p.stack, .int .i64 p.blocks, .int .i64 p.fuel] 30)).cell? ⟨w5.heap.size, 7, none⟩ = some (.int .i64 p.fuel) := by rw [blk_cell HQ6.out]; rfl
  have hee : (er != er) = false := by simp
  go_wp2_with fail
  refine HSA.out.mono ?_
  rintro e w7 ⟨rfl, hb7⟩
  have HB7 := Lib.hid (HB6.out.trans (hb7.mono (by have := HB6.out.size; omega)))
  have hP7 := (hb7.block g3 (by omega)).trans HP6.out
  have HO7 := Lib.hid (HO6.out.later hb7)
  have hz7 := hb7.size
  clear hb7 HSA HB6 HO6 HU6 HQ6 HP6 a0 a1 a2 a3 a4 a5 a6 a7 b0 b1 b2 b3 b4 b5 b6 b7 hee
  have a0 : (w7).cell? ⟨g3, 0, none⟩ = some (.slice A1 n1 c1) := by rw [blk_cell hP7]; rfl
  have a1 : (w7).cell? ⟨g3, 1, none⟩ = some (.slice A2 n2 k2) := by rw [blk_cell hP7]; rfl
  have a2 : (w7).cell? ⟨g3, 2, none⟩ = some (.slice A3 n3 c3) := by rw [blk_cell hP7]; rfl
  have a3 : (w7).cell? ⟨g3, 3, none⟩ = some (.slice A4 n4 c4) := by rw [blk_cell hP7]; rfl
  have a4 : (w7).cell? ⟨g3, 4, none⟩ = some (.int .i64 p.vars) := by rw [blk_cell hP7]; rfl
  have a5 : (w7).cell? ⟨g3, 5, none⟩ = some (.int .i64 p.stack) := by rw [blk_cell hP7]; rfl
  have a6 : (w7).cell? ⟨g3, 6, none⟩ = some (.int .i64 p.blocks) := by rw [blk_cell hP7]; rfl
  have a7 : (w7).cell? ⟨g3, 7, none⟩ = some (.int .i64 p.fuel) := by rw [blk_cell hP7]; rfl
  clear hP7
  by_cases he : er = 0
  · subst he
    obtain ⟨hck, hen⟩ := HEN.out p HD.out
    have henc := Encode_any ⟨A1, n1, c1, A2, n2, k2, A3, n3, c3, A4, n4, c4⟩ p w7 _ HO7.out.pr (Nat.le_refl _)
    rw [HAG.out, hck, hen] at henc
    have HEC := Lib.hid henc
    clear henc hck hen
    go_wp2_with fail
    refine HEC.out.mono ?_
    rintro e w8 ⟨hb8, ⟨h, _⟩ | ⟨_, A8, n8, c8, rfl, hl8, ho8⟩⟩
    · exact absurd rfl h
    · have HB8 := Lib.hid (HB7.out.trans (hb8.mono (by have := HB7.out.size; omega)))
      have HR8 := Lib.hid (RB.of_own ho8)
      have hln := HL.out
      clear hb8 ho8 HEC
      go_wp2_with fail
      refine (Equal_any A8 A n8 n c8 c l l w8 _ _ HR8.out (HR.out.below HB8.out) (by omega)).mono ?_
      rintro e w9 ⟨rfl, kd, rfl⟩
      have HB9 := Lib.hid (below_drewN HB8.out kd)
      go_wp2_with fail
      go_ret
      exact ⟨by simp, HB9.out⟩
  · have heb : (er != 0) = true := by rw [bne_iff_ne]; exact he
    clear he
    go_wp2_with fail
    go_ret
    exact ⟨rfl, HB7.out⟩
end Go.Proofs.YtkmcjjoicpgjfaaDoor
namespace Go.Proofs.YtkmcjjoicpgjfaaDoor.codeDecodes
open Go Go.Sh Go.ChangeShapes Go.WideShapes Go.ChangeAt Go.RowKit
open Go.ChangeMaps (open_string shut_string)

set_option maxRecDepth 100000 in
theorem own : ownKnob Tryd.prog.godebug = none := by kernel_rfl
set_option maxRecDepth 100000 in
theorem laidOut : laidOutB Tryd.prog = true := by kernel_rfl
set_option maxRecDepth 100000 in
theorem gTab : Tryd.prog.globalNamed "internal/strconv.uint64pow10" = some 0 := by kernel_rfl
set_option maxRecDepth 100000 in
theorem gTabType : (Tryd.prog.globals[0]?).map (·.type) = some 141 := by kernel_rfl
set_option maxRecDepth 100000 in
theorem cellsTab : Tryd.prog.cellsOf 141 = 20 := by kernel_rfl
set_option maxRecDepth 100000 in
theorem cellsU64 : Tryd.prog.cellsOf 113 = 1 := by kernel_rfl
/-- what the row's list gives: the table of powers of ten -/
theorem table {W : World} (h : laidMetH Tryd.prog Rows.codeDecodesRow.laid W) : TabOK W.heap.size W :=
  Lib.tabBelow_of_tabIs (Lib.tabIs_of_head (rest := []) gTab gTabType Tryd.underlying141 Tryd.underlying113 cellsU64 cellsTab (laidMet.tail (laidMet.tail h)))
set_option maxRecDepth 100000 in
/-- what the walk gives, for every argument and every world that holds the tables -/
theorem contract (H : Type) (enc : TypeId × Value → H) (W : World) (base : Nat) (args : Array Value) (ds gs : List (DataW H)) (before : List MemPlace)
    (hval0 : ∀ (j : Nat) t v, Tryd.f5.params[j]? = some t → args[j]? = some v → Value.okWide Tryd.prog W .any base t v)
    (hW : DataW.Whole enc Tryd.prog Tryd.f5.params.toList Rows.codeDecodesSpec.vars false W args.toList ds gs before)
    (hsz0 : (DataW.weightsEach Tryd.prog (Tryd.f5.params.toList ++ Rows.codeDecodesSpec.plain.varTypes Tryd.prog) (ds ++ gs)).all (· ≤ reachBytes) = true) (hL : laidMetH Tryd.prog Rows.codeDecodesRow.laid W) :
    Calls Tryd.prog 5 args W fun e W' => ∃ v, e = .returned v ∧ Rows.codeDecodesSpec.post enc Tryd.prog Tryd.f5 false true false false W args v W' := by
  have hval : ∀ (j : Nat) t v, Tryd.f5.params[j]? = some t → args[j]? = some v → Value.okWide Tryd.prog W .any base t v := hval0
  have hsz : (DataW.weightsEach Tryd.prog (Tryd.f5.params.toList ++ Rows.codeDecodesSpec.plain.varTypes Tryd.prog) (ds ++ gs)).all (· ≤ reachBytes) = true := hsz0
  have hW' := hW
  obtain ⟨p, q, hA0, hV, rfl, hfz, hnd⟩ := hW
  have hA : DataW.TrodAll enc Tryd.prog W 0 (fun _ => true) true Tryd.f5.params.toList args.toList ds p := hA0
  rw [Tryd.params5] at hA hval hsz
  obtain ⟨v0, vs0, d0, ds0, p0, q0, hargs, rfl, rfl, h0, r0⟩ := trodAll_cons hA
  obtain ⟨rfl, rfl, rfl⟩ := trodAll_nil r0
  obtain rfl : args = #[v0] := by cases args; simp_all
  obtain ⟨rfl, rfl⟩ := trodVars_none hV
  have k0 := h0
  have lt0 : ∀ x ∈ p0, x.block < W.heap.size := by obtain ⟨m, hm⟩ := k0; exact DataW.trod_lt m _ _ _ hm
  obtain ⟨A0, n0, c0, l0, rfl, rb0, nc0, hl0⟩ := openB Tryd.underlying39 Tryd.underlying5 (by kernel_rfl) (hval 0 39 v0 rfl rfl) h0
  have bd0 : n0 ≤ 140737488351232 := sizedLen hsz (j := 0) (t := 39) rfl rfl Tryd.underlying39 (show 1 ≤ Tryd.prog.bytesOf 5 by rw [show Tryd.prog.bytesOf 5 = 1 by kernel_rfl]; exact Nat.le_refl 1) hl0
  clear hA0 hval0
  refine (CodeDecodes_walk A0 n0 c0 l0 W rb0 (by omega) nc0 (table hL)).mono fun e W' ⟨he, bel⟩ => ?_
  subst he
  exact ⟨_, rfl, _, _, _, [], _, [], hW', trodAll_mk1 (shut_bool Tryd.underlying4 _), (trodAll_cons_mk (Below.trod laidOut (by kernel_rfl) (of_decide_eq_true (by kernel_rfl)) k0 bel lt0) trodAll_mk0), rfl, bel.frame _, fun h => by cases h⟩
set_option maxRecDepth 100000 in
/-- a world for the witness: the tables as the program's own text lays them -/
theorem laid_met (os : Os) : laidMet Tryd.prog Rows.codeDecodesRow.laid ((World.doorLaid Tryd.prog 24 os).forCall (fun _ _ => 0) ⟨#[], #[.slice none 0 0], []⟩).memory :=
  laidMet_of_run' 8 (by kernel_rfl) (by kernel_rfl)
set_option maxRecDepth 100000 in
theorem reads (os : Os) {H : Type} (enc : TypeId × Value → H) : ∃ places, DataW.whole enc Tryd.prog ((World.doorLaid Tryd.prog 24 os).forCall (fun _ _ => 0) ⟨#[], #[.slice none 0 0], []⟩).memory Tryd.f5.params.toList Rows.codeDecodesSpec.vars false #[Value.slice none 0 0].toList 8 = some ([.nil], [], places) :=
  ⟨[], by kernel_rfl⟩
set_option maxRecDepth 100000 in
theorem lifted (os : Os) (started : os.Started) (H : Type) (enc : TypeId × Value → H) (F : Stop.Interp) :
    ReturnsInHanded {} Tryd.checked os 5 .any ((OpenSpec.ofChange Rows.codeDecodesSpec).preRow enc Tryd.prog Tryd.f5 Rows.codeDecodesRow.domain false Rows.codeDecodesRow.laid) (((OpenSpec.ofChange Rows.codeDecodesSpec).at F).post enc Tryd.prog Tryd.f5 false true false false) := by
  obtain ⟨places, hx⟩ := reads os enc
  refine returnsInHanded_of_row (C := Tryd.checked) (s := OpenSpec.ofChange Rows.codeDecodesSpec) own started (by kernel_rfl) Tryd.func5
    (witness_row_at (enc := enc) (C := Tryd.checked) false (World.doorLaid Tryd.prog 24 os) #[.slice none 0 0] rfl (by kernel_rfl) (by kernel_rfl) (by kernel_rfl)
      (OpenSpec.preRow_of_cond 8 hx (by kernel_rfl) (fun k hk => by cases hk) (by kernel_rfl) (laid_met os))) ?_
  intro W base args ds gs before hval hW _ _ hsz hL _ _
  exact contract H enc W base args ds gs before hval hW hsz hL
set_option maxRecDepth 100000 in
theorem said : Rows.CodeDecodesSaid :=
  OpenClaim.holds_of_cond 5 Tryd.f5 rfl rfl rfl rfl rfl rfl rfl ⟨rfl, rfl, rfl, rfl, rfl⟩ rfl rfl rfl rfl rfl (by kernel_rfl) Tryd.func5 (by kernel_rfl)
    (of_decide_eq_true (by kernel_rfl)) (by unfold Func.isWrapper; first | (rw [if_pos (by decide +kernel)]; kernel_rfl) | (rw [if_neg (by decide +kernel)]; exact ⟨rfl, rfl⟩))
    (fun os started H enc _ F => by rw [OpenClaim.pre_eq_preRow]; exact lifted os started H enc F)
set_option maxRecDepth 100000 in
/-- no parameter wants a stand-in; the program's own looks are off -/
theorem plain (f : FuncId) (fn : Func) (hf : Tryd.pinned.checked.prog.funcNamed "shallot/shallotlaw18.CodeDecodes" = some f) (hfn : Tryd.pinned.checked.prog.funcs[f]? = some fn) :
    false = Tryd.pinned.checked.prog.looks [] ∧ ∀ (j : Nat) t, fn.params[j]? = some t → Tryd.pinned.checked.prog.wantsStandIn t = false := by
  obtain rfl : f = 5 := Option.some.inj ((show Tryd.prog.funcNamed "shallot/shallotlaw18.CodeDecodes" = some 5 by kernel_rfl).symm.trans hf) |>.symm
  obtain rfl : fn = Tryd.f5 := (Option.some.inj (Tryd.func5.symm.trans hfn)).symm
  refine ⟨by kernel_rfl, fun j t ht => ?_⟩
  rw [Tryd.params5] at ht
  obtain rfl : t = 39 := by simpa using Array.mem_of_getElem? ht
  exact (show Tryd.prog.wantsStandIn 39 = false by kernel_rfl)
set_option maxRecDepth 100000 in
theorem proved : Rows.CodeDecodesCardSaid :=
  Claim7.holds_tied_plain_at .later [] _ _ _ _ said (fun _ h => by cases h) (by kernel_rfl) (fun _ h => by cases h) codeDecodes_row_tie rfl ⟨rfl, rfl⟩ (by kernel_rfl) rfl plain (by kernel_rfl)
#print axioms proved
end Go.Proofs.YtkmcjjoicpgjfaaDoor.codeDecodes
