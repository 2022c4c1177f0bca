/-
  What was read whole is written as it was: the bytes of the program that Decode answers are the bytes themselves. In plain Lean; no statement of the seat is proved here.
-/
import Derived.Test.YtkmcjjoicpgjfaaDoorDec
namespace Go.Proofs.YtkmcjjoicpgjfaaDoor
open Go Go.RowKit Go.Sh

theorem beB_one (v : Nat) : beB 1 (v : Int) = [UInt8.ofNat v] := by
  show [beK (v : Int) 0] = _
  unfold beK
  congr 1
  have : ((v : Int) / 2 ^ (8 * 0) % 256).toNat = v % 256 := by
    simp
    omega
  rw [this]
  apply UInt8.toNat_inj.1
  simp
theorem beB_sgn (a : Nat) : beB 4 (sgn a) = beB 4 (a : Int) := by
  have h : ∀ k, k < 4 → beK (sgn a) k = beK (a : Int) k := by
    intro k hk
    unfold sgn
    by_cases hb : 2147483647 < a
    · rw [if_pos hb]
      unfold beK
      have : ((a : Int) - 4294967296) / 2 ^ (8 * k) % 256 = (a : Int) / 2 ^ (8 * k) % 256 := by
        rcases (show k = 0 ∨ k = 1 ∨ k = 2 ∨ k = 3 by omega) with rfl | rfl | rfl | rfl <;> simp <;> omega
      rw [this]
    · rw [if_neg hb]
  show [beK _ 3, beK _ 2, beK _ 1, beK _ 0] = [beK _ 3, beK _ 2, beK _ 1, beK _ 0]
  rw [h 3 (by decide), h 2 (by decide), h 1 (by decide), h 0 (by decide)]
theorem fI_back (s : Sx) (r : List UInt8) (h : (fI s).2 = some r) : ∃ q, s = some q ∧ q = encI (fI s).1 ++ r := by
  obtain ⟨q2, e2, h2⟩ := nV_back (d := 2) h
  obtain ⟨q1, e1, h1⟩ := nV_back (d := 4) e2
  obtain ⟨q, e, h0⟩ := nV_back (d := 1) e1
  refine ⟨q, e, ?_⟩
  show q = (UInt8.ofNat (nV 1 s) :: (beB 4 (sgn (nV 4 (nS 1 s))) ++ beB 2 (nV 2 (nS 4 (nS 1 s)) : Int))) ++ r
  rw [beB_sgn, h0, h1, h2, beB_one]
  simp
theorem fM_back (s : Sx) (r : List UInt8) (h : (fM s).2 = some r) : ∃ q, s = some q ∧ q = encM (fM s).1 ++ r := by
  obtain ⟨q1, e1, h1, hl⟩ := pV_back h
  obtain ⟨q, e, h0⟩ := nV_back (d := 2) e1
  refine ⟨q, e, ?_⟩
  show q = (beB 2 ((pV (nV 2 s) (nS 2 s)).length : Int) ++ pV (nV 2 s) (nS 2 s)) ++ r
  rw [hl, h0, List.append_assoc, ← h1]
theorem fT_back (s : Sx) (r : List UInt8) (h : (fT s).2 = some r) : ∃ q, s = some q ∧ q = encT (fT s).1 ++ r := by
  obtain ⟨q3, e3, h3⟩ := nV_back (d := 1) h
  obtain ⟨q2, e2, h2⟩ := nV_back (d := 4) e3
  obtain ⟨q1, e1, h1, hl⟩ := pV_back e2
  obtain ⟨q, e, h0⟩ := nV_back (d := 1) e1
  refine ⟨q, e, ?_⟩
  show q = (beB 1 (((pV (nV 1 s) (nS 1 s)).toArray.size : Nat) : Int) ++ ((pV (nV 1 s) (nS 1 s)).toArray.toList ++ (beB 4 (nV 4 (nS (nV 1 s) (nS 1 s)) : Int) ++ beB 1 (nV 1 (nS 4 (nS (nV 1 s) (nS 1 s))) : Int)))) ++ r
  rw [List.size_toArray, hl, h0, h1, h2, h3]
  simp
theorem fR_back (s : Sx) (r : List UInt8) (h : (fR s).2 = some r) : ∃ q, s = some q ∧ q = encRt (fR s).1 ++ r := by
  obtain ⟨q1, e1, h1, hl⟩ := rep_back fT encT fT_back _ _ _ h
  obtain ⟨q, e, h0⟩ := nV_back (d := 1) e1
  refine ⟨q, e, ?_⟩
  show q = (beB 1 ((rep fT (nV 1 s) (nS 1 s)).1.length : Int) ++ (rep fT (nV 1 s) (nS 1 s)).1.flatMap encT) ++ r
  rw [hl, h0, List.append_assoc, ← h1]
theorem fN_back (s : Sx) (r : List UInt8) (h : (fN s).2 = some r) : ∃ q, s = some q ∧ q = beB 1 (fN s).1 ++ r := nV_back (d := 1) h
theorem fS_back (s : Sx) (r : List UInt8) (h : (fS s).2 = some r) : ∃ q, s = some q ∧ q = encSd (fS s).1 ++ r := by
  obtain ⟨q3, e3, h3⟩ := nV_back (d := 1) h
  obtain ⟨q2, e2, h2, hl⟩ := rep_back fN (beB 1) fN_back _ _ _ e3
  obtain ⟨q1, e1, h1⟩ := nV_back (d := 1) e2
  obtain ⟨q, e, h0⟩ := nV_back (d := 1) e1
  refine ⟨q, e, ?_⟩
  show q = (beB 1 (nV 1 s : Int) ++ (beB 1 ((rep fN (nV 1 (nS 1 s)) (nS 1 (nS 1 s))).1.length : Int) ++ ((rep fN (nV 1 (nS 1 s)) (nS 1 (nS 1 s))).1.flatMap (beB 1) ++ beB 1 ((nV 1 (rep fN (nV 1 (nS 1 s)) (nS 1 (nS 1 s))).2 : Int) - 1 + 1)))) ++ r
  rw [hl, h0, h1, h2, h3, Int.sub_add_cancel]
  simp only [List.append_assoc]
/-- the program that is read whole has these bytes -/
theorem rd_enc {l : List UInt8} (h : (rS (some l)).2 = some []) : (headsP (rdP (some l))).flatMap (beB 2) ++ tl0 (rdP (some l)) = l := by
  obtain ⟨q4, e4, h4, l4⟩ := rep_back fS encSd fS_back _ _ _ h
  obtain ⟨q3, e3, h3, l3⟩ := rep_back fR encRt fR_back _ _ _ e4
  obtain ⟨q2, e2, h2, l2⟩ := rep_back fM encM fM_back _ _ _ e3
  obtain ⟨q1, e1, h1, l1⟩ := rep_back fI encI fI_back _ _ _ e2
  obtain ⟨p7, g7, k7⟩ := nV_back (d := 4) e1
  obtain ⟨p6, g6, k6⟩ := nV_back (d := 2) g7
  obtain ⟨p5, g5, k5⟩ := nV_back (d := 2) g6
  obtain ⟨p4, g4, k4⟩ := nV_back (d := 2) g5
  obtain ⟨p3, g3, k3⟩ := nV_back (d := 2) g4
  obtain ⟨p2, g2, k2⟩ := nV_back (d := 2) g3
  obtain ⟨p1, g1, k1⟩ := nV_back (d := 2) g2
  obtain ⟨p0, g0, k0⟩ := nV_back (d := 2) g1
  injection g0 with g0
  subst g0
  have c1 : (rdP (some l)).code.length = cHd 0 (some l) := l1
  have c2 : (rdP (some l)).msgs.length = cHd 1 (some l) := l2
  have c3 : (rdP (some l)).rts.length = cHd 2 (some l) := l3
  have c4 : (rdP (some l)).snds.length = cHd 3 (some l) := l4
  have t3 : tl3 (rdP (some l)) = q4 := by rw [h4, List.append_nil]; rfl
  have t2 : tl2 (rdP (some l)) = q3 := by unfold tl2; rw [t3, h3]; rfl
  have t1 : tl1 (rdP (some l)) = q2 := by unfold tl1; rw [t2, h2]; rfl
  have t0 : tl0 (rdP (some l)) = p7 := by unfold tl0; rw [t1, k7, h1]; rfl
  rw [t0]
  unfold headsP
  rw [c1, c2, c3, c4]
  show beB 2 (cHd 0 (some l) : Int) ++ (beB 2 (cHd 1 (some l) : Int) ++ (beB 2 (cHd 2 (some l) : Int) ++ (beB 2 (cHd 3 (some l) : Int) ++ (beB 2 (cHd 4 (some l) : Int) ++ (beB 2 (cHd 5 (some l) : Int) ++ (beB 2 (cHd 6 (some l) : Int) ++ [])))))) ++ p7 = l
  simp only [List.append_assoc, List.nil_append]
  exact ((((((k0.trans (congrArg _ k1)).trans (congrArg _ (congrArg _ k2))).trans (congrArg _ (congrArg _ (congrArg _ k3)))).trans (congrArg _ (congrArg _ (congrArg _ (congrArg _ k4))))).trans (congrArg _ (congrArg _ (congrArg _ (congrArg _ (congrArg _ k5)))))).trans (congrArg _ (congrArg _ (congrArg _ (congrArg _ (congrArg _ (congrArg _ k6))))))).symm
theorem dec_enc {l : List UInt8} {p : Prg} (h : dcP l = (p, 0)) : ckP p = 0 ∧ encP p = l := by
  unfold dcP at h
  by_cases h4 : l.length < 4
  · rw [if_pos h4] at h
    injection h with _ h
    cases h
  · rw [if_neg h4] at h
    by_cases hm : l.take 4 = [115, 104, 108, 49]
    · rw [if_pos hm] at h
      unfold dcB at h
      by_cases hs : (rS (some (l.drop 4))).2 = some []
      · rw [if_pos hs] at h
        by_cases hc : ckP (rdP (some (l.drop 4))) = 0
        · rw [if_pos hc] at h
          injection h with h _
          subst h
          refine ⟨hc, ?_⟩
          unfold encP
          rw [rd_enc hs, ← hm, List.take_append_drop]
        · rw [if_neg hc] at h
          injection h with _ h
          exact absurd h hc
      · rw [if_neg hs] at h
        injection h with _ h
        cases h
    · rw [if_neg hm] at h
      injection h with _ h
      cases h
theorem dcP_err (l : List UInt8) : (dcP l).2 = 0 ∨ (dcP l).2 = 1 ∨ (dcP l).2 = 2 ∨ (dcP l).2 = 3 ∨ (dcP l).2 = 11 := by
  have hck : ∀ p, ckP p = 0 ∨ ckP p = 1 ∨ ckP p = 3 ∨ ckP p = 11 := by
    intro p
    unfold ckP
    split
    · exact .inr (.inl rfl)
    · split
      · exact .inr (.inr (.inl rfl))
      · split
        · exact .inr (.inr (.inr rfl))
        · exact .inl rfl
  unfold dcP
  split
  · exact .inr (.inr (.inl rfl))
  · split
    · unfold dcB
      split
      · split
        · exact .inl rfl
        · rcases hck (rdP (some (l.drop 4))) with h | h | h | h <;> simp [h]
      · exact .inr (.inr (.inl rfl))
    · exact .inr (.inr (.inr (.inl rfl)))
theorem rep_mem {α : Type} {f : Sx → α × Sx} : ∀ {n : Nat} {s : Sx} {x : α}, x ∈ (rep f n s).1 → ∃ s', x = (f s').1
  | 0, s, x, h => by cases h
  | n + 1, none, x, h => by cases h
  | n + 1, some r, x, h => by
    rw [rep_some] at h
    rcases List.mem_cons.1 h with rfl | h
    · exact ⟨_, rfl⟩
    · exact rep_mem h
theorem rd_small (s : Sx) : (∀ m ∈ (rdP s).msgs, m.length ≤ 65535) ∧ (∀ r ∈ (rdP s).rts, r.length ≤ 255) ∧ ∀ d ∈ (rdP s).snds, d.rts.length ≤ 255 := by
  refine ⟨fun m hm => ?_, fun r hr => ?_, fun d hd => ?_⟩
  · obtain ⟨s', rfl⟩ := rep_mem (f := fM) hm
    have h1 := pV_len (nV 2 s') (nS 2 s')
    have h2 := nV_lt 2 s'
    show (pV (nV 2 s') (nS 2 s')).length ≤ 65535
    omega
  · obtain ⟨s', rfl⟩ := rep_mem (f := fR) hr
    have h1 := rep_len fT (nV 1 s') (nS 1 s')
    have h2 := nV_lt 1 s'
    show (rep fT (nV 1 s') (nS 1 s')).1.length ≤ 255
    omega
  · obtain ⟨s', rfl⟩ := rep_mem (f := fS) hd
    have h1 := rep_len fN (nV 1 (nS 1 s')) (nS 1 (nS 1 s'))
    have h2 := nV_lt 1 (nS 1 s')
    show (rep fN (nV 1 (nS 1 s')) (nS 1 (nS 1 s'))).1.length ≤ 255
    omega
theorem dcP_small (l : List UInt8) : (∀ m ∈ (dcP l).1.msgs, m.length ≤ 65535) ∧ (∀ r ∈ (dcP l).1.rts, r.length ≤ 255) ∧ ∀ d ∈ (dcP l).1.snds, d.rts.length ≤ 255 := by
  have hz : (∀ m ∈ pZ.msgs, m.length ≤ 65535) ∧ (∀ r ∈ pZ.rts, r.length ≤ 255) ∧ ∀ d ∈ pZ.snds, d.rts.length ≤ 255 :=
    ⟨(fun _ h => by cases h), (fun _ h => by cases h), (fun _ h => by cases h)⟩
  unfold dcP
  split
  · exact hz
  · split
    · unfold dcB
      split
      · split
        · exact rd_small _
        · exact hz
      · exact hz
    · exact hz
end Go.Proofs.YtkmcjjoicpgjfaaDoor
