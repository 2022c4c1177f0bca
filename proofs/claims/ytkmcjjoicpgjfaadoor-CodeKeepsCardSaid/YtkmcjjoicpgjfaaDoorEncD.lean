/-
  What was written is read back: Decode's answer at the bytes of a program in form is that program. In plain Lean; no statement of the seat is proved here.
-/
import Derived.Test.YtkmcjjoicpgjfaaDoorDecL
namespace Go.Proofs.YtkmcjjoicpgjfaaDoor
open Go Go.RowKit Go.Sh

theorem beV_beB : ∀ (d v : Nat), beV (beB d (v : Int)) = v % 256 ^ d
  | 0, v => by simp [beB, beV, Nat.mod_one]
  | d + 1, v => by
    show (beK (v : Int) d).toNat * 256 ^ (beB d (v : Int)).length + beV (beB d (v : Int)) = _
    rw [beB_len, beV_beB d v]
    have e2 : (2 : Int) ^ (8 * d) = ((256 ^ d : Nat) : Int) := by
      have : (2 : Nat) ^ (8 * d) = 256 ^ d := by rw [Nat.pow_mul]
      rw [← this]; simp
    have e : (beK (v : Int) d).toNat = v / 256 ^ d % 256 := by
      unfold beK
      rw [e2]
      have : ((v : Int) / ((256 ^ d : Nat) : Int) % 256).toNat = v / 256 ^ d % 256 := by
        have : ((v : Int) / ((256 ^ d : Nat) : Int) % 256) = ((v / 256 ^ d % 256 : Nat) : Int) := by simp
        rw [this]; rfl
      rw [this]
      simp
    rw [e, Nat.pow_succ, Nat.mod_mul, Nat.mul_comm]
    omega
theorem nV_fwd {d : Nat} {v : Int} (h0 : 0 ≤ v) (h : v < 256 ^ d) (r : List UInt8) : (nV d (some (beB d v ++ r)) : Int) = v ∧ nS d (some (beB d v ++ r)) = some r := by
  obtain ⟨k, rfl⟩ := Int.eq_ofNat_of_zero_le h0
  have hk : k < 256 ^ d := by
    have e : ((256 : Int) ^ d) = ((256 ^ d : Nat) : Int) := by simp
    rw [e] at h
    exact Int.ofNat_lt.1 h
  rw [nV_some, nS_some, if_pos (by rw [List.length_append, beB_len]; omega), if_pos (by rw [List.length_append, beB_len]; omega)]
  rw [List.take_append_of_le_length (by rw [beB_len]; exact Nat.le_refl _), List.drop_append_of_le_length (by rw [beB_len]; exact Nat.le_refl _)]
  rw [List.take_of_length_le (by rw [beB_len]; exact Nat.le_refl _), List.drop_of_length_le (by rw [beB_len]; exact Nat.le_refl _), beV_beB, Nat.mod_eq_of_lt hk]
  exact ⟨rfl, rfl⟩
theorem nV_fwdN {d k : Nat} (h : k < 256 ^ d) (r : List UInt8) : nV d (some (beB d (k : Int) ++ r)) = k ∧ nS d (some (beB d (k : Int) ++ r)) = some r := by
  have e : ((256 : Int) ^ d) = ((256 ^ d : Nat) : Int) := by simp
  obtain ⟨h1, h2⟩ := nV_fwd (d := d) (v := (k : Int)) (by omega) (by rw [e]; exact Int.ofNat_lt.2 h) r
  exact ⟨Int.ofNat_inj.1 h1, h2⟩
theorem pV_fwd (m r : List UInt8) : pV m.length (some (m ++ r)) = m ∧ nS m.length (some (m ++ r)) = some r := by
  rw [pV_some, nS_some, if_pos (by rw [List.length_append]; omega), if_pos (by rw [List.length_append]; omega), List.take_left, List.drop_left]
  exact ⟨rfl, rfl⟩
theorem rep_fwd {α : Type} (f : Sx → α × Sx) (e : α → List UInt8) : ∀ (l : List α) (r : List UInt8), (∀ x ∈ l, ∀ r, f (some (e x ++ r)) = (x, some r)) → rep f l.length (some (l.flatMap e ++ r)) = (l, some r)
  | [], r, _ => rfl
  | x :: l, r, h => by
    rw [List.length_cons, List.flatMap_cons, List.append_assoc, rep_some, h x (List.mem_cons_self ..)]
    rw [rep_fwd f e l r fun y hy => h y (List.mem_cons_of_mem _ hy)]
theorem beB_mod4 (a : Int) (h : -2147483648 ≤ a ∧ a ≤ 2147483647) : ∃ k : Nat, k < 4294967296 ∧ beB 4 a = beB 4 (k : Int) ∧ sgn k = a := by
  by_cases h0 : 0 ≤ a
  · obtain ⟨k, rfl⟩ := Int.eq_ofNat_of_zero_le h0
    refine ⟨k, by omega, rfl, ?_⟩
    unfold sgn
    rw [if_neg (by omega)]
  · refine ⟨(a + 4294967296).toNat, by omega, ?_, ?_⟩
    · have hk : ∀ i, i < 4 → beK a i = beK (((a + 4294967296).toNat : Nat) : Int) i := by
        intro i hi
        rw [show (((a + 4294967296).toNat : Nat) : Int) = a + 4294967296 by omega]
        unfold beK
        have : a / 2 ^ (8 * i) % 256 = (a + 4294967296) / 2 ^ (8 * i) % 256 := by
          rcases (show i = 0 ∨ i = 1 ∨ i = 2 ∨ i = 3 by omega) with rfl | rfl | rfl | rfl <;> simp <;> omega
        rw [this]
      show [beK _ 3, beK _ 2, beK _ 1, beK _ 0] = [beK _ 3, beK _ 2, beK _ 1, beK _ 0]
      rw [hk 3 (by decide), hk 2 (by decide), hk 1 (by decide), hk 0 (by decide)]
    · unfold sgn
      rw [if_pos (by omega)]
      omega
theorem fI_fwd (i : Ins) (h : shB i = true) (r : List UInt8) : fI (some (encI i ++ r)) = (i, some r) := by
  obtain ⟨op, a, b⟩ := i
  have hab : (-2147483648 ≤ a ∧ a ≤ 2147483647) ∧ 0 ≤ b ∧ b < 65536 := by
    unfold shB at h
    split at h
    · simp only [Bool.and_eq_true, wi_is, beq_iff_eq] at h; omega
    · split at h
      · simp only [Bool.and_eq_true, wi_is, beq_iff_eq] at h; omega
      · split at h <;> simp only [Bool.and_eq_true, wi_is, beq_iff_eq] at h <;> omega
  obtain ⟨k, hk, e4, es⟩ := beB_mod4 a hab.1
  obtain ⟨k2, rfl⟩ := Int.eq_ofNat_of_zero_le hab.2.1
  have s1 := nV_fwdN (d := 1) (k := op.toNat) (by have := op.toNat_lt; omega) (beB 4 (k : Int) ++ (beB 2 (k2 : Int) ++ r))
  have s2 := nV_fwdN (d := 4) hk (beB 2 (k2 : Int) ++ r)
  have s3 := nV_fwdN (d := 2) (k := k2) (by omega) r
  have e : encI ⟨op, a, (k2 : Int)⟩ ++ r = beB 1 (op.toNat : Int) ++ (beB 4 (k : Int) ++ (beB 2 (k2 : Int) ++ r)) := by
    show op :: (beB 4 a ++ beB 2 (k2 : Int)) ++ r = _
    rw [beB_one, UInt8.ofNat_toNat, e4]
    simp
  unfold fI
  rw [e, s1.1, s1.2, s2.1, s2.2, s3.1, s3.2, es, UInt8.ofNat_toNat]
theorem fM_fwd (m : List UInt8) (h : m.length ≤ 7200) (r : List UInt8) : fM (some (encM m ++ r)) = (m, some r) := by
  have s1 := nV_fwdN (d := 2) (k := m.length) (by omega) (m ++ r)
  have s2 := pV_fwd m r
  unfold fM encM
  rw [List.append_assoc, s1.1, s1.2, s2.1, s2.2]
theorem fT_fwd (s : Sp) (h : s.nm.size ≤ 255 ∧ 0 ≤ s.dl ∧ s.dl ≤ 1000000 ∧ 0 ≤ s.fl ∧ s.fl ≤ 255) (r : List UInt8) : fT (some (encT s ++ r)) = (s, some r) := by
  obtain ⟨nm, dl, fl⟩ := s
  obtain ⟨h1, h2, h3, h4, h5⟩ := h
  simp only at h1 h2 h3 h4 h5
  have s1 := nV_fwdN (d := 1) (k := (nmL nm).length) (by rw [nmL_len]; omega) (nmL nm ++ (beB 4 dl ++ (beB 1 fl ++ r)))
  have s2 := pV_fwd (nmL nm) (beB 4 dl ++ (beB 1 fl ++ r))
  have s3 := nV_fwd (d := 4) (v := dl) h2 (by omega) (beB 1 fl ++ r)
  have s4 := nV_fwd (d := 1) (v := fl) h4 (by omega) r
  have e : encT ⟨nm, dl, fl⟩ ++ r = beB 1 ((nmL nm).length : Int) ++ (nmL nm ++ (beB 4 dl ++ (beB 1 fl ++ r))) := by
    show (beB 1 (nm.size : Int) ++ (nmL nm ++ (beB 4 dl ++ beB 1 fl))) ++ r = _
    rw [nmL_len]
    simp only [List.append_assoc]
  unfold fT
  rw [e, s1.1, s1.2, s2.1, s2.2, s3.1, s3.2, s4.1, s4.2]
  rfl
theorem fR_fwd (l : List Sp) (h : l.length ≤ 5 ∧ ∀ s ∈ l, s.nm.size ≤ 255 ∧ 0 ≤ s.dl ∧ s.dl ≤ 1000000 ∧ 0 ≤ s.fl ∧ s.fl ≤ 255) (r : List UInt8) : fR (some (encRt l ++ r)) = (l, some r) := by
  have s1 := nV_fwdN (d := 1) (k := l.length) (by omega) (l.flatMap encT ++ r)
  unfold fR encRt
  rw [List.append_assoc, s1.1, s1.2]
  exact rep_fwd fT encT l r fun s hs r => fT_fwd s (h.2 s hs) r
theorem fN_fwd (k : Int) (h : 0 ≤ k ∧ k ≤ 63) (r : List UInt8) : fN (some (beB 1 k ++ r)) = (k, some r) := by
  have s1 := nV_fwd (d := 1) (v := k) h.1 (by omega) r
  unfold fN
  rw [s1.1, s1.2]
theorem fS_fwd (s : Snd) (h : s.rts.length ≤ 8 ∧ (∀ r ∈ s.rts, 0 ≤ r ∧ r ≤ 63) ∧ 0 ≤ s.msg ∧ s.msg ≤ 63 ∧ -1 ≤ s.blk ∧ s.blk ≤ 15) (r : List UInt8) : fS (some (encSd s ++ r)) = (s, some r) := by
  obtain ⟨msg, rts, blk⟩ := s
  obtain ⟨h1, h2, h3, h4, h5, h6⟩ := h
  simp only at h1 h2 h3 h4 h5 h6
  have s1 := nV_fwd (d := 1) (v := msg) h3 (by omega) (beB 1 (rts.length : Int) ++ (rts.flatMap (beB 1) ++ (beB 1 (blk + 1) ++ r)))
  have s2 := nV_fwdN (d := 1) (k := rts.length) (by omega) (rts.flatMap (beB 1) ++ (beB 1 (blk + 1) ++ r))
  have s3 := rep_fwd fN (beB 1) rts (beB 1 (blk + 1) ++ r) fun k hk r => fN_fwd k (h2 k hk) r
  have s4 := nV_fwd (d := 1) (v := blk + 1) (by omega) (by omega) r
  have e : encSd ⟨msg, rts, blk⟩ ++ r = beB 1 msg ++ (beB 1 (rts.length : Int) ++ (rts.flatMap (beB 1) ++ (beB 1 (blk + 1) ++ r))) := by
    unfold encSd
    simp only [List.append_assoc]
  unfold fS
  rw [e, s1.1, s1.2, s2.1, s2.2, s3, s4.1, s4.2, Int.add_sub_cancel]
theorem dec_of_enc {p : Prg} (h : ckP p = 0) : dcP (encP p) = (p, 0) := by
  have hf := fm_of h
  have hN : ∀ s : Sp, wfN s.nm → s.nm.size ≤ 255 := fun s hs => by have := hs.2.1; omega
  obtain ⟨code, msgs, rts, snds, vars, stack, blocks, fuel⟩ := p
  have g1 := hf.n1; have g2 := hf.n2; have g3 := hf.n3; have g4 := hf.n4
  have v1 := hf.vars; have v2 := hf.stack; have v3 := hf.blocks; have v4 := hf.fuel
  simp only at g1 g2 g3 g4 v1 v2 v3 v4
  have q4 := rep_fwd fS encSd snds [] fun s hs r => fS_fwd s ⟨(hf.snds s hs).2.1, (hf.snds s hs).2.2⟩ r
  have q3 := rep_fwd fR encRt rts (snds.flatMap encSd ++ []) fun s hs r => fR_fwd s ⟨(hf.rts s hs).2.1, fun t ht => ⟨hN t ((hf.rts s hs).2.2 t ht).1, ((hf.rts s hs).2.2 t ht).2⟩⟩ r
  have q2 := rep_fwd fM encM msgs (rts.flatMap encRt ++ (snds.flatMap encSd ++ [])) fun s hs r => fM_fwd s (hf.msgs s hs) r
  have q1 := rep_fwd fI encI code (msgs.flatMap encM ++ (rts.flatMap encRt ++ (snds.flatMap encSd ++ []))) fun s hs r => fI_fwd s (hf.ins s hs) r
  obtain ⟨R, hR⟩ : ∃ R, code.flatMap encI ++ (msgs.flatMap encM ++ (rts.flatMap encRt ++ (snds.flatMap encSd ++ []))) = R := ⟨_, rfl⟩
  rw [hR] at q1
  have k7 := nV_fwd (d := 4) (v := fuel) v4.1 (by omega) R
  have k6 := nV_fwd (d := 2) (v := blocks) v3.1 (by omega) (beB 4 fuel ++ R)
  have k5 := nV_fwd (d := 2) (v := stack) v2.1 (by omega) (beB 2 blocks ++ (beB 4 fuel ++ R))
  have k4 := nV_fwd (d := 2) (v := vars) v1.1 (by omega) (beB 2 stack ++ (beB 2 blocks ++ (beB 4 fuel ++ R)))
  have k3 := nV_fwdN (d := 2) (k := snds.length) (by omega) (beB 2 vars ++ (beB 2 stack ++ (beB 2 blocks ++ (beB 4 fuel ++ R))))
  have k2 := nV_fwdN (d := 2) (k := rts.length) (by omega) (beB 2 (snds.length : Int) ++ (beB 2 vars ++ (beB 2 stack ++ (beB 2 blocks ++ (beB 4 fuel ++ R)))))
  have k1 := nV_fwdN (d := 2) (k := msgs.length) (by omega) (beB 2 (rts.length : Int) ++ (beB 2 (snds.length : Int) ++ (beB 2 vars ++ (beB 2 stack ++ (beB 2 blocks ++ (beB 4 fuel ++ R))))))
  have k0 := nV_fwdN (d := 2) (k := code.length) (by omega) (beB 2 (msgs.length : Int) ++ (beB 2 (rts.length : Int) ++ (beB 2 (snds.length : Int) ++ (beB 2 vars ++ (beB 2 stack ++ (beB 2 blocks ++ (beB 4 fuel ++ R)))))))
  obtain ⟨L, hL⟩ : ∃ L, beB 2 (code.length : Int) ++ (beB 2 (msgs.length : Int) ++ (beB 2 (rts.length : Int) ++ (beB 2 (snds.length : Int) ++ (beB 2 vars ++ (beB 2 stack ++ (beB 2 blocks ++ (beB 4 fuel ++ R))))))) = L := ⟨_, rfl⟩
  rw [hL] at k0
  have e : encP ⟨code, msgs, rts, snds, vars, stack, blocks, fuel⟩ = [115, 104, 108, 49] ++ L := by
    rw [← hL, ← hR]
    unfold encP headsP tl0 tl1 tl2 tl3
    simp only [List.flatMap_cons, List.flatMap_nil, List.append_assoc, List.append_nil]
  have s1 : sHd 1 (some L) = nS 2 (some L) := rfl
  have t1 : sHd 1 (some L) = _ := k0.2
  have t2 : sHd 2 (some L) = _ := (congrArg (nS 2) t1).trans k1.2
  have t3 : sHd 3 (some L) = _ := (congrArg (nS 2) t2).trans k2.2
  have t4 : sHd 4 (some L) = _ := (congrArg (nS 2) t3).trans k3.2
  have t5 : sHd 5 (some L) = _ := (congrArg (nS 2) t4).trans k4.2
  have t6 : sHd 6 (some L) = _ := (congrArg (nS 2) t5).trans k5.2
  have t7 : sHd 7 (some L) = _ := (congrArg (nS 2) t6).trans k6.2
  have c0 : cHd 0 (some L) = code.length := k0.1
  have c1 : cHd 1 (some L) = msgs.length := (congrArg (nV 2) t1).trans k1.1
  have c2 : cHd 2 (some L) = rts.length := (congrArg (nV 2) t2).trans k2.1
  have c3 : cHd 3 (some L) = snds.length := (congrArg (nV 2) t3).trans k3.1
  have c4 : (cHd 4 (some L) : Int) = vars := (congrArg (fun s => (nV 2 s : Int)) t4).trans k4.1
  have c5 : (cHd 5 (some L) : Int) = stack := (congrArg (fun s => (nV 2 s : Int)) t5).trans k5.1
  have c6 : (cHd 6 (some L) : Int) = blocks := (congrArg (fun s => (nV 2 s : Int)) t6).trans k6.1
  have c7 : (nV 4 (sHd 7 (some L)) : Int) = fuel := (congrArg (fun s => (nV 4 s : Int)) t7).trans k7.1
  have u0 : sFu (some L) = some R := (congrArg (nS 4) t7).trans k7.2
  have rI' : rI (some L) = (code, some (msgs.flatMap encM ++ (rts.flatMap encRt ++ (snds.flatMap encSd ++ [])))) := by unfold rI; rw [c0, u0]; exact q1
  have rM' : rM (some L) = (msgs, some (rts.flatMap encRt ++ (snds.flatMap encSd ++ []))) := by unfold rM; rw [c1, rI']; exact q2
  have rR' : rR (some L) = (rts, some (snds.flatMap encSd ++ [])) := by unfold rR; rw [c2, rM']; exact q3
  have rS' : rS (some L) = (snds, some []) := by unfold rS; rw [c3, rR']; exact q4
  have hrd : rdP (some L) = ⟨code, msgs, rts, snds, vars, stack, blocks, fuel⟩ := by unfold rdP; rw [rI', rM', rR', rS', c4, c5, c6, c7]
  rw [e]
  unfold dcP
  rw [if_neg (by rw [List.length_append]; simp), if_pos (by rfl)]
  show dcB (some L) = _
  unfold dcB
  rw [if_pos (by rw [rS']), hrd, if_pos h]
end Go.Proofs.YtkmcjjoicpgjfaaDoor
