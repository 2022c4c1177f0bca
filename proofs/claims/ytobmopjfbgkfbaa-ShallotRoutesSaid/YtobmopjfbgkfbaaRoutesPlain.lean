/-
  Routes in plain words: the commands of a route that was found are in form, and their next nodes are the next stops'. No statement of the seat is proved here.
-/
import Derived.Test.YtobmopjfbgkfbaaDirRoute
import Derived.Test.YtobmopjfbgkfbaaPath
import Derived.Test.YtobmopjfbgkfbaaCmdLaw
namespace Go.Proofs.Ytobmopjfbgkfbaa
open Go Go.RowKit Go.Sh

theorem chk_zero_node : chkN [zHop] = 3 := by
  unfold chkN
  rw [if_neg (by decide), if_pos ⟨0, by decide, .inl rfl⟩]
/-- the command that a path's last one is made of -/
def lastC (k : Int) : Cmd := ⟨k, 0, 0, 0, noMark⟩
theorem lastC_ok {k : Int} (h : 0 ≤ k ∧ k < 256) : (lastC k).OK := ⟨h, ⟨Int.le_refl 0, by show (0 : Int) < 256; decide⟩, ⟨Int.le_refl 0, by show (0 : Int) < 4294967296; decide⟩, ⟨Int.le_refl 0, by show (0 : Int) < 18446744073709551616; decide⟩, rfl, by unfold lastC noMark; simp⟩
theorem pthE_out {k : Int} (h : k < 2 ∨ 4 < k) (hs : List Hp) : pthE (lastC k) hs = 1 := by
  unfold pthE
  exact if_pos h
section
variable {ns hs : List Hp} {ss : List Sp}
theorem met_id {s : Sp} {h : Hp} (hc : chkN ns = 0) (m : Met ns s h) : h.id ≠ 0 := by
  obtain ⟨k, hk, _, rfl⟩ := m
  intro h0
  exact (chkN_zero hc).2.1 k hk (.inl h0)
theorem met_bad {s : Sp} {h : Hp} (m : Met ns s h) (hs : spIn s) : badHop h = false := by
  obtain ⟨k, hk, _, rfl⟩ := m
  exact badHop_false.2 hs
theorem met_at {s : Sp} {h : Hp} (hc : chkN ns = 0) (m : Met ns s h) {j : Nat} (hj : j < ns.length) (hi : (hat ns j).id = h.id) : (hat ns j).nm.toList = s.nm.toList := by
  obtain ⟨k, hk, hn, rfl⟩ := m
  obtain ⟨_, _, h3⟩ := chkN_zero hc
  by_cases e : j = k
  · subst e; exact hn
  · exfalso
    by_cases hlt : j < k
    · exact h3 k j hlt hk (.inr hi.symm)
    · exact h3 j k (by omega) hj (.inr hi)
theorem met_found {s : Sp} {h : Hp} (m : Met ns s h) : ∃ k, k < ns.length ∧ (hat ns k).id = h.id := by
  obtain ⟨k, hk, _, rfl⟩ := m
  exact ⟨k, hk, rfl⟩
theorem met_name {s : Sp} {h : Hp} (m : Met ns s h) : h.nm.toList = s.nm.toList := by
  obtain ⟨k, hk, hn, rfl⟩ := m
  exact hn
theorem met_dl {s : Sp} {h : Hp} (m : Met ns s h) : h.dl = s.dl ∧ h.fl = s.fl := by
  obtain ⟨k, hk, hn, rfl⟩ := m
  exact ⟨rfl, rfl⟩
theorem pthE_in {k : Int} (hk : 2 ≤ k ∧ k ≤ 4) (hc : chkN ns = 0) (hl : hs.length = ss.length) (h15 : 1 ≤ ss.length ∧ ss.length ≤ 5) (hin : ∀ i, i < ss.length → spIn (sat ss i)) (hm : ∀ i, i < ss.length → Met ns (sat ss i) (hat hs i)) : pthE (lastC k) hs = 0 := by
  have h1 : anyBad hs = false := anyBad_false.2 fun i hi => met_bad (hm i (by omega)) (hin i (by omega))
  have h2 : noId hs = false := noId_false.2 fun i hi _ => met_id hc (hm i (by omega))
  have h3 : shapedB (lastC k) = true := by
    simp only [shapedB, lastC]
    have e1 : (k == 1) = false := by rw [beq_eq_false_iff_ne]; omega
    simp [e1]
  unfold pthE
  rw [if_neg (by simp only [lastC]; omega), if_neg (by rw [h1]; decide), if_neg (by omega), if_neg (by rw [h3]; decide), if_neg (by rw [h2]; decide)]
theorem pcmd_check {k : Int} (hk : 2 ≤ k ∧ k ≤ 4) (hc : chkN ns = 0) (hl : hs.length = ss.length) (hin : ∀ i, i < ss.length → spIn (sat ss i)) (hm : ∀ i, i < ss.length → Met ns (sat ss i) (hat hs i)) {i : Nat} (hi : i < ss.length) : checkN (pcmd (lastC k) hs i) = 0 := by
  have hb := badHop_false.1 (met_bad (hm i hi) (hin i hi))
  unfold checkN pcmd
  by_cases h : i + 1 < hs.length
  · rw [if_pos h]
    have hid := met_id hc (hm (i + 1) (by omega))
    have e : shapedB ⟨1, (hat hs i).fl, (hat hs i).dl, (hat hs (i + 1)).id, noMark⟩ = true := by simp [shapedB, hid]
    rw [if_neg (by show ¬ ((1 : Int) < 1 ∨ 4 < (1 : Int)); omega), e, if_neg (by decide), if_neg (by show ¬ 1000000 < (hat hs i).dl; omega)]
  · rw [if_neg h]
    have e : shapedB ⟨(lastC k).k, (hat hs i).fl, (hat hs i).dl, 0, (lastC k).m⟩ = true := by
      simp only [shapedB, lastC]
      have e1 : (k == 1) = false := by rw [beq_eq_false_iff_ne]; omega
      simp [e1]
    rw [if_neg (by show ¬ (k < 1 ∨ 4 < k); omega), e, if_neg (by decide), if_neg (by show ¬ 1000000 < (hat hs i).dl; omega)]
end
end Go.Proofs.Ytobmopjfbgkfbaa
