/-
  The received parts of one message, as frame.Message keeps them in a frame.Inbox: contracts of takeOne and Take at a part that is kept, of Missing, and of Bytes where all parts are there. Conditions: the sizes that slices can have.
-/
import Derived.Test.YtobmopjfbgkfbaaMerge
import Derived.Test.YtobmopjfbgkfbaaOrdersWords
import Derived.Deep.RegionHeld3
import Derived.StillTailTactics
namespace Go.Proofs.Ytobmopjfbgkfbaa
open Go Go.RowKit Go.Sh

/-- block b holds an inbox that has kept the parts qs; its pieces are rows of the call's own, all of them above block b -/
def MB (w : World) (b base : Nat) (id cnt : Int) (n : Nat) (qs : List Pt) (nm : Value) : Prop :=
  b < base ∧ ∃ vs : List Value, vs.length = 16 ∧ w.heap[b]? = some (.cells ([Value.int .u64 id, .int .i64 cnt, .int .i64 (n : Int)] ++ (seenV qs ++ (vs ++ [nm]))).toArray 53 (0, 0)) ∧
    ∀ j : Nat, j < 16 → ∃ Ai ni ci, vs[j]? = some (.slice Ai ni ci) ∧ w.ownsRow base 5 1 (.slice Ai ni ci) ni (bv (grp qs (j : Int)))
section
variable {w w' : World} {b base n : Nat} {id cnt : Int} {qs : List Pt} {nm : Value}
theorem MB.lt (h : MB w b base id cnt n qs nm) : b < w.heap.size := by
  obtain ⟨_, vs, _, h2, _⟩ := h
  exact (Array.getElem?_eq_some_iff.1 h2).1
theorem MB.later (h : MB w b base id cnt n qs nm) (hb : Below w.heap.size w w') : MB w' b base id cnt n qs nm := by
  obtain ⟨h0, vs, h1, h2, h3⟩ := h
  refine ⟨h0, vs, h1, (hb.block b (Array.getElem?_eq_some_iff.1 h2).1).trans h2, fun j hj => ?_⟩
  obtain ⟨Ai, ni, ci, h4, h5⟩ := h3 j hj
  exact ⟨Ai, ni, ci, h4, own_later h5 hb⟩
theorem MB.c0 (h : MB w b base id cnt n qs nm) : w.cell? ⟨b, 0, none⟩ = some (.int .u64 id) := by
  obtain ⟨_, vs, _, h2, _⟩ := h
  exact blk_cell h2
theorem MB.c1 (h : MB w b base id cnt n qs nm) : w.cell? ⟨b, 1, none⟩ = some (.int .i64 cnt) := by
  obtain ⟨_, vs, _, h2, _⟩ := h
  exact blk_cell h2
theorem MB.c2 (h : MB w b base id cnt n qs nm) : w.cell? ⟨b, 2, none⟩ = some (.int .i64 (n : Int)) := by
  obtain ⟨_, vs, _, h2, _⟩ := h
  exact blk_cell h2
theorem MB.seen (h : MB w b base id cnt n qs nm) {j : Nat} (hj : j < 16) : w.cell? ⟨b, 3 + j, none⟩ = some (.bool (hasIx qs (j : Int))) := by
  obtain ⟨_, vs, _, h2, _⟩ := h
  rw [blk_cell h2, List.getElem?_toArray, List.getElem?_append_right (by simp), show 3 + j - [Value.int .u64 id, .int .i64 cnt, .int .i64 (n : Int)].length = j by simp, List.getElem?_append_left (by rw [length_seenV]; exact hj), seenV_at _ hj]
theorem MB.piece (h : MB w b base id cnt n qs nm) {j : Nat} (hj : j < 16) : ∃ v, w.cell? ⟨b, 19 + j, none⟩ = some v := by
  obtain ⟨_, vs, h1, h2, h3⟩ := h
  obtain ⟨Ai, ni, ci, h4, _⟩ := h3 j hj
  refine ⟨.slice Ai ni ci, ?_⟩
  · rw [blk_cell h2, List.getElem?_toArray, List.getElem?_append_right (by simp; omega), List.getElem?_append_right (by rw [length_seenV]; simp; omega), length_seenV,
      show 19 + j - [Value.int .u64 id, .int .i64 cnt, .int .i64 (n : Int)].length - 16 = j by simp; omega, List.getElem?_append_left (by omega), h4]
theorem MB.frozen (h : MB w b base id cnt n qs nm) (j : Nat) : w.frozen? ⟨b, j, none⟩ = false := by
  obtain ⟨_, vs, _, h2, _⟩ := h
  exact frozen_of_row _ _ j _ _ h2
/-- a part is put in: what the four stores leave -/
theorem MB.put (h : MB w b base id cnt n qs nm) {p : Pt} {j : Nat} (hj : j < 16) (hp : p.ix = (j : Int)) (hs : hasIx qs (j : Int) = false) {A : Option Addr} {k c : Nat} (hx : w'.ownsRow base 5 1 (.slice A k c) k (bv p.d))
    (hkeep : ∀ (A : Option Addr) (m c : Nat) (l : List UInt8), w.ownsRow base 5 1 (.slice A m c) m (bv l) → w'.ownsRow base 5 1 (.slice A m c) m (bv l))
    (hblk : ∀ cs : Array Value, w.heap[b]? = some (.cells cs 53 (0, 0)) → w'.heap[b]? = some (.cells ((((cs.setIfInBounds 1 (.int .i64 p.ct)).setIfInBounds 2 (.int .i64 ((n : Int) + 1))).setIfInBounds (3 + j) (.bool true)).setIfInBounds (19 + j) (.slice A k c)) 53 (0, 0))) :
    MB w' b base id p.ct (n + 1) (qs ++ [p]) nm := by
  obtain ⟨h0, vs, h1, h2, h3⟩ := h
  refine ⟨h0, vs.set j (.slice A k c), by simp [h1], ?_, fun i hi => ?_⟩
  · rw [hblk _ h2, show ((n + 1 : Nat) : Int) = (n : Int) + 1 by omega]
    simp only [List.setIfInBounds_toArray]
    congr 2
    simp only [List.cons_append, List.nil_append, List.set_cons_zero, List.set_cons_succ]
    rw [show 3 + j = (j + 1 + 1) + 1 by omega, show 19 + j = (16 + j + 1 + 1) + 1 by omega]
    simp only [List.set_cons_succ]
    rw [List.set_append_left _ _ (by rw [length_seenV]; exact hj), seenV_put _ hj hp, List.set_append_right _ _ (by rw [length_seenV]; omega), length_seenV, show 16 + j - 16 = j by omega, List.set_append_left _ _ (by omega)]
  · rw [grp_snoc]
    by_cases hij : i = j
    · subst hij
      rw [if_pos hp, grp_none hs, List.nil_append]
      exact ⟨A, k, c, by simp [h1, hi], hx⟩
    · rw [if_neg (by rw [hp]; omega), List.append_nil]
      obtain ⟨Ai, ni, ci, h4, h5⟩ := h3 i hi
      exact ⟨Ai, ni, ci, by rw [List.getElem?_set_ne (Ne.symm hij)]; exact h4, hkeep _ _ _ _ h5⟩
end

theorem grown_ofb {w w' : World} (h : Below w.heap.size w w') (row : Option Nat) : w.grownBy w' row := ⟨h.os, h.tape, h.output, h.size, fun k hk _ => h.block k hk⟩
theorem Missing_any (b base : Nat) (id cnt : Int) (n : Nat) (qs : List Pt) (nm : Value) (w : World) (h : MB w b base id cnt n qs nm) (hn : n ≤ 1000) (hc : 0 ≤ cnt ∧ cnt ≤ 1000) :
    Calls Try.prog 29 #[.pointer (some ⟨b, 0, none⟩)] w (fun e w' => e = .returned (.int .i64 (if n = 0 then 1 else cnt - n)) ∧ ∃ d, w' = w.drewN d) := by
  have c1 := h.c1
  have c2 := h.c2
  by_cases h0 : n = 0
  · subst h0
    have e0 : (((0 : Nat) : Int) == 0) = true := rfl
    go_enter Try.func29, Try.ntmps29
    go_wp2_with fail
    go_ret
    exact ⟨rfl, 0, rfl⟩
  · rw [if_neg h0]
    have e0 : ((n : Int) == 0) = false := by simp [h0]
    have hw : IntKind.i64.wrap (cnt - (n : Int)) = cnt - (n : Int) := by rw [IntKind.wrap_i64]; omega
    go_enter Try.func29, Try.ntmps29
    go_wp2_with fail
    go_quiet (fail)
    go_wp2_with fail
    go_ret
    exact ⟨rfl, nq, rfl⟩

set_option maxHeartbeats 4000000 in
set_option maxRecDepth 100000 in
theorem takeOne_any (b base : Nat) (id cnt : Int) (n : Nat) (qs : List Pt) (nm : Value) (p : Pt) (A : Option Addr) (m c : Nat) (w : World) (h : MB w b base id cnt n qs nm) (hr : w.ownsRow base 5 1 (.slice A m c) m (bv p.d)) (hn : n ≤ 1000) (hbase : base ≤ w.heap.size)
    (hp : p.OK) (hchk : p.chk = 0) (hk : p.k = 1) (hid : p.id = id) (hct : n ≠ 0 → p.ct = cnt) (hs : hasIx qs p.ix = false) :
    Calls Try.prog 66 #[.pointer (some ⟨b, 0, none⟩), .agg #[.int .u8 p.k, .int .u64 p.id, .int .i64 p.ix, .int .i64 p.ct, .slice A m c]] w
      (fun e w' => e = .returned (.int .i64 0) ∧ MB w' b base id p.ct (n + 1) (qs ++ [p]) nm ∧ w.grownBy w' (some b)) := by
  obtain ⟨_, hd, ⟨t1, t2⟩, t3, t4⟩ := chk_ok' hchk
  have hm : m ≤ 450 := by have h2 := hr.1; rw [length_bv] at h2; omega
  have hpc : ∀ w, Calls Try.prog 62 #[.agg #[.int .u8 p.k, .int .u64 p.id, .int .i64 p.ix, .int .i64 p.ct, .slice A m c]] w (fun e w' => e = .returned (.int .i64 0) ∧ Below w.heap.size w w') := fun w => by
    have h := PCheck_any p.k p.id p.ix p.ct A m c w hp.k (by omega)
    rw [show chk p.k p.id p.ix p.ct m = p.chk by unfold Pt.chk; rw [show p.d.length = m by have h2 := hr.1; rw [length_bv] at h2; omega], hchk] at h
    exact h
  obtain ⟨j, hj⟩ : ∃ j : Nat, p.ix = (j : Int) := ⟨p.ix.toNat, by omega⟩
  clear hchk hp
  obtain ⟨pk, pid, pix, ct, d⟩ := p
  dsimp only at *
  subst hk hid hj
  have HM := Lib.hid h
  have HR := Lib.hid hr
  have HCK := Lib.hid hpc
  have HPN := Lib.hid (PBlk.new w ⟨1, pid, (j : Int), ct, d⟩ (.slice A m c))
  have HBA := Lib.hid ((Below.refl w.heap.size w).alloc (Nat.le_refl _) (.cells (pcell ⟨1, pid, (j : Int), ct, d⟩ (.slice A m c)).toArray 56))
  have hj16 : j < 16 := by omega
  have hji : (j : Int) < 16 := by omega
  have HCT := Lib.hid hct
  have HS := Lib.hid hs
  have hwct : IntKind.i64.wrap ct = ct := by rw [IntKind.wrap_i64]; omega
  have c0 := HPN.out.c0
  have hbw : b < w.heap.size := h.lt
  have hbb : b < base := h.1
  clear h hr hs hct hpc
  go_enter Try.func66, Try.ntmps66
  go_wp2_with fail
  refine (HCK.out _).mono ?_
  rintro e w3 ⟨rfl, hb⟩
  have HP3 := Lib.hid (HPN.out.below hb (by simp))
  have HB3 := Lib.hid (show Below w.heap.size w w3 from HBA.out.trans (hb.mono (show w.heap.size ≤ _ by simp)))
  clear hb HBA HPN c0 HCK
  have HM3 := Lib.hid (HM.out.later HB3.out)
  have HR3 := Lib.hid (own_later HR.out HB3.out)
  have q1 := HP3.out.c1
  have c0 := HM3.out.c0
  have dne : (pid != pid) = false := by simp
  clear HM HR
  go_wp2_with fail
  go_quiet (fail)
  obtain ⟨w4, hw4⟩ : ∃ w4, w3.drewN nq = w4 := ⟨_, rfl⟩
  rw [hw4]
  have HP4 := Lib.hid (show PBlk w4 w.heap.size ⟨1, pid, (j : Int), ct, d⟩ (.slice A m c) by rw [← hw4]; exact HP3.out)
  have HB4 := Lib.hid (show Below w.heap.size w w4 by rw [← hw4]; exact below_drewN HB3.out nq)
  have HM4 := Lib.hid (show MB w4 b base pid cnt n qs nm by rw [← hw4]; exact HM3.out.later (below_drewN (Below.refl _ _) nq))
  have HR4 := Lib.hid (show w4.ownsRow base 5 1 (.slice A m c) m (bv d) by rw [← hw4]; exact own_drewN HR3.out nq)
  clear hw4 HP3 HB3 HM3 HR3 q1 c0
  have q2 := HP4.out.c2
  have q3 := HP4.out.c3
  have m1 := HM4.out.c1
  have m2 := HM4.out.c2
  have m3 := HM4.out.seen hj16
  rw [HS.out] at m3
  by_cases hn0 : n = 0
  · have d0 : decide (0 < n) = false := by simp [hn0]
    clear hn0
    go_wp2_with fail
    go_quiet (fail)
    obtain ⟨w5, hw5⟩ : ∃ w5, w4.drewN nq = w5 := ⟨_, rfl⟩
    rw [hw5]
    have HP5 := Lib.hid (show PBlk w5 w.heap.size ⟨1, pid, (j : Int), ct, d⟩ (.slice A m c) by rw [← hw5]; exact HP4.out)
    have HB5 := Lib.hid (show Below w.heap.size w w5 by rw [← hw5]; exact below_drewN HB4.out nq)
    have HM5 := Lib.hid (show MB w5 b base pid cnt n qs nm by rw [← hw5]; exact HM4.out.later (below_drewN (Below.refl _ _) nq))
    have HR5 := Lib.hid (show w5.ownsRow base 5 1 (.slice A m c) m (bv d) by rw [← hw5]; exact own_drewN HR4.out nq)
    clear hw5 HP4 HB4 HM4 HR4 q2 q3 m1 m2 m3 d0
    have hz5 : w.heap.size < w5.heap.size := HP5.out.lt
    have q2 := HP5.out.c2
    have q3 := HP5.out.c3
    have m1 := HM5.out.c1
    have m2 := HM5.out.c2
    have f1 := HM5.out.frozen 1
    have f2 := HM5.out.frozen 2
    have hne : ¬ b = w.heap.size := by omega
    have hne' : ¬ w.heap.size = b := by omega
    go_wp2_with fail
    have hw6a : w5.grownBy ((w5.setCell ⟨b, 1, none⟩ (.int .i64 ct)).setCell ⟨b, 2, none⟩ (.int .i64 ((n : Int) + 1))) (some b) := (grown_setCell w5 b 1 _).trans (grown_setCell _ b 2 _)
    have HG6 := Lib.hid hw6a
    have hm3 := (HM5.out.seen hj16)
    have hpc := HM5.out.piece hj16
    have hf3 := HM5.out.frozen (3 + j)
    have hf4 := HM5.out.frozen (19 + j)
    have s3 : ((w5.setCell ⟨b, 1, none⟩ (.int .i64 ct)).setCell ⟨b, 2, none⟩ (.int .i64 ((n : Int) + 1))).cell? ⟨b, 3 + j, none⟩ = some (.bool false) := by
      obtain ⟨_, vs, v1, v2, _⟩ := HM5.out
      have e1 := blk_set (i := 2) (blk_set (i := 1) v2 (.int .i64 ct)) (.int .i64 ((n : Int) + 1))
      rw [blk_cell e1]
      rw [blk_cell v2, HS.out] at hm3
      rw [← hm3]
      simp only [List.setIfInBounds_toArray, List.getElem?_toArray]
      rw [List.getElem?_set_ne (by omega), List.getElem?_set_ne (by omega)]
    have s4 : ∃ v, ((w5.setCell ⟨b, 1, none⟩ (.int .i64 ct)).setCell ⟨b, 2, none⟩ (.int .i64 ((n : Int) + 1))).cell? ⟨b, 19 + j, none⟩ = some v := by
      obtain ⟨v, hv⟩ := hpc
      obtain ⟨_, vs, v1, v2, _⟩ := HM5.out
      have e1 := blk_set (i := 2) (blk_set (i := 1) v2 (.int .i64 ct)) (.int .i64 ((n : Int) + 1))
      refine ⟨v, ?_⟩
      rw [blk_cell e1]
      rw [blk_cell v2] at hv
      rw [← hv]
      simp only [List.setIfInBounds_toArray, List.getElem?_toArray]
      rw [List.getElem?_set_ne (by omega), List.getElem?_set_ne (by omega)]
    obtain ⟨w6, hw6⟩ : ∃ w6, (w5.setCell ⟨b, 1, none⟩ (.int .i64 ct)).setCell ⟨b, 2, none⟩ (.int .i64 ((n : Int) + 1)) = w6 := ⟨_, rfl⟩
    have hbk6 : ∃ cs, w6.heap[b]? = some (.cells cs 53 (0, 0)) := by
      obtain ⟨_, vs, v1, v2, _⟩ := HM5.out
      rw [← hw6]
      exact ⟨_, blk_set (blk_set v2 _) _⟩
    rw [hw6] at HG6 s3 s4 ⊢
    have HW6 := Lib.hid hw6
    have HP6 := Lib.hid (HP5.out.grown HG6.out (by simp; omega))
    have q2 := HP6.out.c2
    obtain ⟨cs6, hcs6⟩ := hbk6
    have HCS6 := Lib.hid hcs6
    have f3 : w6.frozen? ⟨b, 3 + j, none⟩ = false := frozen_of_row _ _ _ _ _ hcs6
    obtain ⟨v4, s4⟩ := s4
    clear hw6 hw6a hm3 hpc hf3 hf4 m1 m2 f1 f2 q3 hcs6
    go_still_tail 6, (by kernel_rfl)
    change wpList _ _ _ _ _ (World.drew _)
    go_wp2_with fail
    obtain ⟨w7, hw7⟩ : ∃ w7, (w6.setCell ⟨b, 3 + j, none⟩ (.bool true)).drew = w7 := ⟨_, rfl⟩
    have HG57 := Lib.hid (show w5.grownBy w7 (some b) from HG6.out.trans ((grown_setCell w6 b (3 + j) _).trans (by rw [← hw7]; exact grown_ofb ((Below.refl _ _).drew) (some b))))
    have HP7 := Lib.hid (HP5.out.grown HG57.out (by simp; omega))
    have HR7 := Lib.hid (RB.of_own (HR5.out.kept HG57.out (far_own HR5.out hbb)))
    have HCS7 := Lib.hid (show w7.heap[b]? = some (.cells (cs6.setIfInBounds (3 + j) (.bool true)) 53 (0, 0)) by rw [← hw7]; exact blk_set (w := w6) HCS6.out _)
    have hz7 : w.heap.size < w7.heap.size := HP7.out.lt
    have s7 : w7.cell? ⟨b, 19 + j, none⟩ = some v4 := by
      rw [blk_cell HCS7.out]
      rw [blk_cell HCS6.out] at s4
      rw [← s4, Array.getElem?_setIfInBounds_ne (by omega)]
    rw [hw7]
    have HW7 := Lib.hid hw7
    clear hw7 q2 s3 s4 f3
    have q2 := HP7.out.c2
    have q4 := HP7.out.c4
    have hbz : b < w7.heap.size := by omega
    go_region_held3 (fun w' => w'.cell? ⟨w.heap.size, 2, none⟩ = some (.int .i64 (j : Int)) ∧ w'.cell? ⟨w.heap.size, 4, none⟩ = some (.slice A m c)) (go_keep) ((go_at_call 60; refine (copied_any A m c d w7.drew w7.heap.size (by exact HR7.out.drew) (by exact Nat.le_refl _) (by omega)).mono ?_; rintro e w8 ⟨g8, c8, rfl, ho8, hb8⟩; have hb8' := Below.trans ((Below.refl w7.heap.size w7).drew) hb8; have k2 := (hb8'.cell (p := ⟨w.heap.size, 2, none⟩) (by exact hz7)).trans q2; have k4 := (hb8'.cell (p := ⟨w.heap.size, 4, none⟩) (by exact hz7)).trans q4; have s8 := (hb8'.cell (p := ⟨b, 19 + j, none⟩) (by exact hbz)).trans s7; have f8 := frozen_of_row _ _ (19 + j) _ _ ((hb8'.block b hbz).trans HCS7.out); have HB8 := Lib.hid hb8'; have HO8 := Lib.hid ho8; clear ho8 hb8 hb8'))
    go_wp2_with fail
    go_ret
    have hg8 : w7.grownBy (w8.setCell ⟨b, 19 + j, none⟩ (.slice (some ⟨g8, 0, none⟩) m c8)) (some b) := (grown_ofb HB8.out (some b)).trans (grown_setCell w8 b (19 + j) _)
    have hgw : w5.grownBy (w8.setCell ⟨b, 19 + j, none⟩ (.slice (some ⟨g8, 0, none⟩) m c8)) (some b) := HG57.out.trans hg8
    refine ⟨rfl, MB.put (p := ⟨1, pid, (j : Int), ct, d⟩) (A := some ⟨g8, 0, none⟩) (k := m) (c := c8) HM5.out hj16 rfl HS.out ?_ (fun A' m' c' l' h' => h'.kept hgw (far_own h' hbb)) (fun cs hcs => ?_), ?_⟩
    · exact (own_base (show w8.ownsRow w7.heap.size 5 1 (.slice (some ⟨g8, 0, none⟩) m c8) m (bv d) from HO8.out) (by omega)).kept (grown_setCell w8 b (19 + j) _) (by
        right
        intro e
        have h1 := (HO8.out.lt g8 rfl).1
        have h2 : g8 = b := by simpa [Value.ownBlock] using e
        have h3 : w7.drew.heap.size = w7.heap.size := rfl
        omega)
    · have e6 : w6.heap[b]? = some (.cells ((cs.setIfInBounds 1 (.int .i64 ct)).setIfInBounds 2 (.int .i64 ((n : Int) + 1))) 53 (0, 0)) := by
        rw [← HW6.out]
        exact blk_set (blk_set hcs _) _
      have e7 := e6.symm.trans HCS6.out
      have e8 : (cs.setIfInBounds 1 (.int .i64 ct)).setIfInBounds 2 (.int .i64 ((n : Int) + 1)) = cs6 := by simpa using e7
      rw [e8]
      exact blk_set ((HB8.out.block b hbz).trans HCS7.out) _
    · exact (grown_ofb HB5.out (some b)).trans hgw
  · have hcc := HCT.out hn0
    have d0 : decide (0 < n) = true := by simp; omega
    have d1 : (ct != ct) = false := by simp
    rw [← hcc] at m1
    clear hn0 hcc
    go_wp2_with fail
    go_quiet (fail)
    obtain ⟨w5, hw5⟩ : ∃ w5, w4.drewN nq = w5 := ⟨_, rfl⟩
    rw [hw5]
    have HP5 := Lib.hid (show PBlk w5 w.heap.size ⟨1, pid, (j : Int), ct, d⟩ (.slice A m c) by rw [← hw5]; exact HP4.out)
    have HB5 := Lib.hid (show Below w.heap.size w w5 by rw [← hw5]; exact below_drewN HB4.out nq)
    have HM5 := Lib.hid (show MB w5 b base pid cnt n qs nm by rw [← hw5]; exact HM4.out.later (below_drewN (Below.refl _ _) nq))
    have HR5 := Lib.hid (show w5.ownsRow base 5 1 (.slice A m c) m (bv d) by rw [← hw5]; exact own_drewN HR4.out nq)
    clear hw5 HP4 HB4 HM4 HR4 q2 q3 m1 m2 m3 d0
    have hz5 : w.heap.size < w5.heap.size := HP5.out.lt
    have q2 := HP5.out.c2
    have q3 := HP5.out.c3
    have m1 := HM5.out.c1
    have m2 := HM5.out.c2
    have f1 := HM5.out.frozen 1
    have f2 := HM5.out.frozen 2
    have hne : ¬ b = w.heap.size := by omega
    have hne' : ¬ w.heap.size = b := by omega
    go_wp2_with fail
    have hw6a : w5.grownBy ((w5.setCell ⟨b, 1, none⟩ (.int .i64 ct)).setCell ⟨b, 2, none⟩ (.int .i64 ((n : Int) + 1))) (some b) := (grown_setCell w5 b 1 _).trans (grown_setCell _ b 2 _)
    have HG6 := Lib.hid hw6a
    have hm3 := (HM5.out.seen hj16)
    have hpc := HM5.out.piece hj16
    have hf3 := HM5.out.frozen (3 + j)
    have hf4 := HM5.out.frozen (19 + j)
    have s3 : ((w5.setCell ⟨b, 1, none⟩ (.int .i64 ct)).setCell ⟨b, 2, none⟩ (.int .i64 ((n : Int) + 1))).cell? ⟨b, 3 + j, none⟩ = some (.bool false) := by
      obtain ⟨_, vs, v1, v2, _⟩ := HM5.out
      have e1 := blk_set (i := 2) (blk_set (i := 1) v2 (.int .i64 ct)) (.int .i64 ((n : Int) + 1))
      rw [blk_cell e1]
      rw [blk_cell v2, HS.out] at hm3
      rw [← hm3]
      simp only [List.setIfInBounds_toArray, List.getElem?_toArray]
      rw [List.getElem?_set_ne (by omega), List.getElem?_set_ne (by omega)]
    have s4 : ∃ v, ((w5.setCell ⟨b, 1, none⟩ (.int .i64 ct)).setCell ⟨b, 2, none⟩ (.int .i64 ((n : Int) + 1))).cell? ⟨b, 19 + j, none⟩ = some v := by
      obtain ⟨v, hv⟩ := hpc
      obtain ⟨_, vs, v1, v2, _⟩ := HM5.out
      have e1 := blk_set (i := 2) (blk_set (i := 1) v2 (.int .i64 ct)) (.int .i64 ((n : Int) + 1))
      refine ⟨v, ?_⟩
      rw [blk_cell e1]
      rw [blk_cell v2] at hv
      rw [← hv]
      simp only [List.setIfInBounds_toArray, List.getElem?_toArray]
      rw [List.getElem?_set_ne (by omega), List.getElem?_set_ne (by omega)]
    obtain ⟨w6, hw6⟩ : ∃ w6, (w5.setCell ⟨b, 1, none⟩ (.int .i64 ct)).setCell ⟨b, 2, none⟩ (.int .i64 ((n : Int) + 1)) = w6 := ⟨_, rfl⟩
    have hbk6 : ∃ cs, w6.heap[b]? = some (.cells cs 53 (0, 0)) := by
      obtain ⟨_, vs, v1, v2, _⟩ := HM5.out
      rw [← hw6]
      exact ⟨_, blk_set (blk_set v2 _) _⟩
    rw [hw6] at HG6 s3 s4 ⊢
    have HW6 := Lib.hid hw6
    have HP6 := Lib.hid (HP5.out.grown HG6.out (by simp; omega))
    have q2 := HP6.out.c2
    obtain ⟨cs6, hcs6⟩ := hbk6
    have HCS6 := Lib.hid hcs6
    have f3 : w6.frozen? ⟨b, 3 + j, none⟩ = false := frozen_of_row _ _ _ _ _ hcs6
    obtain ⟨v4, s4⟩ := s4
    clear hw6 hw6a hm3 hpc hf3 hf4 m1 m2 f1 f2 q3 hcs6
    go_still_tail 6, (by kernel_rfl)
    change wpList _ _ _ _ _ (World.drew _)
    go_wp2_with fail
    obtain ⟨w7, hw7⟩ : ∃ w7, (w6.setCell ⟨b, 3 + j, none⟩ (.bool true)).drew = w7 := ⟨_, rfl⟩
    have HG57 := Lib.hid (show w5.grownBy w7 (some b) from HG6.out.trans ((grown_setCell w6 b (3 + j) _).trans (by rw [← hw7]; exact grown_ofb ((Below.refl _ _).drew) (some b))))
    have HP7 := Lib.hid (HP5.out.grown HG57.out (by simp; omega))
    have HR7 := Lib.hid (RB.of_own (HR5.out.kept HG57.out (far_own HR5.out hbb)))
    have HCS7 := Lib.hid (show w7.heap[b]? = some (.cells (cs6.setIfInBounds (3 + j) (.bool true)) 53 (0, 0)) by rw [← hw7]; exact blk_set (w := w6) HCS6.out _)
    have hz7 : w.heap.size < w7.heap.size := HP7.out.lt
    have s7 : w7.cell? ⟨b, 19 + j, none⟩ = some v4 := by
      rw [blk_cell HCS7.out]
      rw [blk_cell HCS6.out] at s4
      rw [← s4, Array.getElem?_setIfInBounds_ne (by omega)]
    rw [hw7]
    have HW7 := Lib.hid hw7
    clear hw7 q2 s3 s4 f3
    have q2 := HP7.out.c2
    have q4 := HP7.out.c4
    have hbz : b < w7.heap.size := by omega
    go_region_held3 (fun w' => w'.cell? ⟨w.heap.size, 2, none⟩ = some (.int .i64 (j : Int)) ∧ w'.cell? ⟨w.heap.size, 4, none⟩ = some (.slice A m c)) (go_keep) ((go_at_call 60; refine (copied_any A m c d w7.drew w7.heap.size (by exact HR7.out.drew) (by exact Nat.le_refl _) (by omega)).mono ?_; rintro e w8 ⟨g8, c8, rfl, ho8, hb8⟩; have hb8' := Below.trans ((Below.refl w7.heap.size w7).drew) hb8; have k2 := (hb8'.cell (p := ⟨w.heap.size, 2, none⟩) (by exact hz7)).trans q2; have k4 := (hb8'.cell (p := ⟨w.heap.size, 4, none⟩) (by exact hz7)).trans q4; have s8 := (hb8'.cell (p := ⟨b, 19 + j, none⟩) (by exact hbz)).trans s7; have f8 := frozen_of_row _ _ (19 + j) _ _ ((hb8'.block b hbz).trans HCS7.out); have HB8 := Lib.hid hb8'; have HO8 := Lib.hid ho8; clear ho8 hb8 hb8'))
    go_wp2_with fail
    go_ret
    have hg8 : w7.grownBy (w8.setCell ⟨b, 19 + j, none⟩ (.slice (some ⟨g8, 0, none⟩) m c8)) (some b) := (grown_ofb HB8.out (some b)).trans (grown_setCell w8 b (19 + j) _)
    have hgw : w5.grownBy (w8.setCell ⟨b, 19 + j, none⟩ (.slice (some ⟨g8, 0, none⟩) m c8)) (some b) := HG57.out.trans hg8
    refine ⟨rfl, MB.put (p := ⟨1, pid, (j : Int), ct, d⟩) (A := some ⟨g8, 0, none⟩) (k := m) (c := c8) HM5.out hj16 rfl HS.out ?_ (fun A' m' c' l' h' => h'.kept hgw (far_own h' hbb)) (fun cs hcs => ?_), ?_⟩
    · exact (own_base (show w8.ownsRow w7.heap.size 5 1 (.slice (some ⟨g8, 0, none⟩) m c8) m (bv d) from HO8.out) (by omega)).kept (grown_setCell w8 b (19 + j) _) (by
        right
        intro e
        have h1 := (HO8.out.lt g8 rfl).1
        have h2 : g8 = b := by simpa [Value.ownBlock] using e
        have h3 : w7.drew.heap.size = w7.heap.size := rfl
        omega)
    · have e6 : w6.heap[b]? = some (.cells ((cs.setIfInBounds 1 (.int .i64 ct)).setIfInBounds 2 (.int .i64 ((n : Int) + 1))) 53 (0, 0)) := by
        rw [← HW6.out]
        exact blk_set (blk_set hcs _) _
      have e7 := e6.symm.trans HCS6.out
      have e8 : (cs.setIfInBounds 1 (.int .i64 ct)).setIfInBounds 2 (.int .i64 ((n : Int) + 1)) = cs6 := by simpa using e7
      rw [e8]
      exact blk_set ((HB8.out.block b hbz).trans HCS7.out) _
    · exact (grown_ofb HB5.out (some b)).trans hgw

set_option maxHeartbeats 1000000 in
theorem Take1_any (b base : Nat) (id cnt : Int) (n : Nat) (qs : List Pt) (nm : Value) (p : Pt) (A : Option Addr) (m c : Nat) (g : Nat) (w : World) (h : MB w b base id cnt n qs nm) (hr : w.ownsRow base 5 1 (.slice A m c) m (bv p.d)) (hg : PBlk w g p (.slice A m c)) (hn : n ≤ 1000) (hbase : base ≤ w.heap.size)
    (hp : p.OK) (hchk : p.chk = 0) (hk : p.k = 1) (hid : p.id = id) (hct : n ≠ 0 → p.ct = cnt) (hs : hasIx qs p.ix = false) :
    Calls Try.prog 28 #[.pointer (some ⟨b, 0, none⟩), .slice (some ⟨g, 0, none⟩) 1 1] w
      (fun e w' => e = .returned (.int .i64 0) ∧ MB w' b base id p.ct (n + 1) (qs ++ [p]) nm ∧ w.grownBy w' (some b)) := by
  have HT := Lib.hid (fun w (h : MB w b base id cnt n qs nm) (hr : w.ownsRow base 5 1 (.slice A m c) m (bv p.d)) hbase => takeOne_any b base id cnt n qs nm p A m c w h hr hn hbase hp hchk hk hid hct hs)
  have HM := Lib.hid h
  have HR := Lib.hid hr
  have HG := Lib.hid hg
  have a0 := hg.c0
  have a1 := hg.c1
  have a2 := hg.c2
  have a3 := hg.c3
  have a4 := hg.c4
  clear h hr hg hp hchk hk hid hct hs
  generalize p.d = pd at *
  go_enter Try.func28, Try.ntmps28
  go_wp2_with fail
  go_loopw [5, 11] (fun fv i wr => (i = .int .i64 0 ∧ fv = .int .i64 0 ∧ wr = w) ∨ (i = .int .i64 1 ∧ fv = .int .i64 0 ∧ MB wr b base id p.ct (n + 1) (qs ++ [p]) nm ∧ w.grownBy wr (some b))) (fun _ i _ => 1 - (intOf i).toNat)
  case atStart => exact .inl ⟨rfl, rfl, rfl⟩
  case round =>
    rcases hrel with ⟨rfl, rfl, rfl⟩ | ⟨rfl, rfl, hm, hgr⟩
    · go_wp2_with fail
      have hal := (Below.refl wr.heap.size wr).alloc (Nat.le_refl _) (.cells #[.int .u8 p.k, .int .u64 p.id, .int .i64 p.ix, .int .i64 p.ct, .slice A m c] 56)
      have HAL := Lib.hid hal
      clear hal
      refine (HT.out _ (HM.out.later HAL.out) (own_later HR.out HAL.out) (by simp; omega)).mono ?_
      rintro e w2 ⟨rfl, hm2, hg2⟩
      have HM2 := Lib.hid hm2
      have HG2 := Lib.hid ((grown_ofb HAL.out (some b)).trans hg2)
      clear hm2 hg2 HAL
      go_wp2_with fail
      exact ⟨.inr ⟨by go_num, rfl, HM2.out, HG2.out⟩, by simp [intOf]⟩
    · have HM2 := Lib.hid hm
      have HG2 := Lib.hid hgr
      clear hm hgr
      go_wp2_with fail
      go_ret
      exact ⟨rfl, HM2.out, HG2.out⟩

/-- the bytes of the parts with indexes below i -/
def whB (qs : List Pt) (i : Nat) : List UInt8 := ((List.range i).map fun (j : Nat) => grp qs (j : Int)).flatten
set_option maxHeartbeats 1000000 in
theorem Bytes_any (b base : Nat) (id : Int) (n : Nat) (qs : List Pt) (nm : Value) (w : World) (h : MB w b base id (n : Int) n qs nm) (hn : 0 < n) (hn2 : n ≤ 16) (hl : (whB qs n).length ≤ 100000) :
    Calls Try.prog 31 #[.pointer (some ⟨b, 0, none⟩)] w (RetBE w (whB qs n) 0) := by
  have HMS := Lib.hid (Missing_any b base id (n : Int) n qs nm w h (by omega) ⟨by omega, by omega⟩)
  rw [if_neg (by omega), Int.sub_self] at HMS
  have HM := Lib.hid h
  have c1 := h.c1
  have hbb := h.lt
  have hni : (n : Int) ≤ 16 := by omega
  have HJ := Lib.hid (show ∀ w', (∃ d, w' = w.drewN d) → RBB w' w'.heap.size (some ⟨b, 19, none⟩) n ((List.range n).map fun (j : Nat) => grp qs (j : Int)) from by
    rintro w' ⟨d, rfl⟩
    obtain ⟨_, vs, h1, h2, h3⟩ := h.later (below_drewN (Below.refl _ _) d)
    refine ⟨by simp, vs.take n, ⟨by rw [List.length_take]; omega, .inr ⟨_, rfl, (Array.getElem?_eq_some_iff.1 h2).1, fun j hj => ?_⟩⟩, fun i hi => ?_⟩
    · rw [List.length_take] at hj
      rw [add_mk, blk_cell h2, List.getElem?_toArray, List.getElem?_append_right (by simp; omega), List.getElem?_append_right (by rw [length_seenV]; simp; omega), length_seenV,
        show 19 + j - [Value.int .u64 id, .int .i64 (n : Int), .int .i64 (n : Int)].length - 16 = j by simp; omega, List.getElem?_append_left (by omega), List.getElem?_take, if_pos (by omega)]
    · obtain ⟨Ai, ni, ci, h4, h5⟩ := h3 i (by omega)
      refine ⟨Ai, ni, ci, by rw [List.getElem?_take, if_pos hi]; exact h4, own_cap h5, ?_⟩
      have : lat ((List.range n).map fun (j : Nat) => grp qs (j : Int)) i = grp qs (i : Int) := by simp [lat, hi]
      rw [this]
      exact RB.of_own h5)
  have HW := Lib.hid (show whB qs n = ((List.range n).map fun (j : Nat) => grp qs (j : Int)).flatten from rfl)
  clear h
  generalize (List.range n).map (fun (j : Nat) => grp qs (j : Int)) = ls at *
  generalize whB qs n = wh at *
  go_enter Try.func31, Try.ntmps31
  go_wp2_with fail
  refine HMS.out.mono ?_
  rintro e w1 ⟨rfl, d1, rfl⟩
  have HJ1 := Lib.hid (HJ.out ((w.drewN d1).drew) ⟨d1 + 1, rfl⟩)
  have HB1 := Lib.hid (show Below w.heap.size w (w.drewN d1) from below_drewN (Below.refl _ _) d1)
  have c1' : (w.drewN d1).cell? ⟨b, 1, none⟩ = some (.int .i64 (n : Int)) := c1
  have hbb' : b < (w.drewN d1).heap.size := hbb
  have hzz : w.heap.size = (w.drewN d1).heap.size := rfl
  clear HJ HMS HM c1
  generalize w.drewN d1 = w1 at *
  go_wp2_with fail
  go_region_held3 (fun w' => w'.cell? ⟨b, 1, none⟩ = some (.int .i64 (n : Int))) (go_keep) ((go_at_call 9; refine (Join_any _ n 16 ls w1.drew w1.heap.size HJ1.out (by exact Nat.le_refl _) (by omega) (by rw [← HW.out]; omega)).mono ?_; rintro e w2 ⟨g2, n2, c2, rfl, hl2, ho2, hb2⟩; have hb2' := Below.trans ((Below.refl w1.heap.size w1).drew) hb2; have k1 := (hb2'.cell (p := ⟨b, 1, none⟩) (by exact hbb')).trans c1'; have HB2 := Lib.hid hb2'; have HO2 := Lib.hid ho2; have HL2 := Lib.hid hl2; clear ho2 hb2 hb2' hl2))
  go_wp2_with fail
  go_ret2
  refine ⟨_, n2, c2, rfl, ?_, ?_, ?_⟩
  · rw [HW.out]; exact HL2.out
  · rw [HW.out]
    have h3 : w1.drew.heap.size = w1.heap.size := rfl
    exact own_base HO2.out (by omega)
  · exact HB1.out.trans (HB2.out.mono (by omega))
end Go.Proofs.Ytobmopjfbgkfbaa
