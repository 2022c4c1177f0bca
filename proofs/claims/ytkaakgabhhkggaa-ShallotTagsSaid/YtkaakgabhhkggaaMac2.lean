/-
  Contracts of mac.block and mac.first. Conditions: the sizes that slices can have.
-/
import Derived.Test.YtkaakgabhhkggaaMac1
namespace Go.Proofs.Ytkaakgabhhkggaa
open Go Go.RowKit Go.Sh

theorem bv_zs (k : Nat) : bv (zs k) = List.replicate k (.int .u8 0) := by simp [bv, zs]
theorem rbb_one {w : World} {B n c : Nat} {A : Option Addr} {l : List UInt8} (h : RB w B A n l) (hc : n ≤ c) (hB : B ≤ w.heap.size) (t : TypeId) : RBB (w.alloc (.cells #[.slice A n c] t)) (w.heap.size + 1) (some ⟨w.heap.size, 0, none⟩) 1 [l] := by
  refine ⟨rfl, [.slice A n c], Reads.lit w t [.slice A n c] 1 1 rfl _ rfl, fun i hi => ?_⟩
  obtain rfl : i = 0 := by omega
  exact ⟨A, n, c, rfl, hc, (h.alloc hB _).more (by omega)⟩
set_option maxRecDepth 100000 in
theorem zero64b : ∀ w : World, (zeroValue 37).run Try.prog w = .ok (.agg (bv (zs 64)).toArray) w := fun _ => by kernel_rfl
theorem sto32_new (W : World) (l : List UInt8) (hl : l.length = 32) (X : Array Value) (hX : (bv l).toArray = X) : (storeCells ⟨W.heap.size, 0, none⟩ X.toList).run Try.prog (W.alloc (.cells (bv (zs 32)).toArray 29)) = .ok () (W.alloc (.cells X 29)) := by
  subst hX
  exact run_cells_new W _ _ _ (by rw [List.size_toArray, List.size_toArray, length_bv, length_bv, hl]; rfl) (bv_one l)
theorem sto64_at (W : World) (g : Nat) (l r : List UInt8) (h : RowB W 37 g l) (hl : l.length = 64) (hr : r.length = 64) (X : Array Value) (hX : (bv r).toArray = X) : (storeCells ⟨g, 0, none⟩ X.toList).run Try.prog W = .ok () (W.setRow g X) := by
  subst hX
  exact h.store (r := r) (by rw [hl, hr])

set_option maxRecDepth 100000 in
set_option maxHeartbeats 2000000 in
theorem block_any (A : Option Addr) (n c : Nat) (key : List UInt8) (w : World) (B : Nat) (hk : RB w B A n key) (hB : B ≤ w.heap.size) (hn : n ≤ 140737488355328) (hc : n ≤ c) :
    Calls Try.prog 28 #[.slice A n c] w (fun e w' => e = .returned (.agg (bv (mblk key)).toArray) ∧ Below w.heap.size w w') := by
  have HKL := Lib.hid hk.len
  have hz := zero64b
  have hzs : (bv (zs 64)).toArray.size = 64 := rfl
  have hb1 := (Below.refl w.heap.size w).alloc (Nat.le_refl _) (.cells (bv (zs 64)).toArray 37)
  have hs1 : (w.alloc (.cells (bv (zs 64)).toArray 37)).heap.size = w.heap.size + 1 := by simp
  have hb2 := hb1.alloc (by rw [hs1]; omega) (.cells (bv (zs 64)).toArray 37)
  have hs2 : ((w.alloc (.cells (bv (zs 64)).toArray 37)).alloc (.cells (bv (zs 64)).toArray 37)).heap.size = w.heap.size + 2 := by simp
  have hn1 := RowB.new (w.alloc (.cells (bv (zs 64)).toArray 37)) 37 (zs 64)
  rw [hs1] at hn1
  have HR1 := Lib.hid hn1
  have HR0 := Lib.hid ((RowB.new w 37 (zs 64)).below ((Below.refl (w.heap.size + 1) _).alloc (by rw [hs1]; exact Nat.le_refl _) (.cells (bv (zs 64)).toArray 37)) (Nat.lt_succ_self _))
  have HB2 := Lib.hid hb2
  have HK2 := Lib.hid (hk.below (hb2.mono hB))
  have HI := Lib.hid (show (Try.prog.info? 37).map (·.size) = some (bv (mblk key)).length by rw [length_bv, length_mblk]; exact info64b)
  have HST := Lib.hid (fun (W : World) (g : Nat) (h : RowB W 37 g (zs 64)) => sto64_at W g (zs 64) (mblk key) h rfl (length_mblk key))
  have hms : (bv (mblk key)).toArray.size = 64 := by rw [List.size_toArray, length_bv, length_mblk]
  clear hb1 hs1 hb2 hn1 hk
  generalize hzc : (bv (zs 64)).toArray = zc at *
  have hze : ¬ zc = #[] := by intro h; rw [h] at hzs; cases hzs
  obtain ⟨M, hM⟩ : ∃ M, (bv (mblk key)).toArray = M := ⟨_, rfl⟩
  have HM := Lib.hid hM
  rw [hM] at hms ⊢
  have hme : ¬ M = #[] := by intro h; rw [h] at hms; cases hms
  clear hM hzc
  by_cases hbig : 64 < n
  · have i1 : (64 : Int) < (n : Int) := by omega
    have HMB := Lib.hid (show mblk key = sumB key ++ zs 32 by unfold mblk; rw [if_pos (by rw [HKL.out]; exact hbig)])
    have hz32 := zero32b
    have hz32s : (bv (zs 32)).toArray.size = 32 := rfl
    have HS32 := Lib.hid sto32_new
    generalize hzd : (bv (zs 32)).toArray = zd at *
    have hzde : ¬ zd = #[] := by intro h; rw [h] at hz32s; cases hz32s
    clear hzd
    go_enter Try.func28, Try.ntmps28
    go_wp2_with fail
    generalize (w.alloc (.cells zc 37)).alloc (.cells zc 37) = w2 at *
    generalize hg : w.heap.size = g at *
    have HG := Lib.hid hg
    clear hg
    have hr3 := rbb_one HK2.out hc (show B ≤ w2.heap.size by omega) 22
    have hb3 := (Below.refl w2.heap.size w2).alloc (Nat.le_refl _) (.cells #[.slice A n c] 22)
    have hs3 : (w2.alloc (.cells #[.slice A n c] 22)).heap.size = g + 3 := by simp [hs2]
    rw [hs2] at hr3 hb3
    have HR3 := Lib.hid hr3
    have HB3 := Lib.hid (HB2.out.trans (hb3.mono (by omega)))
    have HA1 := Lib.hid (HR1.out.below hb3 (by omega))
    have HA0 := Lib.hid (HR0.out.below hb3 (by omega))
    clear hr3 hb3 HB2 HR1 HR0
    generalize w2.alloc (.cells #[.slice A n c] 22) = w3 at *
    refine (Sum_any _ 1 1 [key] w3 _ HR3.out (by omega) (by simp only [List.flatten_cons, List.flatten_nil, List.append_nil]; rw [HKL.out]; omega) (by decide)).mono ?_
    rintro e w4 ⟨rfl, hb⟩
    rw [show [key].flatten = key by simp]
    have hz4 := hb.size
    have hxs : (bv (sumB key)).toArray.size = 32 := by rw [List.size_toArray, length_bv, length_sumB]
    have hn5 := RowB.new w4 29 (sumB key)
    obtain ⟨Z, hZ⟩ : ∃ Z, (bv (sumB key)).toArray = Z := ⟨_, rfl⟩
    have hst := HS32.out w4 (sumB key) (length_sumB key) Z hZ
    rw [hZ] at hxs hn5 ⊢
    have hZe : ¬ Z = #[] := by intro h; rw [h] at hxs; cases hxs
    have hb5 := (Below.refl w4.heap.size w4).alloc (Nat.le_refl _) (.cells Z 29)
    have HB5 := Lib.hid ((HB3.out.trans (hb.mono (by omega))).trans (hb5.mono (by omega)))
    have HA1' := Lib.hid ((HA1.out.below hb (by omega)).below hb5 (by omega))
    have HA0' := Lib.hid ((HA0.out.below hb (by omega)).below hb5 (by omega))
    have HN5 := Lib.hid hn5
    have hz5 : (w4.alloc (.cells Z 29)).heap.size = w4.heap.size + 1 := by simp
    clear hZ hn5 hb hb5 HB3 HA1 HA0 HR3
    go_wp2_with fail
    clear hst hZe hxs
    generalize w4.alloc (.cells Z 29) = w5 at *
    generalize w4.heap.size = g5 at *
    have HSRC := Lib.hid (show ∀ j v, (bv (sumB key))[j]? = some v → w5.drew.cell? (Addr.add ⟨g5, 0, none⟩ j) = some v from fun j v hv => by
      have h := (rb_row HN5.out).2
      rcases h with h | ⟨ad, e, _, h⟩
      · rw [h] at hv; simp at hv
      · injection e with e
        subst e
        exact h.get hv)
    go_region_held3 (fun w' => True) (trivial) (first | (refine step_copy_splice (by rfl) (.tmp 11) (.tmp 12) 22 22 (by rfl) 5 Try.underlying22 (by kernel_rfl) (some ⟨g + 1, 0, none⟩) (some ⟨g5, 0, none⟩) 64 64 32 32 (by rfl) (by rfl) (g + 1) 0 (bv (zs 64)) 37 (by exact HA1'.out) (bv (sumB key)) (by rw [length_bv, length_sumB]; rfl) (fun _ => ⟨rfl, _, rfl, HSRC.out⟩) (by rw [length_bv, length_sumB, length_bv]; decide) (bv_one _) (g + 1) w5 (by exact (Below.refl _ _).drew) (Nat.le_refl _) ?_; intro w6 hg6 hb6))
    have HA1z := Lib.hid (show RowB w6 37 (g + 1) (mblk key) by
      have h := hg6.out
      unfold RowB
      have e : splice (bv (zs 64)) 0 (bv (sumB key)) = bv (sumB key ++ zs 32) := by
        unfold splice
        rw [length_bv, length_sumB]
        simp [bv, zs]
      rw [h, HMB.out, e])
    have HA0z := Lib.hid (HA0'.out.below hb6 (by omega))
    have HBz := Lib.hid (HB5.out.trans (hb6.mono (by omega)))
    clear hg6 hb6 HSRC HA1' HA0' HB5
    have hst := HST.out w6 g HA0z.out M HM.out
    have HF2 := Lib.hid (show (loadVar 37 ⟨g, 0, none⟩).run Try.prog (w6.setRow g M) = .ok (.agg M) (w6.setRow g M) by
      have h := (HA0z.out.setRow (r := mblk key)).load64 (length_mblk key)
      rw [HM.out] at h
      exact h)
    have HRG := Lib.hid (blk_range HA1z.out)
    go_wp2_with (refine wl_load_mid (by rfl) 37 (.tmp 3) rfl (g + 1) 0 rfl (bv (mblk key)) _ HRG.out Try.underlying37 rfl HI.out ?_; rw [HM.out])
    (try simp only [Exit.inBlock, Exit.then])
    refine bodyPost_ret (v := .agg M) (results_cellW rfl _ _ _ ⟨g, 0, none⟩ _ rfl HF2.out) rfl ?_
    exact ⟨rfl, by rw [HG.out]; exact below_setRow HBz.out (Nat.le_refl _) M⟩
  · have i1 : ¬ (64 : Int) < (n : Int) := by omega
    have HMB := Lib.hid (show mblk key = key ++ zs (64 - n) by unfold mblk; rw [if_neg (by rw [HKL.out]; exact hbig), HKL.out])
    go_enter Try.func28, Try.ntmps28
    go_wp2_with (refine wl_copyBlk TB rfl (.tmp 14) (.tmp 15) rfl (w.heap.size + 1) 0 64 64 rfl A n c rfl (bv (zs 64)) 37 HR1.out n (by show n = min n 64; omega) (by rw [length_bv, length_zs]; omega) _ (bv key) HK2.out (bv_one key) ?_)
    intro w6 hb6 hg6 hz6
    generalize (w.alloc (.cells zc 37)).alloc (.cells zc 37) = w2 at *
    generalize hg : w.heap.size = g at *
    have HG := Lib.hid hg
    clear hg
    have HA1z := Lib.hid (show RowB w6 37 (g + 1) (mblk key) by
      unfold RowB
      have e : List.take n (bv key) ++ List.drop n (bv (zs 64)) = bv (key ++ zs (64 - n)) := by
        rw [List.take_of_length_le (by rw [length_bv, HKL.out]; exact Nat.le_refl _), bv_zs, List.drop_replicate, ← bv_zs]
        simp [bv]
      first | rw [hb6, HMB.out, e] | (simp only [List.take_zero, List.nil_append, Nat.zero_add] at hb6; rw [hb6, HMB.out, e]))
    have HA0z := Lib.hid (HR0.out.grown hg6 (by intro h; injection h with h; omega))
    have HBz := Lib.hid (HB2.out.grown hg6 (by omega) (by intro x hx; injection hx with hx; omega))
    clear hb6 hg6 HR1 HR0 HB2
    have hst := HST.out w6 g HA0z.out M HM.out
    have HF2 := Lib.hid (show (loadVar 37 ⟨g, 0, none⟩).run Try.prog (w6.setRow g M) = .ok (.agg M) (w6.setRow g M) by
      have h := (HA0z.out.setRow (r := mblk key)).load64 (length_mblk key)
      rw [HM.out] at h
      exact h)
    have HRG := Lib.hid (blk_range HA1z.out)
    go_wp2_with (refine wl_load_mid (by rfl) 37 (.tmp 3) rfl (g + 1) 0 rfl (bv (mblk key)) _ HRG.out Try.underlying37 rfl HI.out ?_; rw [HM.out])
    (try simp only [Exit.inBlock, Exit.then])
    refine bodyPost_ret (v := .agg M) (results_cellW rfl _ _ _ ⟨g, 0, none⟩ _ rfl HF2.out) rfl ?_
    exact ⟨rfl, by rw [HG.out]; exact below_setRow HBz.out (Nat.le_refl _) M⟩

theorem own_blk1 {w : World} {base e g n : Nat} {xs : List Value} (h : w.ownsRow base e 1 (.slice (some ⟨g, 0, none⟩) n n) n xs) : w.heap[g]? = some (.cells xs.toArray e (0, 0)) := by
  rcases h.2 with ⟨h', _⟩ | ⟨g', cap, cur, h', _, hg, _, _, hs, ht⟩
  · cases h'
  · injection h' with h1 _ h2
    injection h1 with h1
    injection h1 with h1
    subst h1 h2
    rw [hg, ← ht, Nat.mul_one, List.take_of_length_le (by rw [Array.length_toList]; omega), Array.toArray_toList]
/-- an owned row whose block has turned -/
theorem own_of_blk {w w' : World} {base e g n : Nat} {xs ys : List Value} (h : w.ownsRow base e 1 (.slice (some ⟨g, 0, none⟩) n n) n xs) (hb : w'.heap[g]? = some (.cells ys.toArray e (0, 0))) (hl : ys.length = n) : w'.ownsRow base e 1 (.slice (some ⟨g, 0, none⟩) n n) n ys := by
  rcases h.2 with ⟨hv, _⟩ | ⟨g', cap, cur, hv, hbg, hg, hnc, hcm, hcs, htake⟩
  · cases hv
  · injection hv with ha _ hcap
    injection ha with ha
    injection ha with ha
    subst ha hcap
    exact ⟨by rw [hl]; omega, .inr ⟨g, n, _, rfl, hbg, hb, Nat.le_refl _, hcm, by simp [hl], by rw [Nat.mul_one, List.take_of_length_le (by simp [hl])]⟩⟩
set_option maxRecDepth 100000 in
set_option maxHeartbeats 1000000 in
theorem first_any (l : List UInt8) (w : World) (hl : l.length = 32) :
    Calls Try.prog 26 #[.agg (bv l).toArray] w (fun e w' => ∃ g, e = .returned (.slice (some ⟨g, 0, none⟩) 16 16) ∧ w'.ownsRow w.heap.size 5 1 (.slice (some ⟨g, 0, none⟩) 16 16) 16 (bv (l.take 16)) ∧ Below w.heap.size w w') := by
  have HN := Lib.hid (RowB.new w 29 l)
  have HB1 := Lib.hid ((Below.refl w.heap.size w).alloc (Nat.le_refl _) (.cells (bv l).toArray 29))
  have hks : (bv l).toArray.size = 32 := by rw [List.size_toArray, length_bv, hl]
  have hz1 : (w.alloc (.cells (bv l).toArray 29)).heap.size = w.heap.size + 1 := by simp
  obtain ⟨X, hX⟩ : ∃ X, (bv l).toArray = X := ⟨_, rfl⟩
  rw [hX] at HN HB1 hks hz1 ⊢
  have hxe : ¬ X = #[] := by intro h; rw [h] at hks; cases hks
  have HL := Lib.hid hl
  clear hX hl
  go_enter Try.func26, Try.ntmps26
  go_wp2_with (at_make; refine wl_makeB TB rfl (.const (.int .i64 16)) (.const (.int .i64 16)) rfl .i64 .i64 _ _ rfl rfl 16 ?_ ?_ ?_ w.heap.size ?_ ?_)
  · rfl
  · rfl
  · decide
  · rw [hz1]; omega
  intro w2 hown hg _
  have hbg : Below (w.alloc (.cells X 29)).heap.size (w.alloc (.cells X 29)) w2 := (Below.refl _ _).grown hg (Nat.le_refl _) (by simp)
  have HO := Lib.hid hown
  have HB2 := Lib.hid (HB1.out.trans (hbg.mono (by rw [hz1]; omega)))
  have HN2 := Lib.hid (HN.out.below hbg (by rw [hz1]; omega))
  clear hown hg hbg HN
  generalize w.alloc (.cells X 29) = w1 at *
  have hsrc : RB w2 (w.heap.size + 1) (some ⟨w.heap.size, 0, none⟩) 32 l := by
    have h := rb_row HN2.out
    rw [HL.out] at h
    exact h
  have HSRC := Lib.hid hsrc
  clear hsrc
  go_wp2_with (refine wl_copyBlk TB rfl (.tmp 5) (.tmp 6) rfl (w.heap.size + 1) 0 16 16 rfl (some ⟨w.heap.size, 0, none⟩) 32 32 rfl (bv (zs 16)) 5 (own_blk1 HO.out) 16 rfl (by rw [length_bv, length_zs]; decide) _ (bv l) HSRC.out (bv_one l) ?_)
  intro w3 hb3 hg3 hz3
  have HF := Lib.hid (show w3.ownsRow w.heap.size 5 1 (.slice (some ⟨w.heap.size + 1, 0, none⟩) 16 16) 16 (bv (l.take 16)) from own_of_blk HO.out (by
    rw [hb3]
    congr 2
    simp [bv, zs, List.map_take]) (by rw [length_bv, List.length_take, HL.out]; rfl))
  have HB3 := Lib.hid (HB2.out.grown hg3 HB2.out.size (by intro x hx; injection hx with hx; omega))
  clear hb3 hg3
  go_wp2_with fail
  go_ret
  exact ⟨_, rfl, HF.out, HB3.out⟩
end Go.Proofs.Ytkaakgabhhkggaa
