/-
  Contract of Tagger.Sum. Conditions: a tagger lies at the address; the sizes that slices can have.
-/
import Derived.Test.YtkaakgabhhkggaaMac3
namespace Go.Proofs.Ytkaakgabhhkggaa
open Go Go.RowKit Go.Sh

theorem rbb_two {w : World} {B n c n' c' : Nat} {A A' : Option Addr} {l l' : List UInt8} (h : RB w B A n l) (h' : RB w B A' n' l') (hc : n ≤ c) (hc' : n' ≤ c') (hB : B ≤ w.heap.size) (t : TypeId) : RBB (w.alloc (.cells #[.slice A n c, .slice A' n' c'] t)) (w.heap.size + 1) (some ⟨w.heap.size, 0, none⟩) 2 [l, l'] := by
  refine ⟨rfl, [.slice A n c, .slice A' n' c'], Reads.lit w t [.slice A n c, .slice A' n' c'] 2 1 rfl _ rfl, fun i hi => ?_⟩
  have hi2 : i = 0 ∨ i = 1 := by omega
  rcases hi2 with rfl | rfl
  · exact ⟨A, n, c, rfl, hc, (h.alloc hB _).more (by omega)⟩
  · exact ⟨A', n', c', rfl, hc', (h'.alloc hB _).more (by omega)⟩

set_option maxHeartbeats 2000000 in
set_option maxRecDepth 100000 in
theorem TaggerSum_any (p : Nat) (k l : List UInt8) (w : World) (hH : HashAt w 41 p (bv k) l) (hk : k.length = 64) (hn : l.length ≤ 576460752303423488) :
    Calls Try.prog 31 #[.pointer (some ⟨p, 0, none⟩)] w (fun e w' => e = .returned (.agg (bv (sumB (maskd k 92 ++ sumB l))).toArray) ∧ Below w.heap.size w w') := by
  have hp := hH.lt
  have hzb := zero32b
  have hzbs : (bv (zs 32)).toArray.size = 32 := rfl
  have HS32 := Lib.hid sto32_new
  have hb1 := (Below.refl w.heap.size w).alloc (Nat.le_refl _) (.cells (bv (zs 32)).toArray 29)
  have hz1 : (w.alloc (.cells (bv (zs 32)).toArray 29)).heap.size = w.heap.size + 1 := by simp
  have HB1 := Lib.hid hb1
  have HH1 := Lib.hid (hH.below hb1 hp)
  have HR1 := Lib.hid (RowB.new w 29 (zs 32))
  have HMK := Lib.hid (fun W => masked_any k 92 W hk)
  have HI := Lib.hid (show (Try.prog.info? 37).map (·.size) = some (bv k).length by rw [length_bv, hk]; exact info64b)
  have HML := Lib.hid (show (maskd k 92).length = 64 from length_maskd _ _)
  clear hb1 hH
  generalize hzc : (bv (zs 32)).toArray = zc at *
  have HZC := Lib.hid hzc
  have hze : ¬ zc = #[] := by intro h; rw [h] at hzbs; cases hzbs
  obtain ⟨X, hX⟩ : ∃ X, (bv k).toArray = X := ⟨_, rfl⟩
  have HX := Lib.hid hX
  rw [hX] at HMK
  clear hX hzc
  go_enter Try.func31, Try.ntmps31
  go_wp2_with fail
  generalize w.alloc (.cells zc 29) = w1 at *
  generalize hg : w.heap.size = g at *
  have HG := Lib.hid hg
  clear hg
  refine (HashSum_any 41 p (bv k) l w1 HH1.out hn).mono ?_
  rintro e w2 ⟨rfl, hb⟩
  have hz2 := hb.size
  have hxs : (bv (sumB l)).toArray.size = 32 := by rw [List.size_toArray, length_bv, length_sumB]
  have hn3 := RowB.new w2 29 (sumB l)
  obtain ⟨Z, hZ⟩ : ∃ Z, (bv (sumB l)).toArray = Z := ⟨_, rfl⟩
  have hst := HS32.out w2 (sumB l) (length_sumB l) Z hZ
  rw [hZ] at hxs hn3 ⊢
  have hZe : ¬ Z = #[] := by intro h; rw [h] at hxs; cases hxs
  have hb3 := (Below.refl w2.heap.size w2).alloc (Nat.le_refl _) (.cells Z 29)
  have HB3 := Lib.hid ((HB1.out.trans (hb.mono (by omega))).trans (hb3.mono (by omega)))
  have HH3 := Lib.hid ((HH1.out.below hb (by omega)).below hb3 (by omega))
  have HR3 := Lib.hid ((HR1.out.below hb (by omega)).below hb3 (by omega))
  have HN3 := Lib.hid hn3
  have hz3 : (w2.alloc (.cells Z 29)).heap.size = w2.heap.size + 1 := by simp
  clear hZ hn3 hb hb3 HB1 HH1 HR1
  go_wp2_with fail
  clear hst hZe hxs hzb hze
  generalize w2.alloc (.cells Z 29) = w3 at *
  generalize w2.heap.size = g3 at *
  have hrg : w3.rangeAt p 73 (bv k) := key_range HH3.out
  have hsum : sumB ([maskd k 92, sumB l] : List (List UInt8)).flatten = sumB (maskd k 92 ++ sumB l) := by simp
  have HFL := Lib.hid hsum
  have hxf : (bv (sumB (maskd k 92 ++ sumB l))).toArray.size = 32 := by rw [List.size_toArray, length_bv, length_sumB]
  obtain ⟨F, hF⟩ : ∃ F, (bv (sumB (maskd k 92 ++ sumB l))).toArray = F := ⟨_, rfl⟩
  have HF := Lib.hid hF
  have HSTO := Lib.hid (show ∀ W : World, RowB W 29 g (zs 32) → (storeCells ⟨g, 0, none⟩ F.toList).run Try.prog W = .ok () (W.setRow g F) ∧ (loadVar 29 ⟨g, 0, none⟩).run Try.prog (W.setRow g F) = .ok (.agg F) (W.setRow g F) from fun W h => by
    subst hF
    exact ⟨h.store (r := sumB (maskd k 92 ++ sumB l)) (length_sumB _), (h.setRow (r := sumB (maskd k 92 ++ sumB l))).load32 (length_sumB _)⟩)
  rw [hF] at hxf
  have hfe : ¬ F = #[] := by intro h; rw [h] at hxf; cases hxf
  clear hsum hF
  refine wp_region_noPanic ?_
  refine wp_region_held_drew (S := (fun W => W.rangeAt p 73 (bv k))) (by kernel_rfl) ?_ (fun hHeld => ?_)
  · (try dsimp only)
    exact hrg
  refine wpAnyH_take (i := 0) (v := ?v1) rfl (by kernel_rfl) (by kernel_rfl) (by kernel_rfl) (fun _ _ _ h => h) (Or.inl ⟨by rfl, ?y1⟩) (by assumption) ?r1
  case y1 => (intro w hSw; (try dsimp only at hSw); first | (go_simp; done) | (go_simp; with_reducible rfl))
  (try simp only [List.getElem_toArray, List.getElem_cons_zero, Act.put, List.setIfInBounds_toArray, List.set_cons_zero, List.set_cons_succ])
  refine wpAnyH_take (i := 1) (v := ?v2) rfl (by kernel_rfl) (by kernel_rfl) (by kernel_rfl) (fun _ _ _ h => h) (Or.inl ⟨by rfl, ?y2⟩) (by assumption) ?r2
  case y2 => (intro w hSw; (try dsimp only at hSw); first | (go_simp; done) | (go_simp; with_reducible rfl))
  (try simp only [List.getElem_toArray, List.getElem_cons_zero, List.getElem_cons_succ, Act.put, List.setIfInBounds_toArray, List.set_cons_zero, List.set_cons_succ])
  refine wpAnyH_take (i := 2) (v := ?v3) rfl (by kernel_rfl) (by kernel_rfl) (by kernel_rfl) (fun _ _ _ h => h) (Or.inl ⟨by rfl, ?y3⟩) (by assumption) ?r3
  case y3 => (intro w hSw; (try dsimp only at hSw); first | (go_simp; done) | (go_simp; with_reducible rfl))
  (try simp only [List.getElem_toArray, List.getElem_cons_zero, List.getElem_cons_succ, Act.put, List.setIfInBounds_toArray, List.set_cons_zero, List.set_cons_succ])
  refine wpAnyH_take (i := 3) rfl (by kernel_rfl) (by kernel_rfl) (by kernel_rfl) (fun _ _ _ h => h) (yieldsIf_load_mid (by rfl) 37 _ rfl p 73 rfl (bv k) _ (fun w hSw => hSw) Try.underlying37 rfl HI.out) (by assumption) ?_
  rw [HX.out]
  (try simp only [List.getElem_toArray, List.getElem_cons_zero, List.getElem_cons_succ, Act.put, List.setIfInBounds_toArray, List.set_cons_zero, List.set_cons_succ])
  refine wpAnyH_take (i := 5) (v := ?v5) rfl (by kernel_rfl) (by kernel_rfl) (by kernel_rfl) (fun _ _ _ h => h) (Or.inl ⟨by rfl, ?y5⟩) (by assumption) ?r5
  case y5 => (intro w hSw; (try dsimp only at hSw); first | (go_simp; done) | (go_simp; with_reducible rfl))
  (try simp only [List.getElem_toArray, List.getElem_cons_zero, List.getElem_cons_succ, Act.put, List.setIfInBounds_toArray, List.set_cons_zero, List.set_cons_succ])
  refine wpAnyH_ready (rs := [4]) (by kernel_rfl) (by simp) ?_
  refine AllReadyH.cons rfl (fun K hK => ?_) AllReadyH.nil
  go_simp
  go_at_call 29
  refine (HMK.out w3.drew).mono ?_
  rintro e w4 ⟨g4, rfl, ho4, hb4⟩
  have hb4' : Below w3.heap.size w3 w4 := ((Below.refl _ _).drew).trans hb4
  have hz4 := hb4'.size
  have hrg4 : w4.rangeAt p 73 (bv k) := fun j v hv => (hb4'.cell (p := ⟨p, 73 + j, none⟩) (by show p < _; omega)).trans (hrg j v hv)
  have hrb := rb_row (HN3.out.below hb4' (by omega))
  have hl32 := length_sumB l
  rw [hl32] at hrb
  have HRBB := Lib.hid (rbb_two (RB.of_own ho4) (hrb.more (show g3 + 1 ≤ w4.heap.size by omega)) (Nat.le_refl 64) (Nat.le_refl 32) (Nat.le_refl _) 22)
  have hb5 := (Below.refl w4.heap.size w4).alloc (Nat.le_refl _) (.cells #[.slice (some ⟨g4, 0, none⟩) 64 64, .slice (some ⟨g3, 0, none⟩) 32 32] 22)
  have hz5 : (w4.alloc (.cells #[.slice (some ⟨g4, 0, none⟩) 64 64, .slice (some ⟨g3, 0, none⟩) 32 32] 22)).heap.size = w4.heap.size + 1 := by simp
  have hrg5 : (w4.alloc (.cells #[.slice (some ⟨g4, 0, none⟩) 64 64, .slice (some ⟨g3, 0, none⟩) 32 32] 22)).rangeAt p 73 (bv k) := fun j v hv => (hb5.cell (p := ⟨p, 73 + j, none⟩) (by show p < _; omega)).trans (hrg4 j v hv)
  have HR5 := Lib.hid ((HR3.out.below hb4' (by omega)).below hb5 (by omega))
  first | (refine hK.out _ _ ?_ (fun hHeld => ?_)) | (go_wp2_with fail; refine hK.out _ _ ?_ (fun hHeld => ?_))
  · (try dsimp only)
    exact hrg4
  clear hK K
  (try simp only [List.getElem_toArray, List.getElem_cons_zero, List.getElem_cons_succ, Act.put, List.setIfInBounds_toArray, List.set_cons_zero, List.set_cons_succ])
  refine wpAnyH_ready (rs := [6]) (by kernel_rfl) (by simp) ?_
  refine AllReadyH.cons rfl (fun K hK => ?_) AllReadyH.nil
  go_simp
  first | (refine hK.out _ _ ?_ (fun hHeld => ?_)) | (go_wp2_with fail; refine hK.out _ _ ?_ (fun hHeld => ?_))
  · (try dsimp only)
    exact hrg5
  clear hK K
  (try simp only [List.getElem_toArray, List.getElem_cons_zero, List.getElem_cons_succ, Act.put, List.setIfInBounds_toArray, List.set_cons_zero, List.set_cons_succ])
  refine wpAnyH_ready (rs := [7]) (by kernel_rfl) (by simp) ?_
  refine AllReadyH.cons rfl (fun K hK => ?_) AllReadyH.nil
  go_simp
  go_at_call 42
  refine (Sum_any _ 2 2 [maskd k 92, sumB l] _ _ HRBB.out (by rw [hz5]; exact Nat.le_refl _) (by simp only [List.flatten_cons, List.flatten_nil, List.append_nil, List.length_append, HML.out, length_sumB]; decide) (by decide)).mono ?_
  rintro e w6 ⟨rfl, hb6⟩
  rw [HFL.out, HF.out]
  have hz6 := hb6.size
  have hrg6 : w6.rangeAt p 73 (bv k) := fun j v hv => (hb6.cell (p := ⟨p, 73 + j, none⟩) (by show p < _; rw [hz5]; omega)).trans (hrg5 j v hv)
  have hr6 := HR5.out.below hb6 (by rw [hz5]; omega)
  have hst := (HSTO.out w6 hr6).1
  have hrg7 : (w6.setRow g F).rangeAt p 73 (bv k) := fun j v hv => ((grown_setRow w6 g F).cell_far ⟨p, 73 + j, none⟩ (by show p < _; rw [hz5] at hz6; omega) (by intro h; injection h with h; have h' : p = g := h; omega)).trans (hrg6 j v hv)
  first | (refine hK.out _ _ ?_ (fun hHeld => ?_)) | (go_wp2_with fail; refine hK.out _ _ ?_ (fun hHeld => ?_))
  · (try dsimp only)
    exact hrg6
  clear hK K
  (try simp only [List.getElem_toArray, List.getElem_cons_zero, List.getElem_cons_succ, Act.put, List.setIfInBounds_toArray, List.set_cons_zero, List.set_cons_succ])
  refine wpAnyH_ready (rs := [8]) (by kernel_rfl) (by simp) ?_
  refine AllReadyH.cons rfl (fun K hK => ?_) AllReadyH.nil
  go_simp
  first | (refine hK.out _ _ ?_ (fun hHeld => ?_)) | (go_wp2_with fail; refine hK.out _ _ ?_ (fun hHeld => ?_))
  · (try dsimp only)
    exact hrg7
  clear hK K
  (try simp only [List.getElem_toArray, List.getElem_cons_zero, List.getElem_cons_succ, Act.put, List.setIfInBounds_toArray, List.set_cons_zero, List.set_cons_succ])
  refine wpAnyH_done (by kernel_rfl) ?_ _
  refine NoPanic.normal ?_
  have HF2 := Lib.hid (HSTO.out w6 hr6).2
  have HB6 := Lib.hid (below_setRow (((HB3.out.trans (hb4'.mono (by omega))).trans (hb5.mono (by omega))).trans (hb6.mono (by rw [hz5]; omega))) (Nat.le_refl g) F)
  (try go_wp2_with fail)
  (try simp only [Exit.inBlock, Exit.then])
  refine bodyPost_ret (v := .agg F) (results_cellW rfl _ _ _ ⟨g, 0, none⟩ _ rfl HF2.out) rfl ?_
  exact ⟨by rw [HF.out], by rw [HG.out]; exact HB6.out⟩
end Go.Proofs.Ytkaakgabhhkggaa
