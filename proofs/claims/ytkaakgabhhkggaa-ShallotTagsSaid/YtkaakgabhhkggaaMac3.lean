/-
  Contracts of mac.NewTagger and Tagger.Sum. Conditions: the sizes that slices can have.
-/
import Derived.Test.YtkaakgabhhkggaaMac2
import Derived.Test.YtkaakgabhhkggaaBlk
namespace Go.Proofs.Ytkaakgabhhkggaa
open Go Go.RowKit Go.Sh

set_option maxRecDepth 100000 in
theorem built_tagger (parts : List (Nat × Value)) : Try.prog.built 41 parts = Instr.fill ([(0, 73), (73, 64)].toArray[·]?) (hash0 ++ bv (zs 64)).toArray parts := by kernel_rfl
theorem tagger_built (k : List UInt8) (hk : k.length = 64) : Try.prog.built 41 [(1, .agg (bv k).toArray)] = some (hash0 ++ bv k).toArray := by
  have hh : hash0.length = 73 := rfl
  have hz : (bv (zs 64)).length = 64 := rfl
  rw [built_tagger, fill_cons (off := 73) (size := 64) rfl (by show (bv k).toArray.size = 64; rw [List.size_toArray, length_bv, hk]) (by rw [List.size_toArray, List.length_append, hh, hz]; decide), fill_nil]
  have e : (hash0 ++ bv (zs 64)).toArray.toList.take 73 ++ (Value.agg (bv k).toArray).cells.toList ++ (hash0 ++ bv (zs 64)).toArray.toList.drop (73 + 64) = hash0 ++ bv k := by
    show (hash0 ++ bv (zs 64)).take 73 ++ bv k ++ (hash0 ++ bv (zs 64)).drop (73 + 64) = _
    rw [List.take_left' hh, List.drop_eq_nil_of_le (by rw [List.length_append, hh, hz]; exact Nat.le_refl _), List.append_nil]
  rw [e]
theorem tagger_rep (k : List UInt8) : hash0 ++ bv k = hc (zw 8) (zs 64) 0 (bv k) := by
  unfold hash0
  rw [← hc_rest]
set_option maxRecDepth 100000 in
theorem key_range {w : World} {ty : TypeId} {p : Nat} {k l : List UInt8} (h : HashAt w ty p (bv k) l) : w.rangeAt p 73 (bv k) := by
  obtain ⟨st, op, hb, hr⟩ := h
  intro j v hv
  have hj := (List.getElem?_eq_some_iff.1 hv).1
  have hl := length_hc hr.ls hr.lo l.length []
  rw [blk_cell hb, List.getElem?_toArray, hc_rest, List.getElem?_append_right (by rw [hl]; simp), hl]
  simpa using hv
theorem partsOne {w : World} {p base n c : Nat} {e t : TypeId} {A : Option Addr} {l : List UInt8} (ho : w.ownsRow base e 1 (.slice A n c) n (bv l)) (hp : p < base) (hpw : p < w.heap.size) : PartsAt (w.alloc (.cells #[.slice A n c] t)) p (some ⟨w.heap.size, 0, none⟩) 1 [l] := by
  have hb := (Below.refl w.heap.size w).alloc (Nat.le_refl _) (.cells #[.slice A n c] t)
  have ho' := own_later ho hb
  refine ⟨rfl, [.slice A n c], fun w' hg => ⟨w.heap.size + 1, rfl, .inr ⟨_, rfl, Nat.lt_succ_self _, fun j hj => ?_⟩⟩, fun k hk => ?_⟩
  · rw [add_mk, hg.cell_far _ (by simp) (by simp; omega), cell_of_row _ _ _ _ _ _ (heap_alloc_new w _)]
    simp
  · obtain rfl : k = 0 := by omega
    exact ⟨A, n, c, rfl, own_cap ho, fun w' hg => ⟨_, RB.of_own (ho'.kept hg (far_own ho' hp))⟩⟩

set_option maxHeartbeats 2000000 in
set_option maxRecDepth 100000 in
theorem NewTagger_any (A : Option Addr) (n c : Nat) (key : List UInt8) (w : World) (B : Nat) (hk : RB w B A n key) (hB : B ≤ w.heap.size) (hn : n ≤ 140737488355328) (hc : n ≤ c) :
    Calls Try.prog 9 #[.slice A n c] w (fun e w' => ∃ p, e = .returned (.pointer (some ⟨p, 0, none⟩)) ∧ w.heap.size ≤ p ∧ HashAt w' 41 p (bv (mblk key)) (maskd (mblk key) 54) ∧ Below w.heap.size w w') := by
  have HBK := Lib.hid (block_any A n c key w B hk hB hn hc)
  have hkl := length_mblk key
  have HMK := Lib.hid (fun W => masked_any (mblk key) 54 W hkl)
  have HBT := Lib.hid (tagger_built (mblk key) hkl)
  have HRP := Lib.hid (tagger_rep (mblk key))
  have hcs : (hash0 ++ bv (mblk key)).toArray.size = 137 := by rw [List.size_toArray, List.length_append, length_bv, hkl]; rfl
  have HI := Lib.hid (show (Try.prog.info? 37).map (·.size) = some (bv (mblk key)).length by rw [length_bv, hkl]; exact info64b)
  have HML := Lib.hid (show (maskd (mblk key) 54).length = 64 from length_maskd _ _)
  clear hk
  generalize mblk key = k at *
  obtain ⟨X, hX⟩ : ∃ X, (bv k).toArray = X := ⟨_, rfl⟩
  have HX := Lib.hid hX
  obtain ⟨Y, hY⟩ : ∃ Y, (hash0 ++ bv k).toArray = Y := ⟨_, rfl⟩
  have HY := Lib.hid hY
  rw [hX] at HBK HMK HBT
  rw [hY] at HBT hcs
  have hye : ¬ Y = #[] := by intro h; rw [h] at hcs; cases hcs
  clear hX hY
  go_enter Try.func9, Try.ntmps9
  go_wp2_with fail
  refine HBK.out.mono ?_
  rintro e w1 ⟨rfl, hb1⟩
  have HB1 := Lib.hid hb1
  have hz1 := hb1.size
  have hnb : HashAt (w1.alloc (.cells Y 41)) 41 w1.heap.size (bv k) [] := ⟨zw 8, zs 64, by rw [heap_alloc_new, ← HY.out, HRP.out]; rfl, hash0_rep⟩
  have hb2 := (Below.refl w1.heap.size w1).alloc (Nat.le_refl _) (.cells Y 41)
  have HB2 := Lib.hid (hb1.trans (hb2.mono hz1))
  have HH2 := Lib.hid hnb
  have hz2 : (w1.alloc (.cells Y 41)).heap.size = w1.heap.size + 1 := by simp
  clear hb1 hb2 hnb HBK
  go_wp2_with (refine wl_lit (by rfl) 41 [(1, .tmp 5)] rfl [(1, .agg X)] rfl Y HBT.out ?_)
  generalize w1.alloc (.cells Y 41) = w2 at *
  generalize w1.heap.size = p at *
  have hrg : w2.rangeAt p 73 (bv k) := key_range HH2.out
  refine wp_region_noPanic ?_
  refine wp_region_held_drew (S := (fun W => W.rangeAt p 73 (bv k))) (by kernel_rfl) ?_ (fun hHeld => ?_)
  · (try dsimp only)
    exact hrg
  refine wpAnyH_take (i := 0) (v := ?v1) rfl (by kernel_rfl) (by kernel_rfl) (by kernel_rfl) (fun _ _ _ h => h) (Or.inl ⟨by rfl, ?y1⟩) (by assumption) ?r1
  case y1 => (intro w hSw; (try dsimp only at hSw); first | (go_simp; done) | (go_simp; with_reducible rfl))
  (try simp only [List.getElem_toArray, List.getElem_cons_zero, Act.put, List.setIfInBounds_toArray, List.set_cons_zero, List.set_cons_succ])
  refine wpAnyH_take (i := 1) (v := ?v2) rfl (by kernel_rfl) (by kernel_rfl) (by kernel_rfl) (fun _ _ _ h => h) (Or.inl ⟨by rfl, ?y2⟩) (by assumption) ?r2
  case y2 => (intro w hSw; (try dsimp only at hSw); first | (go_simp; done) | (go_simp; with_reducible rfl))
  (try simp only [List.getElem_toArray, List.getElem_cons_zero, List.getElem_cons_succ, Act.put, List.setIfInBounds_toArray, List.set_cons_zero, List.set_cons_succ])
  refine wpAnyH_take (i := 2) (v := ?v3) rfl (by kernel_rfl) (by kernel_rfl) (by kernel_rfl) (fun _ _ _ h => h) (Or.inl ⟨by rfl, ?y3⟩) (by assumption) ?r3
  case y3 => (intro w hSw; (try dsimp only at hSw); first | (go_simp; done) | (go_simp; with_reducible rfl))
  (try simp only [List.getElem_toArray, List.getElem_cons_zero, List.getElem_cons_succ, Act.put, List.setIfInBounds_toArray, List.set_cons_zero, List.set_cons_succ])
  refine wpAnyH_take (i := 3) (v := ?v4) rfl (by kernel_rfl) (by kernel_rfl) (by kernel_rfl) (fun _ _ _ h => h) (Or.inl ⟨by rfl, ?y4⟩) (by assumption) ?r4
  case y4 => (intro w hSw; (try dsimp only at hSw); first | (go_simp; done) | (go_simp; with_reducible rfl))
  (try simp only [List.getElem_toArray, List.getElem_cons_zero, List.getElem_cons_succ, Act.put, List.setIfInBounds_toArray, List.set_cons_zero, List.set_cons_succ])
  refine wpAnyH_take (i := 4) (v := ?v5) rfl (by kernel_rfl) (by kernel_rfl) (by kernel_rfl) (fun _ _ _ h => h) (Or.inl ⟨by rfl, ?y5⟩) (by assumption) ?r5
  case y5 => (intro w hSw; (try dsimp only at hSw); first | (go_simp; done) | (go_simp; with_reducible rfl))
  (try simp only [List.getElem_toArray, List.getElem_cons_zero, List.getElem_cons_succ, Act.put, List.setIfInBounds_toArray, List.set_cons_zero, List.set_cons_succ])
  refine wpAnyH_take (i := 5) (v := ?v6) rfl (by kernel_rfl) (by kernel_rfl) (by kernel_rfl) (fun _ _ _ h => h) (Or.inl ⟨by rfl, ?y6⟩) (by assumption) ?r6
  case y6 => (intro w hSw; (try dsimp only at hSw); first | (go_simp; done) | (go_simp; with_reducible rfl))
  (try simp only [List.getElem_toArray, List.getElem_cons_zero, List.getElem_cons_succ, Act.put, List.setIfInBounds_toArray, List.set_cons_zero, List.set_cons_succ])
  refine wpAnyH_take (i := 6) rfl (by kernel_rfl) (by kernel_rfl) (by kernel_rfl) (fun _ _ _ h => h) (yieldsIf_load_mid (by rfl) 37 _ rfl p 73 rfl (bv k) _ (fun w hSw => hSw) Try.underlying37 rfl HI.out) (by assumption) ?_
  rw [HX.out]
  (try simp only [List.getElem_toArray, List.getElem_cons_zero, List.getElem_cons_succ, Act.put, List.setIfInBounds_toArray, List.set_cons_zero, List.set_cons_succ])
  refine wpAnyH_ready (rs := [7]) (by kernel_rfl) (by simp) ?_
  refine AllReadyH.cons rfl (fun K hK => ?_) AllReadyH.nil
  go_simp
  go_at_call 29
  refine (HMK.out w2.drew).mono ?_
  rintro e w3 ⟨g3, rfl, ho3, hb3⟩
  have hb3' : Below w2.heap.size w2 w3 := ((Below.refl _ _).drew).trans hb3
  have hrg3 : w3.rangeAt p 73 (bv k) := fun j v hv => (hb3'.cell (p := ⟨p, 73 + j, none⟩) (by show p < _; omega)).trans (hrg j v hv)
  have hz3 := hb3'.size
  have hb4 := (Below.refl w3.heap.size w3).alloc (Nat.le_refl _) (.cells #[.slice (some ⟨g3, 0, none⟩) 64 64] 22)
  have hrg4 : (w3.alloc (.cells #[.slice (some ⟨g3, 0, none⟩) 64 64] 22)).rangeAt p 73 (bv k) := fun j v hv => (hb4.cell (p := ⟨p, 73 + j, none⟩) (by show p < _; omega)).trans (hrg3 j v hv)
  have hpt := partsOne (t := 22) ho3 (show p < w2.drew.heap.size from by show p < w2.heap.size; omega) (show p < w3.heap.size by omega)
  have HH4 := Lib.hid ((HH2.out.below hb3' (by omega)).below hb4 (by omega))
  first | (refine hK.out _ _ ?_ (fun hHeld => ?_)) | (go_wp2_with fail; refine hK.out _ _ ?_ (fun hHeld => ?_))
  · (try dsimp only)
    exact hrg3
  clear hK K
  (try simp only [List.getElem_toArray, List.getElem_cons_zero, List.getElem_cons_succ, Act.put, List.setIfInBounds_toArray, List.set_cons_zero, List.set_cons_succ])
  refine wpAnyH_ready (rs := [8]) (by kernel_rfl) (by simp) ?_
  refine AllReadyH.cons rfl (fun K hK => ?_) AllReadyH.nil
  go_simp
  first | (refine hK.out _ _ ?_ (fun hHeld => ?_)) | (go_wp2_with fail; refine hK.out _ _ ?_ (fun hHeld => ?_))
  · (try dsimp only)
    exact hrg4
  clear hK K
  (try simp only [List.getElem_toArray, List.getElem_cons_zero, List.getElem_cons_succ, Act.put, List.setIfInBounds_toArray, List.set_cons_zero, List.set_cons_succ])
  refine wpAnyH_ready (rs := [9]) (by kernel_rfl) (by simp) ?_
  refine AllReadyH.cons rfl (fun K hK => ?_) AllReadyH.nil
  go_simp
  go_at_call 10
  refine (Write_any 41 p (bv k) [] _ 1 1 [maskd k 54] _ HH4.out hpt (by simp only [List.flatten_cons, List.flatten_nil, List.append_nil, List.length_nil, HML.out]; decide) (by decide)).mono ?_
  rintro e w5 ⟨rfl, hh5, hg5⟩
  first | (refine hK.out _ _ ?_ (fun hHeld => ?_)) | (go_wp2_with fail; refine hK.out _ _ ?_ (fun hHeld => ?_))
  · (try dsimp only)
    exact key_range hh5
  clear hK K
  (try simp only [List.getElem_toArray, List.getElem_cons_zero, List.getElem_cons_succ, Act.put, List.setIfInBounds_toArray, List.set_cons_zero, List.set_cons_succ])
  refine wpAnyH_done (by kernel_rfl) ?_ _
  refine NoPanic.normal ?_
  have HH5 := Lib.hid (show HashAt w5 41 p (bv k) (maskd k 54) by simpa using hh5)
  have HB5 := Lib.hid (((HB2.out.trans (hb3'.mono (by omega))).trans (hb4.mono (by omega))).grown hg5 (by simp; omega) (by intro x hx; injection hx with hx; omega))
  clear hh5 hg5 hpt hb3 hb3' hb4 ho3 hrg hrg3 hrg4
  go_wp2_with fail
  go_ret
  exact ⟨p, rfl, by omega, HH5.out, HB5.out⟩

/-- the tag of bytes -/
def tagB (key l : List UInt8) : List UInt8 := sumB (maskd (mblk key) 92 ++ sumB (maskd (mblk key) 54 ++ l))
end Go.Proofs.Ytkaakgabhhkggaa
