/-
  Contracts of mac.Check, Tagger.Fits and mac.Extract. Conditions: the sizes that slices can have.
-/
import Derived.Test.YtkaakgabhhkggaaMac5
import Derived.Test.YtkaakgabhhkggaaLooks
namespace Go.Proofs.Ytkaakgabhhkggaa
open Go Go.RowKit Go.Sh

set_option maxRecDepth 100000 in
theorem MacCheck_any (A : Option Addr) (n c : Nat) (key : List UInt8) (At : Option Addr) (nt ct : Nat) (tag : List UInt8) (A' : Option Addr) (m c' : Nat) (ls : List (List UInt8)) (w : World) (B B' Bt : Nat) (hk : RB w B A n key) (hB : B ≤ w.heap.size) (hn : n ≤ 140737488355328) (hc : n ≤ c)
    (ht : RB w Bt At nt tag) (hBt : Bt ≤ w.heap.size) (hl : RBB w B' A' m ls) (hB' : B' ≤ w.heap.size) (hs : ls.flatten.length ≤ 288230376151711744) (hm : m ≤ 281474976710656) :
    Calls Try.prog 6 #[.slice A n c, .slice At nt ct, .slice A' m c'] w (fun e w' => e = .returned (.bool (decide ((tagB key ls.flatten).take 16 = tag))) ∧ Below w.heap.size w w') := by
  have HS := Lib.hid (Short_any A n c key A' m c' ls w B B' hk hB hn hc hl hB' hs hm)
  have HT := Lib.hid ht
  clear hk hl ht
  go_enter Try.func6, Try.ntmps6
  go_wp2_with fail
  refine HS.out.mono ?_
  rintro e w1 ⟨g, rfl, ho, hb⟩
  have HO := Lib.hid ho
  have HB1 := Lib.hid hb
  have HT1 := Lib.hid (HT.out.below (hb.mono hBt))
  clear ho hb
  go_wp2_with fail
  refine (Same_any _ _ _ _ _ _ _ tag w1 _ _ (RB.of_own HO.out) HT1.out (by decide)).mono fun e w2 h => ?_
  obtain ⟨rfl, hb2⟩ := h.below
  have HB2 := Lib.hid (HB1.out.trans (hb2.mono HB1.out.size))
  clear hb2 h
  go_wp2_with fail
  go_ret
  exact ⟨rfl, HB2.out⟩

set_option maxRecDepth 100000 in
theorem Fits_any (p : Nat) (k l : List UInt8) (At : Option Addr) (nt ct : Nat) (tag : List UInt8) (w : World) (Bt : Nat) (hH : HashAt w 41 p (bv k) l) (hk : k.length = 64) (hn : l.length ≤ 576460752303423488) (ht : RB w Bt At nt tag) (hBt : Bt ≤ w.heap.size) :
    Calls Try.prog 11 #[.pointer (some ⟨p, 0, none⟩), .slice At nt ct] w (fun e w' => e = .returned (.bool (decide ((sumB (maskd k 92 ++ sumB l)).take 16 = tag))) ∧ Below w.heap.size w w') := by
  have HS := Lib.hid (TaggerSum_any p k l w hH hk hn)
  have HT := Lib.hid ht
  clear hH ht
  go_enter Try.func11, Try.ntmps11
  go_wp2_with fail
  refine HS.out.mono ?_
  rintro e w1 ⟨rfl, hb⟩
  have HB1 := Lib.hid hb
  have HT1 := Lib.hid (HT.out.below (hb.mono hBt))
  have hz1 := hb.size
  clear hb
  go_wp2_with fail
  refine (first_any _ w1 (length_sumB _)).mono ?_
  rintro e w2 ⟨g, rfl, ho, hb⟩
  have HO := Lib.hid ho
  have HB2 := Lib.hid (HB1.out.trans (hb.mono hz1))
  have HT2 := Lib.hid (HT1.out.below (hb.mono (by omega)))
  have hz2 := hb.size
  clear ho hb
  go_wp2_with fail
  refine (Same_any _ _ _ _ _ _ _ tag w2 _ _ (RB.of_own HO.out) HT2.out (by decide)).mono fun e w3 h => ?_
  obtain ⟨rfl, hb3⟩ := h.below
  have HB3 := Lib.hid (HB2.out.trans (hb3.mono HB2.out.size))
  clear hb3 h
  go_wp2_with fail
  go_ret
  exact ⟨rfl, HB3.out⟩

set_option maxRecDepth 100000 in
set_option maxHeartbeats 1000000 in
theorem Extract_any (A : Option Addr) (n c : Nat) (key : List UInt8) (A' : Option Addr) (n' c' : Nat) (l : List UInt8) (w : World) (B B' : Nat) (hk : RB w B A n key) (hB : B ≤ w.heap.size) (hn : n ≤ 140737488355328) (hc : n ≤ c)
    (hl : RB w B' A' n' l) (hB' : B' ≤ w.heap.size) (hn' : n' ≤ 140737488355328) (hc' : n' ≤ c') :
    Calls Try.prog 23 #[.slice A n c, .slice A' n' c'] w (fun e w' => e = .returned (.agg (bv (tagB key l)).toArray) ∧ Below w.heap.size w w') := by
  have hzb := zero32b
  have hzbs : (bv (zs 32)).toArray.size = 32 := rfl
  have hb1 := (Below.refl w.heap.size w).alloc (Nat.le_refl _) (.cells (bv (zs 32)).toArray 29)
  have hz1 : (w.alloc (.cells (bv (zs 32)).toArray 29)).heap.size = w.heap.size + 1 := by simp
  have HB1 := Lib.hid hb1
  have HK1 := Lib.hid (hk.below (hb1.mono hB))
  have HL1 := Lib.hid (hl.below (hb1.mono hB'))
  have HLN := Lib.hid hl.len
  have HR1 := Lib.hid (RowB.new w 29 (zs 32))
  have HFS := Lib.hid (show ∀ W : World, RowB W 29 w.heap.size (zs 32) → ∀ F, (bv (tagB key l)).toArray = F → (storeCells ⟨w.heap.size, 0, none⟩ F.toList).run Try.prog W = .ok () (W.setRow w.heap.size F) ∧ (loadVar 29 ⟨w.heap.size, 0, none⟩).run Try.prog (W.setRow w.heap.size F) = .ok (.agg F) (W.setRow w.heap.size F) from fun W h F hF => by
    subst hF
    exact ⟨h.store (r := tagB key l) (length_tagB _ _), (h.setRow (r := tagB key l)).load32 (length_tagB _ _)⟩)
  clear hb1 hk hl
  generalize (bv (zs 32)).toArray = zc at *
  have hze : ¬ zc = #[] := by intro h; rw [h] at hzbs; cases hzbs
  go_enter Try.func23, Try.ntmps23
  go_wp2_with fail
  clear hze hzb
  generalize w.alloc (.cells zc 29) = w1 at *
  generalize hg : w.heap.size = g at *
  have HG := Lib.hid hg
  clear hg
  have hr2 := rbb_one HL1.out hc' (show B' ≤ w1.heap.size by omega) 22
  have hb2 := (Below.refl w1.heap.size w1).alloc (Nat.le_refl _) (.cells #[.slice A' n' c'] 22)
  have hz2 : (w1.alloc (.cells #[.slice A' n' c'] 22)).heap.size = w1.heap.size + 1 := by simp
  rw [hz1] at hr2 hb2
  refine (Tag_any A n c key _ 1 1 [l] _ B _ (HK1.out.below (hb2.mono (by omega))) (by omega) hn hc hr2 (by omega) (by simp only [List.flatten_cons, List.flatten_nil, List.append_nil, HLN.out]; omega) (by decide)).mono ?_
  rw [show [l].flatten = l by simp]
  rintro e w4 ⟨rfl, hb⟩
  have hr4 := (HR1.out.below hb2 (by omega)).below hb (by omega)
  obtain ⟨F, hF⟩ : ∃ F, (bv (tagB key l)).toArray = F := ⟨_, rfl⟩
  obtain ⟨hst, hld⟩ := HFS.out w4 hr4 F hF
  have HLD := Lib.hid hld
  have HF := Lib.hid hF
  have HB4 := Lib.hid (below_setRow ((HB1.out.trans (hb2.mono (by omega))).trans (hb.mono (by omega))) (Nat.le_refl g) F)
  have hxf : F.size = 32 := by rw [← hF, List.size_toArray, length_bv, length_tagB]
  have hfe : ¬ F = #[] := by intro h; rw [h] at hxf; cases hxf
  rw [hF]
  clear hF hld hr4 hb HFS hr2 hb2
  go_wp2_with fail
  (try simp only [Exit.inBlock, Exit.then])
  refine bodyPost_ret (v := .agg F) (results_cellW rfl _ _ _ ⟨g, 0, none⟩ _ rfl HLD.out) rfl ?_
  exact ⟨by rw [HF.out], by rw [HG.out]; exact HB4.out⟩
end Go.Proofs.Ytkaakgabhhkggaa
