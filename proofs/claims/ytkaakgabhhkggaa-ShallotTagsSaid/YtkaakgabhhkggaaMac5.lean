/-
  Contracts of mac.Tag, mac.Short, mac.Extract. Conditions: the sizes that slices can have.
-/
import Derived.Test.YtkaakgabhhkggaaMac4
namespace Go.Proofs.Ytkaakgabhhkggaa
open Go Go.RowKit Go.Sh

theorem length_tagB (key l : List UInt8) : (tagB key l).length = 32 := length_sumB _

set_option maxRecDepth 100000 in
set_option maxHeartbeats 1000000 in
theorem Tag_any (A : Option Addr) (n c : Nat) (key : List UInt8) (A' : Option Addr) (m c' : Nat) (ls : List (List UInt8)) (w : World) (B B' : Nat) (hk : RB w B A n key) (hB : B ≤ w.heap.size) (hn : n ≤ 140737488355328) (hc : n ≤ c)
    (hl : RBB w B' A' m ls) (hB' : B' ≤ w.heap.size) (hs : ls.flatten.length ≤ 288230376151711744) (hm : m ≤ 281474976710656) :
    Calls Try.prog 27 #[.slice A n c, .slice A' m c'] w (fun e w' => e = .returned (.agg (bv (tagB key ls.flatten)).toArray) ∧ Below w.heap.size w w') := by
  have hzb := zero32b
  have hzbs : (bv (zs 32)).toArray.size = 32 := rfl
  have hb1 := (Below.refl w.heap.size w).alloc (Nat.le_refl _) (.cells (bv (zs 32)).toArray 29)
  have hz1 : (w.alloc (.cells (bv (zs 32)).toArray 29)).heap.size = w.heap.size + 1 := by simp
  have HB1 := Lib.hid hb1
  have HK1 := Lib.hid (hk.below (hb1.mono hB))
  have HL1 := Lib.hid (hl.below (hb1.mono hB'))
  have HR1 := Lib.hid (RowB.new w 29 (zs 32))
  have HFS := Lib.hid (show ∀ W : World, RowB W 29 w.heap.size (zs 32) → ∀ F, (bv (tagB key ls.flatten)).toArray = F → (storeCells ⟨w.heap.size, 0, none⟩ F.toList).run Try.prog W = .ok () (W.setRow w.heap.size F) ∧ (loadVar 29 ⟨w.heap.size, 0, none⟩).run Try.prog (W.setRow w.heap.size F) = .ok (.agg F) (W.setRow w.heap.size F) from fun W h F hF => by
    subst hF
    exact ⟨h.store (r := tagB key ls.flatten) (length_tagB _ _), (h.setRow (r := tagB key ls.flatten)).load32 (length_tagB _ _)⟩)
  have HKL := Lib.hid (length_mblk key)
  have HML := Lib.hid (show (maskd (mblk key) 54).length = 64 from length_maskd _ _)
  have HTG := Lib.hid (show sumB (maskd (mblk key) 92 ++ sumB (maskd (mblk key) 54 ++ ls.flatten)) = tagB key ls.flatten from rfl)
  clear hb1 hk hl
  generalize (bv (zs 32)).toArray = zc at *
  have hze : ¬ zc = #[] := by intro h; rw [h] at hzbs; cases hzbs
  go_enter Try.func27, Try.ntmps27
  go_wp2_with fail
  clear hze hzb
  generalize w.alloc (.cells zc 29) = w1 at *
  generalize hg : w.heap.size = g at *
  have HG := Lib.hid hg
  clear hg
  refine (NewTagger_any A n c key w1 B HK1.out (by omega) hn hc).mono ?_
  rintro e w2 ⟨p, rfl, hp, hh, hb⟩
  have hp2 := hh.lt
  have hpt := PartsAt.of_below (p := p) (HL1.out.below (hb.mono (by omega))) (by omega) hp2
  have HH2 := Lib.hid hh
  have HP2 := Lib.hid hpt
  have HB2 := Lib.hid (HB1.out.trans (hb.mono (by omega)))
  have HR2 := Lib.hid (HR1.out.below hb (by omega))
  clear hh hpt hb HB1 HR1
  go_wp2_with fail
  refine (Write_any 41 p (bv (mblk key)) (maskd (mblk key) 54) A' m c' ls w2 HH2.out HP2.out (by rw [HML.out]; omega) hm).mono ?_
  rintro e w3 ⟨rfl, hh, hg⟩
  have hz3 := hg.size
  have HH3 := Lib.hid hh
  have HB3 := Lib.hid (HB2.out.grown hg (by omega) (by intro x hx; injection hx with hx; omega))
  have HR3 := Lib.hid (HR2.out.grown hg (by intro h; injection h with h; omega))
  clear hh hg HB2 HR2
  go_wp2_with fail
  refine (TaggerSum_any p (mblk key) (maskd (mblk key) 54 ++ ls.flatten) w3 HH3.out HKL.out (by rw [List.length_append, HML.out]; omega)).mono ?_
  rw [HTG.out]
  rintro e w4 ⟨rfl, hb⟩
  have hr4 := HR3.out.below hb (by omega)
  obtain ⟨F, hF⟩ : ∃ F, (bv (tagB key ls.flatten)).toArray = F := ⟨_, rfl⟩
  obtain ⟨hst, hld⟩ := HFS.out w4 hr4 F hF
  have HLD := Lib.hid hld
  have HF := Lib.hid hF
  have HB4 := Lib.hid (below_setRow (HB3.out.trans (hb.mono (by omega))) (Nat.le_refl g) F)
  have hxf : F.size = 32 := by rw [← hF, List.size_toArray, length_bv, length_tagB]
  have hfe : ¬ F = #[] := by intro h; rw [h] at hxf; cases hxf
  rw [hF]
  clear hF hld hr4 hb HFS
  go_wp2_with fail
  (try simp only [Exit.inBlock, Exit.then])
  refine bodyPost_ret (v := .agg F) (results_cellW rfl _ _ _ ⟨g, 0, none⟩ _ rfl HLD.out) rfl ?_
  exact ⟨by rw [HF.out], by rw [HG.out]; exact HB4.out⟩

set_option maxRecDepth 100000 in
theorem Short_any (A : Option Addr) (n c : Nat) (key : List UInt8) (A' : Option Addr) (m c' : Nat) (ls : List (List UInt8)) (w : World) (B B' : Nat) (hk : RB w B A n key) (hB : B ≤ w.heap.size) (hn : n ≤ 140737488355328) (hc : n ≤ c)
    (hl : RBB w B' A' m ls) (hB' : B' ≤ w.heap.size) (hs : ls.flatten.length ≤ 288230376151711744) (hm : m ≤ 281474976710656) :
    Calls Try.prog 8 #[.slice A n c, .slice A' m c'] w (fun e w' => ∃ g, e = .returned (.slice (some ⟨g, 0, none⟩) 16 16) ∧ w'.ownsRow w.heap.size 5 1 (.slice (some ⟨g, 0, none⟩) 16 16) 16 (bv ((tagB key ls.flatten).take 16)) ∧ Below w.heap.size w w') := by
  have HT := Lib.hid (Tag_any A n c key A' m c' ls w B B' hk hB hn hc hl hB' hs hm)
  clear hk hl
  go_enter Try.func8, Try.ntmps8
  go_wp2_with fail
  refine HT.out.mono ?_
  rintro e w1 ⟨rfl, hb⟩
  have HB1 := Lib.hid hb
  clear hb
  go_wp2_with fail
  refine (first_any (tagB key ls.flatten) w1 (length_tagB _ _)).mono ?_
  rintro e w2 ⟨g, rfl, ho, hb⟩
  have HO := Lib.hid (own_base ho HB1.out.size)
  have HB2 := Lib.hid (HB1.out.trans (hb.mono HB1.out.size))
  clear ho hb
  go_wp2_with fail
  go_ret
  exact ⟨g, rfl, HO.out, HB2.out⟩
end Go.Proofs.Ytkaakgabhhkggaa
