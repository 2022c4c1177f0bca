/-
  Contract of sha.Sum: the sum of all parts, joined. Conditions: the sizes that slices can have.
-/
import Derived.Test.YtkaakgabhhkggaaShaFin
namespace Go.Proofs.Ytkaakgabhhkggaa
open Go Go.RowKit Go.Sh

set_option maxRecDepth 100000 in
set_option maxHeartbeats 1000000 in
theorem Sum_any (A : Option Addr) (m c : Nat) (ls : List (List UInt8)) (w : World) (B : Nat) (hr : RBB w B A m ls) (hB : B ≤ w.heap.size) (hn : ls.flatten.length ≤ 576460752303423488) (hm : m ≤ 281474976710656) :
    Calls Try.prog 42 #[.slice A m c] w (fun e w' => e = .returned (.agg (bv (sumB ls.flatten)).toArray) ∧ Below w.heap.size w w') := by
  have hzb := zero32b
  have hzh := zero_hash
  have hzbs : (bv (zs 32)).toArray.size = 32 := rfl
  have hzhs : hash0.toArray.size = 73 := rfl
  have hb1 := (Below.refl w.heap.size w).alloc (Nat.le_refl _) (.cells (bv (zs 32)).toArray 29)
  have hs1 : (w.alloc (.cells (bv (zs 32)).toArray 29)).heap.size = w.heap.size + 1 := by simp
  have hb2 := hb1.alloc (by rw [hs1]; omega) (.cells hash0.toArray 39)
  have hs2 : ((w.alloc (.cells (bv (zs 32)).toArray 29)).alloc (.cells hash0.toArray 39)).heap.size = w.heap.size + 2 := by simp
  have hn1 := HashAt.new (w.alloc (.cells (bv (zs 32)).toArray 29))
  rw [hs1] at hn1
  have HN := Lib.hid hn1
  have HR0 := Lib.hid ((RowB.new w 29 (zs 32)).below ((Below.refl (w.heap.size + 1) _).alloc (by rw [hs1]; exact Nat.le_refl _) (.cells hash0.toArray 39)) (Nat.lt_succ_self _))
  have HP := Lib.hid (PartsAt.of_below (p := w.heap.size + 1) (hr.below (hb2.mono hB)) (by omega) (by rw [hs2]; omega))
  have HB := Lib.hid hb2
  clear hb1 hb2 hn1 hr
  generalize (bv (zs 32)).toArray = zc at *
  generalize hash0.toArray = zh at *
  have hze : ¬ zc = #[] := by intro h; rw [h] at hzbs; cases hzbs
  have hzf : ¬ zh = #[] := by intro h; rw [h] at hzhs; cases hzhs
  go_enter Try.func42, Try.ntmps42
  go_wp2_with fail
  clear hze hzf hzb hzh
  generalize (w.alloc (.cells zc 29)).alloc (.cells zh 39) = w2 at *
  generalize hg : w.heap.size = g at *
  have HG := Lib.hid hg
  clear hg
  refine (Write_any 39 (g + 1) [] [] A m c ls w2 HN.out HP.out (by rw [List.length_nil]; omega) hm).mono ?_
  rintro e w3 ⟨rfl, hh, hg⟩
  have hz3 := hg.size
  have HH3 := Lib.hid hh
  have HR3 := Lib.hid (HR0.out.grown hg (by intro h; injection h with h; omega))
  have HB3 := Lib.hid (HB.out.grown hg (by omega) (by intro x hx; injection hx with hx; omega))
  clear hh hg HN HR0 HB HP
  go_wp2_with fail
  refine (HashSum_any 39 (g + 1) [] ls.flatten w3 HH3.out hn).mono ?_
  rintro e w4 ⟨rfl, hb⟩
  have hr4 := HR3.out.below hb (by omega)
  have hst := hr4.store (r := sumB ls.flatten) (length_sumB _)
  have HF2 := Lib.hid ((hr4.setRow (r := sumB ls.flatten)).load32 (length_sumB _))
  have HB4 := Lib.hid (below_setRow (HB3.out.trans (hb.mono (by omega))) (Nat.le_refl _) (bv (sumB ls.flatten)).toArray)
  have hxs : (bv (sumB ls.flatten)).toArray.size = 32 := by rw [List.size_toArray, length_bv, length_sumB]
  generalize hZ : (bv (sumB ls.flatten)).toArray = Z at *
  have HZ := Lib.hid hZ
  have hze : ¬ Z = #[] := by intro h; rw [h] at hxs; cases hxs
  clear hZ hr4 hb HR3 HB3 HH3
  go_wp2_with fail
  (try simp only [Exit.inBlock, Exit.then])
  refine bodyPost_ret (v := .agg Z) (results_cellW rfl _ _ _ ⟨g, 0, none⟩ _ rfl HF2.out) rfl ?_
  exact ⟨by rw [HZ.out], by rw [HG.out]; exact HB4.out⟩
end Go.Proofs.Ytkaakgabhhkggaa
