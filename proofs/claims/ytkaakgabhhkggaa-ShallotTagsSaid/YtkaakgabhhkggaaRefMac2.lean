/-
  Contracts of shallotref03.Inside, Tag and Short. Conditions: a key of at most 64 bytes; at most 2^45 bytes.
-/
import Derived.Test.YtkaakgabhhkggaaRefMac
namespace Go.Proofs.Ytkaakgabhhkggaa
open Go Go.RowKit Go.Sh

theorem RowB.there {w : World} {ty : TypeId} {p : Nat} {l : List UInt8} (h : RowB w ty p l) {n : Nat} (hn : n = l.length) : w.there p 0 n := fun j hj => by
  rw [Nat.zero_add]
  exact ⟨by rw [h.cell (by omega)]; rfl, h.free j⟩
set_option maxRecDepth 100000 in
theorem RowB.setCells {w : World} {ty : TypeId} {p : Nat} {l : List UInt8} (h : RowB w ty p l) {r : List UInt8} (hr : r.length = l.length) : w.setCells p 0 (bv r) = w.setRow p (bv r).toArray := by
  have e1 := h.store hr
  have ht := h.there (n := (bv r).length) (by rw [length_bv, hr])
  have e2 := run_storeCells_cells (P := Try.prog) p 0 (bv r) 0 w (fun j hj => by simpa using (ht j hj).1) (fun j hj => by simpa using (ht j hj).2) (fun v hv => bv_one r v hv)
  simp only [Nat.add_zero] at e2
  rw [List.toList_toArray, e2] at e1
  injection e1

set_option maxHeartbeats 2000000 in
set_option maxRecDepth 100000 in
theorem RefInside_any (A : Option Addr) (n c : Nat) (key : List UInt8) (A' : Option Addr) (m c' : Nat) (b : List UInt8) (w : World) (B B' : Nat) (hk : RB w B A n key) (hB : B ≤ w.heap.size) (hn : n ≤ 64)
    (hb : RB w B' A' m b) (hB' : B' ≤ w.heap.size) (hm : m ≤ 35184372088832) :
    Calls Try.prog 47 #[.slice A n c, .slice A' m c'] w (fun e w' => e = .returned (.agg (bv (sumB (maskd (mblk key) 54 ++ b))).toArray) ∧ Below w.heap.size w w') := by
  have hzb := zero32b
  have hzbs : (bv (zs 32)).toArray.size = 32 := rfl
  have HK := Lib.hid (hk.alloc hB (.cells (bv (zs 32)).toArray 29))
  have HBB := Lib.hid (hb.alloc hB' (.cells (bv (zs 32)).toArray 29))
  have HR0 := Lib.hid (RowB.new w 29 (zs 32))
  have HB0 := Lib.hid ((Below.refl w.heap.size w).alloc (Nat.le_refl _) (.cells (bv (zs 32)).toArray 29))
  have hs0 : (w.alloc (.cells (bv (zs 32)).toArray 29)).heap.size = w.heap.size + 1 := by simp
  generalize hzc : (bv (zs 32)).toArray = zc at *
  have hze : ¬ zc = #[] := by intro h; rw [h] at hzbs; cases hzbs
  have HLM := Lib.hid (length_maskd (mblk key) 54)
  clear hzc hk hb
  go_enter Try.func47, Try.ntmps47
  go_wp2_with fail
  have HS0 := Lib.hid hs0
  clear hs0 hzb hzbs hze
  generalize w.alloc (.cells zc 29) = w0 at *
  refine (RefBlock_any A n c key 54 w0 B HK.out (by have := HS0.out; omega) hn).mono ?_
  rintro e w1 ⟨g1, rfl, ho1, hb1⟩
  have HO1 := Lib.hid ho1
  have HB1 := Lib.hid hb1
  have HBB1 := Lib.hid (HBB.out.below (hb1.mono (by have := HS0.out; omega)))
  have hz1 := hb1.size
  obtain ⟨k, hkk⟩ : ∃ k, maskd (mblk key) 54 = k := ⟨_, rfl⟩
  have HKK := Lib.hid hkk
  rw [hkk] at HO1 HLM
  clear ho1 hb1 hkk HBB HK
  go_wp2_with (at_builtin; refine wl_app TB rfl (.tmp 6) (.tmp 7) rfl (.slice (some ⟨g1, 0, none⟩) 64 64) rfl A' m c' rfl w0.heap.size 64 (bv k) HO1.out B' (bv b) HBB1.out (bv_one _) ?c3 ?c4 ?c5 ?c6)
  case c3 => omega
  case c4 => omega
  case c5 => exact hz1
  case c6 =>
    intro A2 c2 w2 hown2 hg2 hat2
    have HO2 := Lib.hid (show w2.ownsRow w0.heap.size 5 1 (.slice A2 (64 + m) c2) (64 + m) (bv (k ++ b)) by rw [bv_append]; exact hown2)
    have HB2 := Lib.hid (HB1.out.grown hg2 (by omega) (own_drop HO1.out))
    have hz2 := hg2.size
    clear hown2 hg2 hat2
    obtain ⟨N, hN⟩ : ∃ N, 64 + m = N := ⟨_, rfl⟩
    rw [hN] at HO2 ⊢
    go_wp2_with fail
    refine (RefSum_any A2 N c2 (k ++ b) w2 w2.heap.size (RB.of_own HO2.out) (Nat.le_refl _) (by omega)).mono ?_
    rintro e w3 ⟨rfl, hb3⟩
    have hg0 : w.heap.size < w0.heap.size := by have := HS0.out; omega
    have HR3 := Lib.hid ((HR0.out.below HB2.out (by omega)).below hb3 (by omega))
    have HB3 := Lib.hid ((HB0.out.trans (HB2.out.mono (by omega))).trans (hb3.mono (by omega)))
    have hst := HR3.out.store (r := sumB (k ++ b)) (length_sumB _)
    have HF2 := Lib.hid ((HR3.out.setRow (r := sumB (k ++ b))).load32 (length_sumB _))
    have HBF := Lib.hid (below_setRow HB3.out (Nat.le_refl _) (bv (sumB (k ++ b))).toArray)
    have hxs : (bv (sumB (k ++ b))).toArray.size = 32 := by rw [List.size_toArray, length_bv, length_sumB]
    clear hb3
    generalize hZ : (bv (sumB (k ++ b))).toArray = Z at *
    have HZ := Lib.hid hZ
    have hze : ¬ Z = #[] := by intro h; rw [h] at hxs; cases hxs
    clear hZ
    go_wp2_with fail
    (try simp only [Exit.inBlock, Exit.then])
    refine bodyPost_ret (v := .agg Z) (results_cellW rfl _ _ _ ⟨w.heap.size, 0, none⟩ _ rfl HF2.out) rfl ?_
    exact ⟨by rw [HKK.out, HZ.out], HBF.out⟩

set_option maxHeartbeats 2000000 in
set_option maxRecDepth 100000 in
theorem RefTag_any (A : Option Addr) (n c : Nat) (key : List UInt8) (A' : Option Addr) (m c' : Nat) (b : List UInt8) (w : World) (B B' : Nat) (hk : RB w B A n key) (hB : B ≤ w.heap.size) (hn : n ≤ 64)
    (hb : RB w B' A' m b) (hB' : B' ≤ w.heap.size) (hm : m ≤ 35184372088832) :
    Calls Try.prog 35 #[.slice A n c, .slice A' m c'] w (fun e w' => e = .returned (.agg (bv (tagB key b)).toArray) ∧ Below w.heap.size w w') := by
  have hzb := zero32b
  have hzbs : (bv (zs 32)).toArray.size = 32 := rfl
  have HS32 := Lib.hid sto32_new
  have HK := Lib.hid (hk.alloc hB (.cells (bv (zs 32)).toArray 29))
  have HBB := Lib.hid (hb.alloc hB' (.cells (bv (zs 32)).toArray 29))
  have HR0 := Lib.hid (RowB.new w 29 (zs 32))
  have HB0 := Lib.hid ((Below.refl w.heap.size w).alloc (Nat.le_refl _) (.cells (bv (zs 32)).toArray 29))
  have hs0 : (w.alloc (.cells (bv (zs 32)).toArray 29)).heap.size = w.heap.size + 1 := by simp
  generalize hzc : (bv (zs 32)).toArray = zc at *
  have hze : ¬ zc = #[] := by intro h; rw [h] at hzbs; cases hzbs
  clear hzc hk hb
  go_enter Try.func35, Try.ntmps35
  go_wp2_with fail
  have HS0 := Lib.hid hs0
  clear hs0
  generalize w.alloc (.cells zc 29) = w0 at *
  refine (RefInside_any A n c key A' m c' b w0 B B' HK.out (by have := HS0.out; omega) hn HBB.out (by have := HS0.out; omega) hm).mono ?_
  rintro e w1 ⟨rfl, hb1⟩
  have hz1 := hb1.size
  obtain ⟨s, hs⟩ : ∃ s, sumB (maskd (mblk key) 54 ++ b) = s := ⟨_, rfl⟩
  have hsl : s.length = 32 := by rw [← hs]; exact length_sumB _
  have HTG := Lib.hid (show tagB key b = sumB (maskd (mblk key) 92 ++ s) by rw [← hs]; rfl)
  rw [hs]
  obtain ⟨Z, hZ⟩ : ∃ Z, (bv s).toArray = Z := ⟨_, rfl⟩
  have hst := HS32.out w1 s hsl Z hZ
  have hxs : Z.size = 32 := by rw [← hZ, List.size_toArray, length_bv, hsl]
  have hn5 := RowB.new w1 29 s
  rw [hZ] at hn5 ⊢
  have hZe : ¬ Z = #[] := by intro h; rw [h] at hxs; cases hxs
  have hb5 := (Below.refl w1.heap.size w1).alloc (Nat.le_refl _) (.cells Z 29)
  have HN5 := Lib.hid hn5
  have hz5 : (w1.alloc (.cells Z 29)).heap.size = w1.heap.size + 1 := by simp
  have HSL := Lib.hid hsl
  have hg0 : w.heap.size < w0.heap.size := by have := HS0.out; omega
  have HR5 := Lib.hid ((HR0.out.below hb1 (by omega)).below hb5 (by omega))
  have HB5 := Lib.hid ((HB0.out.trans (hb1.mono (by omega))).trans (hb5.mono (by omega)))
  have HK5 := Lib.hid ((HK.out.below (hb1.mono (by omega))).alloc (by omega) (.cells Z 29))
  clear hs hZ hn5 hb1 hb5 HK HBB HR0 HB0
  go_wp2_with fail
  clear hst hZe hxs hzb hzbs hze hsl
  have HG5 := Lib.hid (show w.heap.size < w1.heap.size by omega)
  have HGB := Lib.hid (show B ≤ w1.heap.size by omega)
  generalize w1.alloc (.cells Z 29) = w5 at *
  generalize w1.heap.size = g5 at *
  have HKd := Lib.hid (HK5.out.below ((Below.refl B w5).drew))
  have HNd := Lib.hid (show RowB w5.drew 29 g5 s from HN5.out)
  have HRd := Lib.hid (show RowB w5.drew 29 w.heap.size (zs 32) from HR5.out)
  have HBd := Lib.hid (HB5.out.drew)
  have hz5d : w5.drew.heap.size = g5 + 1 := hz5
  have HLM := Lib.hid (length_maskd (mblk key) 92)
  obtain ⟨k, hkk⟩ : ∃ k, maskd (mblk key) 92 = k := ⟨_, rfl⟩
  have HBLK := Lib.hid (RefBlock_any A n c key 92 w5.drew B HKd.out (by rw [hz5d]; have := HGB.out; omega) hn)
  rw [hkk] at HTG HLM HBLK
  clear hkk HK5 HN5 HR5 HB5 hz5

  obtain ⟨Z8, hZ8⟩ : ∃ Z8, (bv (sumB (k ++ s))).toArray = Z8 := ⟨_, rfl⟩
  have hxs : Z8.size = 32 := by rw [← hZ8, List.size_toArray, length_bv, length_sumB]
  have hze : ¬ Z8 = #[] := by intro h; rw [h] at hxs; cases hxs
  have HZ8 := Lib.hid hZ8
  have hone : ∀ v, v ∈ Z8.toList → v.oneCell' = true := by intro v hv; rw [← hZ8] at hv; exact bv_one _ v (by simpa using hv)
  have hinf : (Try.prog.info? 29).map (·.size) = some 32 := info32b
  clear hZ8
  go_region_held3 (fun w' => True) (trivial) (first
    | (go_at_call 49; refine HBLK.out.mono ?_; rintro e w6 ⟨g6, rfl, ho6, hb6⟩; have HO6 := Lib.hid ho6; have HB6 := Lib.hid hb6; have HS6 := Lib.hid (RowB.below HNd.out hb6 (by omega)); have hz6 := hb6.size; clear ho6 hb6)
    | (refine step_app TB (by rfl) (.tmp 10) (.tmp 11) (by rfl) (.slice (some ⟨g6, 0, none⟩) 64 64) (by rfl) (some ⟨g5, 0, none⟩) 32 32 (by rfl) w5.drew.heap.size 64 (bv k) HO6.out (g5 + 1) (bv s) (by have h := rb_row HS6.out; rw [HSL.out] at h; exact h) (bv_one _) (by decide) (by decide) hz6 ?_; intro A7 c7 w7 hown7 hg7 hat7; have HO7 := Lib.hid (show w7.ownsRow w5.drew.heap.size 5 1 (.slice A7 96 c7) 96 (bv (k ++ s)) by rw [bv_append]; exact hown7); have HB7 := Lib.hid (HB6.out.grown hg7 hz6 (own_drop HO6.out)); have hz7 := hg7.size; clear hown7 hg7 hat7)
    | (go_at_call 48; refine (RefSum_any A7 96 c7 (k ++ s) w7 w7.heap.size (RB.of_own HO7.out) (Nat.le_refl _) (by decide)).mono ?_; rw [HZ8.out]; rintro e w8 ⟨rfl, hb8⟩; have HR8 := Lib.hid ((HRd.out.below HB7.out (by omega)).below hb8 (by omega)); have HB8 := Lib.hid ((HBd.out.trans (HB7.out.mono (by omega))).trans (hb8.mono (by omega))); have hst := HR8.out.store (r := sumB (k ++ s)) (length_sumB _); have HF2 := Lib.hid ((HR8.out.setRow (r := sumB (k ++ s))).load32 (length_sumB _)); have HBF := Lib.hid (below_setRow HB8.out (Nat.le_refl _) (bv (sumB (k ++ s))).toArray); rw [HZ8.out] at hst HF2 HBF; have ht1 := HR8.out.there (n := 32) rfl; have hsc := HR8.out.setCells (r := sumB (k ++ s)) (length_sumB _); clear hb8))
  all_goals (rw [show w8.setCells w.heap.size 0 Z8.toList = w8.setRow w.heap.size Z8 by rw [← HZ8.out]; exact hsc])
  all_goals clear hst ht1 hsc hone hinf
  all_goals go_wp2_with fail
  all_goals (try simp only [Exit.inBlock, Exit.then])
  all_goals refine bodyPost_ret (v := .agg Z8) (results_cellW rfl _ _ _ ⟨w.heap.size, 0, none⟩ _ rfl HF2.out) rfl ?_
  all_goals exact ⟨by rw [HTG.out, HZ8.out], HBF.out⟩

set_option maxHeartbeats 2000000 in
set_option maxRecDepth 100000 in
theorem RefShort_any (A : Option Addr) (n c : Nat) (key : List UInt8) (A' : Option Addr) (m c' : Nat) (b : List UInt8) (w : World) (B B' : Nat) (hk : RB w B A n key) (hB : B ≤ w.heap.size) (hn : n ≤ 64)
    (hb : RB w B' A' m b) (hB' : B' ≤ w.heap.size) (hm : m ≤ 35184372088832) :
    Calls Try.prog 15 #[.slice A n c, .slice A' m c'] w (RetB w 16 ((tagB key b).take 16)) := by
  have hzb := zero32b
  have hzbs : (bv (zs 32)).toArray.size = 32 := rfl
  have HS32 := Lib.hid sto32_new
  have HT := Lib.hid (RefTag_any A n c key A' m c' b w B B' hk hB hn hb hB' hm)
  have HTL := Lib.hid (length_tagB key b)
  obtain ⟨tg, htg⟩ : ∃ tg, tagB key b = tg := ⟨_, rfl⟩
  rw [htg] at HT HTL ⊢
  generalize hzc : (bv (zs 32)).toArray = zc at *
  have hze : ¬ zc = #[] := by intro h; rw [h] at hzbs; cases hzbs
  clear hzc hk hb htg
  go_enter Try.func15, Try.ntmps15
  go_wp2_with fail
  obtain ⟨Z, hZ⟩ : ∃ Z, (bv tg).toArray = Z := ⟨_, rfl⟩
  rw [hZ] at HT
  refine HT.out.mono ?_
  rintro e w1 ⟨rfl, hb1⟩
  have hst := HS32.out w1 tg HTL.out Z hZ
  have hxs : Z.size = 32 := by rw [← hZ, List.size_toArray, length_bv, HTL.out]
  have hn5 := RowB.new w1 29 tg
  rw [hZ] at hn5
  have hZe : ¬ Z = #[] := by intro h; rw [h] at hxs; cases hxs
  have hb5 := (Below.refl w1.heap.size w1).alloc (Nat.le_refl _) (.cells Z 29)
  have hz1 := hb1.size
  have HB5 := Lib.hid (hb1.trans (hb5.mono (by omega)))
  have HS5 := Lib.hid (show RB (w1.alloc (.cells Z 29)) (w1.heap.size + 1) (some ⟨w1.heap.size, 0, none⟩) 16 (tg.take 16) by
    have h := rb_row hn5
    rw [HTL.out] at h
    exact h.take (k := 16) (by decide))
  have hz5 : (w1.alloc (.cells Z 29)).heap.size = w1.heap.size + 1 := by simp
  have hcp : (fun (x : Nat) => x) 16 ≤ 32 := by decide
  clear hZ hn5 hb1 hb5 hcp
  go_wp2_with fail
  clear hst hZe hxs hzb hzbs hze
  generalize w1.alloc (.cells Z 29) = w5 at *
  refine (Copy_any (some ⟨w1.heap.size, 0, none⟩) 16 32 (tg.take 16) w5 _ HS5.out (by omega) (by decide)).mono ?_
  rintro e w6 ⟨g6, c6, rfl, ho6, hb6⟩
  have HO6 := Lib.hid (own_base (base' := w.heap.size) ho6 (by omega))
  have HB6 := Lib.hid (HB5.out.trans (hb6.mono (by omega)))
  clear ho6 hb6
  go_wp2_with fail
  go_ret
  exact ⟨g6, c6, rfl, HO6.out, HB6.out⟩
end Go.Proofs.Ytkaakgabhhkggaa
