/-
  The walk of shallottop.ShallotBytes: for every list of lists of bytes and every list of numbers the law returns true and writes nothing that was there. Conditions: at most 1048576 bytes in all, and as many lists and numbers.
-/
import Derived.Test.YtobmopjfbgkfbaaShaOf
import Derived.Test.YtobmopjfbgkfbaaShaAbc
import Derived.Test.YtobmopjfbgkfbaaSame32
import Derived.Test.YtobmopjfbgkfbaaFewInts
import Derived.Test.YtobmopjfbgkfbaaTopSame
import Derived.Test.YtobmopjfbgkfbaaHexLaw
import Derived.Test.YtobmopjfbgkfbaaCurTake
import Derived.Test.YtobmopjfbgkfbaaRowsOf
import Derived.Lib.SlBytesConst
namespace Go.Proofs.Ytobmopjfbgkfbaa
open Go Go.RowKit Go.Sh

theorem RBB.one {w : World} {B n c : Nat} {A : Option Addr} {l : List UInt8} (h : RB w B A n l) (hc : n ≤ c) (hB : B ≤ w.heap.size) (t : TypeId) : RBB (w.alloc (.cells #[.slice A n c] t)) (w.heap.size + 1) (some ⟨w.heap.size, 0, none⟩) 1 [l] := by
  refine ⟨rfl, [.slice A n c], Reads.lit w t [.slice A n c] 1 1 rfl _ rfl, fun i hi => ?_⟩
  obtain rfl : i = 0 := by omega
  exact ⟨A, n, c, rfl, hc, (h.alloc hB _).more (by omega)⟩
theorem PartsAt.lit {w : World} {p base n c : Nat} {e t : TypeId} {A : Option Addr} {l : List UInt8} (ho : w.ownsRow base e 1 (.slice A n c) n (bv l)) (hp : p < base) (hpw : p < w.heap.size) : PartsAt (w.alloc (.cells #[.slice A n c] t)) p (some ⟨w.heap.size, 0, none⟩) 1 [l] := by
  have hb := (Below.refl w.heap.size w).alloc (Nat.le_refl _) (.cells #[.slice A n c] t)
  have ho' := own_later ho hb
  refine ⟨rfl, [.slice A n c], fun w' hg => ⟨w.heap.size + 1, rfl, .inr ⟨_, rfl, Nat.lt_succ_self _, fun j hj => ?_⟩⟩, fun k hk => ?_⟩
  · rw [add_mk, hg.cell_far _ (by simp) (by simp; omega), cell_of_row _ _ _ _ _ _ (heap_alloc_new w _)]
    simp
  · obtain rfl : k = 0 := by omega
    exact ⟨A, n, c, rfl, own_cap ho, fun w' hg => ⟨_, RB.of_own (ho'.kept hg (far_own ho' hp))⟩⟩
theorem store32_new (W : World) (l : List UInt8) (hl : l.length = 32) (X : Array Value) (hX : (bv l).toArray = X) : (storeCells ⟨W.heap.size, 0, none⟩ X.toList).run Try.prog (W.alloc (.cells (bv (zs 32)).toArray 24)) = .ok () (W.alloc (.cells X 24)) := by
  subst hX
  exact run_cells_new W _ _ _ (by rw [List.size_toArray, List.size_toArray, length_bv, length_bv, hl]; rfl) (bv_one l)
theorem lat_get (l : List UInt8) (k : Nat) : bt l k = ((l.getD k 0).toNat : Int) := by
  unfold bt
  rfl

theorem RB.litM (w : World) (e : TypeId) (l : List UInt8) (cs : List Value) (h : cs = bv l) (n : Nat) (hn : l.length = n) (fr : Nat × Nat) : RB (w.alloc (.cells cs.toArray e fr)) (w.heap.size + 1) (some ⟨w.heap.size, 0, none⟩) n l := by
  subst h
  refine ⟨by rw [length_bv]; omega, .inr ⟨_, rfl, Nat.lt_succ_self _, fun j hj => ?_⟩⟩
  rw [add_mk, cell_of_row (w.alloc (.cells (bv l).toArray e fr)) w.heap.size (0 + j) (bv l).toArray e fr (heap_alloc_new w _)]
  simp
set_option maxRecDepth 100000 in
set_option maxHeartbeats 4000000 in
theorem ShallotBytes_walk (A : Option Addr) (m c : Nat) (ls : List (List UInt8)) (A' : Option Addr) (n c' : Nat) (ns : List Int) (w : World) (hls : RBB w w.heap.size A m ls) (hsz : ls.flatten.length ≤ 1048576) (hm : m ≤ 1048576) (hns : RI w w.heap.size A' n ns) (hn : n ≤ 1048576) (hnc : n ≤ c') :
    Calls Try.prog 3 #[.slice A m c, .slice A' n c'] w (LawPost w) := by
  have HLS := Lib.hid hls
  have HNS := Lib.hid hns
  have hzb := zero32b
  have hzbs : (bv (zs 32)).toArray.size = 32 := rfl
  have HST := Lib.hid store32_new
  generalize hzc : (bv (zs 32)).toArray = zc at *
  have hze : ¬ zc = #[] := by intro h; rw [h] at hzbs; cases hzbs
  have hr1 := RB.litM w 5 [97, 98, 99] [.int .u8 97, .int .u8 98, .int .u8 99] rfl 3 rfl (3, 4)
  have hr2 := RBB.one hr1 (Nat.le_refl 3) (by simp) 26
  have hs1 : (w.alloc (.cells #[.int .u8 97, .int .u8 98, .int .u8 99] 5 (3, 4))).heap.size = w.heap.size + 1 := by simp
  rw [hs1] at hr2
  have HR2 := Lib.hid hr2
  have HB2 := Lib.hid (((Below.refl w.heap.size w).alloc (Nat.le_refl _) (.cells #[.int .u8 97, .int .u8 98, .int .u8 99] 5 (3, 4))).alloc (by rw [hs1]; omega) (.cells #[.slice (some ⟨w.heap.size, 0, none⟩) 3 3] 26))
  have hs2 : ((w.alloc (.cells #[.int .u8 97, .int .u8 98, .int .u8 99] 5 (3, 4))).alloc (.cells #[.slice (some ⟨w.heap.size, 0, none⟩) 3 3] 26)).heap.size = w.heap.size + 2 := by simp
  clear hls hns hzc hr1 hr2 hs1
  go_enter Try.func3, Try.ntmps3
  have hcv := fun (W : World) (C : Array Value) (n c : Nat) => Lib.run_convert_bytes_const (P := Try.prog) W 26 5 C n c Try.underlying26 Try.underlying5
  go_wp2_with fail
  clear hcv
  generalize (w.alloc (.cells #[.int .u8 97, .int .u8 98, .int .u8 99] 5 (3, 4))).alloc (.cells #[.slice (some ⟨w.heap.size, 0, none⟩) 3 3] 26) = w2 at *
  refine (Sum_any _ 1 _ [[97, 98, 99]] w2 _ HR2.out (by rw [hs2]; exact Nat.le_refl _) (by decide) (by decide)).mono ?_
  rintro e w3 ⟨rfl, hb⟩
  rw [show ([[97, 98, 99]] : List (List UInt8)).flatten = [97, 98, 99] from rfl]
  have HB3 := Lib.hid (HB2.out.trans (hb.mono (by omega)))
  have hn5 := RowB.new w3 24 (sumB [97, 98, 99])
  have c0 := hn5.cell (k := 0) (by rw [length_sumB]; decide)
  have c31 := hn5.cell (k := 31) (by rw [length_sumB]; decide)
  rw [show bt (sumB [97, 98, 99]) 0 = 186 by unfold bt; rw [abc_first]; rfl] at c0
  rw [show bt (sumB [97, 98, 99]) 31 = 173 by unfold bt; rw [abc_last]; rfl] at c31
  have HB4 := Lib.hid (HB3.out.trans ((Below.refl w3.heap.size w3).alloc (Nat.le_refl _) (.cells (bv (sumB [97, 98, 99])).toArray 24) |>.mono HB3.out.size))
  have hxs : (bv (sumB [97, 98, 99])).toArray.size = 32 := by rw [List.size_toArray, length_bv, length_sumB]
  clear hn5 hb HB2 HB3 HR2
  obtain ⟨Z, hZ⟩ : ∃ Z, (bv (sumB [97, 98, 99])).toArray = Z := ⟨_, rfl⟩
  have hst := HST.out w3 (sumB [97, 98, 99]) (length_sumB _) Z hZ
  rw [hZ] at c0 c31 HB4 hxs ⊢
  have hZe : ¬ Z = #[] := by intro h; rw [h] at hxs; cases hxs
  clear hZ
  go_wp2_with fail
  clear hst hZe hxs
  generalize w3.alloc (.cells Z 24) = w4 at *
  generalize w3.heap.size = g5 at *
  clear c0 c31
  refine (Join_any A m c ls w4 w.heap.size (HLS.out.below HB4.out) HB4.out.size (by omega) (by omega)).mono ?_
  rintro e w5 ⟨ga, na, ca, rfl, hna, ho, hb⟩
  have HO5 := Lib.hid ho
  have HNA := Lib.hid hna
  have hca := own_cap ho
  have hb4s := HB4.out.size
  have HB5 := Lib.hid (HB4.out.trans (hb.mono hb4s))
  have hna1 : na ≤ 1048576 := by omega
  have hz5 := hb.size
  obtain ⟨l, hl⟩ : ∃ l, ls.flatten = l := ⟨_, rfl⟩
  rw [hl] at HO5 HNA
  have HFL := Lib.hid hl
  clear ho hb hna HB4
  -- the one list
  have hr6 := RBB.one (RB.of_own HO5.out) hca (Nat.le_refl _) 26
  have HR6 := Lib.hid hr6
  have hb6 := (Below.refl w5.heap.size w5).alloc (Nat.le_refl _) (.cells #[.slice (some ⟨ga, 0, none⟩) na ca] 26)
  have HO6 := Lib.hid (own_later HO5.out hb6)
  have HB6 := Lib.hid (HB5.out.trans (hb6.mono HB5.out.size))
  have hz6 : (w5.alloc (.cells #[.slice (some ⟨ga, 0, none⟩) na ca] 26)).heap.size = w5.heap.size + 1 := by simp
  clear hr6 hb6 HO5 HB5
  go_wp2_with fail
  generalize w5.alloc (.cells #[.slice (some ⟨ga, 0, none⟩) na ca] 26) = w6 at *
  refine (Sum_any _ 1 _ [l] w6 _ HR6.out (by rw [hz6]; exact Nat.le_refl _) (by simp only [List.flatten_cons, List.flatten_nil, List.append_nil]; rw [HNA.out]; omega) (by decide)).mono ?_
  rintro e w7 ⟨rfl, hb⟩
  rw [show [l].flatten = l by simp]
  have HO7 := Lib.hid (own_later HO6.out hb)
  have HB7 := Lib.hid (HB6.out.trans (hb.mono HB6.out.size))
  have hz7 := hb.size
  have hb8 := (Below.refl w7.heap.size w7).alloc (Nat.le_refl _) (.cells (bv (sumB l)).toArray 24)
  have hn8 := RowB.new w7 24 (sumB l)
  have HO8 := Lib.hid (own_later HO7.out hb8)
  have HB8 := Lib.hid (HB7.out.trans (hb8.mono HB7.out.size))
  have hxs : (bv (sumB l)).toArray.size = 32 := by rw [List.size_toArray, length_bv, length_sumB]
  obtain ⟨Y, hY⟩ : ∃ Y, (bv (sumB l)).toArray = Y := ⟨_, rfl⟩
  have HY := Lib.hid hY
  have hst := HST.out w7 (sumB l) (length_sumB _) Y hY
  rw [hY] at hb8 HO8 HB8 hn8 hxs ⊢
  have hYe : ¬ Y = #[] := by intro h; rw [h] at hxs; cases hxs
  have hz8 : (w7.alloc (.cells Y 24)).heap.size = w7.heap.size + 1 := by simp
  have HN8 := Lib.hid hn8
  clear hY hb8 hn8 HO6 HB6 HO7 HB7 HR6 hb
  go_wp2_with fail
  clear hst hYe
  generalize w7.alloc (.cells Y 24) = w8 at *
  obtain ⟨gw, hgw⟩ : ∃ gw, w7.heap.size = gw := ⟨_, rfl⟩
  rw [hgw] at hz7 hz8 HN8 ⊢
  have HGW := Lib.hid hgw
  clear hgw
  refine (Hex_any _ na ca l w8 _ (RB.of_own HO8.out) (Nat.le_refl _) hna1).mono ?_
  rintro e w9 ⟨rfl, hb⟩
  have HO9 := Lib.hid (own_later HO8.out hb)
  have HN9 := Lib.hid (HN8.out.below hb (by omega))
  have HB9 := Lib.hid (HB8.out.trans (hb.mono HB8.out.size))
  have hz9 := hb.size
  clear hb HO8 HN8 HB8
  go_wp2_with fail
  refine (Unhex_any (hexL l) (2 * na) w9 (by rw [length_hexL, HNA.out]) (by omega)).mono ?_
  rw [(unhex_hex l).1, (unhex_hex l).2]
  rintro e w10 ⟨At, nt, ct, rfl, hnt, ho, hb⟩
  have HT10 := Lib.hid ho
  have HO10 := Lib.hid (own_later HO9.out hb)
  have HN10 := Lib.hid (HN9.out.below hb (by omega))
  have HB10 := Lib.hid (HB9.out.trans (hb.mono HB9.out.size))
  have hz10 := hb.size
  clear ho hb HO9 HN9 HB9 hnt
  have HI32 := Lib.hid (show (Try.prog.info? 24).map (·.size) = some (bv (sumB l)).length by rw [length_bv, length_sumB]; exact info32b)
  have hsame : ∀ W, (Op.equalIn 10000 24 (.agg Y) (.agg Y)).run Try.prog W = .ok true W := fun W => by rw [← HY.out]; exact sum_same _ (length_sumB _) W
  have hrg : w10.rangeAt gw 0 (bv (sumB l)) := blk_range HN10.out
  have hgw : gw < w10.heap.size := by omega
  go_wp2_with fail
  refine wp_region_noPanic ?_
  refine wp_region_held_drew (S := (fun w' => w'.rangeAt gw 0 (bv (sumB l)))) (by kernel_rfl) ?_ (fun hHeld => ?_)
  · (try dsimp only)
    exact hrg
  refine wpAnyH_take (i := 0) (v := ?v1) rfl (by kernel_rfl) (by kernel_rfl) (by kernel_rfl) (fun _ _ _ h => h) (Or.inl ⟨by rfl, ?y1⟩) (by assumption) ?r1
  case y1 => (intro w hSw; (try dsimp only at hSw); first | (go_simp; done) | (go_simp; with_reducible rfl))
  (try simp only [List.getElem_toArray, List.getElem_cons_zero, Act.put, List.setIfInBounds_toArray, List.set_cons_zero, List.set_cons_succ])
  refine wpAnyH_take (i := 1) (v := ?v2) rfl (by kernel_rfl) (by kernel_rfl) (by kernel_rfl) (fun _ _ _ h => h) (Or.inl ⟨by rfl, ?y2⟩) (by assumption) ?r2
  case y2 => (intro w hSw; (try dsimp only at hSw); first | (go_simp; done) | (go_simp; with_reducible rfl))
  (try simp only [List.getElem_toArray, List.getElem_cons_zero, List.getElem_cons_succ, Act.put, List.setIfInBounds_toArray, List.set_cons_zero, List.set_cons_succ])
  refine wpAnyH_take (i := 2) (v := ?v3) rfl (by kernel_rfl) (by kernel_rfl) (by kernel_rfl) (fun _ _ _ h => h) (Or.inl ⟨by rfl, ?y3⟩) (by assumption) ?r3
  case y3 => (intro w hSw; (try dsimp only at hSw); first | (go_simp; done) | (go_simp; with_reducible rfl))
  (try simp only [List.getElem_toArray, List.getElem_cons_zero, List.getElem_cons_succ, Act.put, List.setIfInBounds_toArray, List.set_cons_zero, List.set_cons_succ])
  refine wpAnyH_take (i := 3) (v := ?v4) rfl (by kernel_rfl) (by kernel_rfl) (by kernel_rfl) (fun _ _ _ h => h) (Or.inl ⟨by rfl, ?y4⟩) (by assumption) ?r4
  case y4 => (intro w hSw; (try dsimp only at hSw); first | (go_simp; done) | (go_simp; with_reducible rfl))
  (try simp only [List.getElem_toArray, List.getElem_cons_zero, List.getElem_cons_succ, Act.put, List.setIfInBounds_toArray, List.set_cons_zero, List.set_cons_succ])
  refine wpAnyH_take (i := 4) (v := ?v5) rfl (by kernel_rfl) (by kernel_rfl) (by kernel_rfl) (fun _ _ _ h => h) (Or.inl ⟨by rfl, ?y5⟩) (by assumption) ?r5
  case y5 => (intro w hSw; (try dsimp only at hSw); first | (go_simp; done) | (go_simp; with_reducible rfl))
  (try simp only [List.getElem_toArray, List.getElem_cons_zero, List.getElem_cons_succ, Act.put, List.setIfInBounds_toArray, List.set_cons_zero, List.set_cons_succ])
  refine wpAnyH_ready (rs := [5]) (by kernel_rfl) (by simp) ?_
  refine AllReadyH.cons rfl (fun K hK => ?_) AllReadyH.nil
  go_simp
  go_at_call 12
  refine (sameBytes_any At (some ⟨ga, 0, none⟩) nt na ct ca l l w10.drew _ _ (by exact (RB.of_own HT10.out).drew) (by exact (RB.of_own HO10.out).drew)).mono ?_
  rintro e wq ⟨rfl, rfl⟩
  rw [show decide (l = l) = true by simp]
  first | (refine hK.out _ _ ?_ (fun hHeld => ?_)) | (go_wp2_with fail; refine hK.out _ _ ?_ (fun hHeld => ?_))
  · (try dsimp only)
    exact hrg
  clear hK K
  (try simp only [List.getElem_toArray, List.getElem_cons_zero, List.getElem_cons_succ, Act.put, List.setIfInBounds_toArray, List.set_cons_zero, List.set_cons_succ])
  refine wpAnyH_take (i := 6) (v := ?v7) rfl (by kernel_rfl) (by kernel_rfl) (by kernel_rfl) (fun _ _ _ h => h) (Or.inl ⟨by rfl, ?y7⟩) (by assumption) ?r7
  case y7 => (intro w hSw; (try dsimp only at hSw); first | (go_simp; done) | (go_simp; with_reducible rfl))
  (try simp only [List.getElem_toArray, List.getElem_cons_zero, List.getElem_cons_succ, Act.put, List.setIfInBounds_toArray, List.set_cons_zero, List.set_cons_succ])
  refine wpAnyH_take (i := 7) (v := ?v8) rfl (by kernel_rfl) (by kernel_rfl) (by kernel_rfl) (fun _ _ _ h => h) (Or.inl ⟨by rfl, ?y8⟩) (by assumption) ?r8
  case y8 => (intro w hSw; (try dsimp only at hSw); first | (go_simp; done) | (go_simp; with_reducible rfl))
  (try simp only [List.getElem_toArray, List.getElem_cons_zero, List.getElem_cons_succ, Act.put, List.setIfInBounds_toArray, List.set_cons_zero, List.set_cons_succ])
  refine wpAnyH_take (i := 8) (v := ?v9) rfl (by kernel_rfl) (by kernel_rfl) (by kernel_rfl) (fun _ _ _ h => h) (Or.inl ⟨by rfl, ?y9⟩) (by assumption) ?r9
  case y9 => (intro w hSw; (try dsimp only at hSw); first | (go_simp; done) | (go_simp; with_reducible rfl))
  (try simp only [List.getElem_toArray, List.getElem_cons_zero, List.getElem_cons_succ, Act.put, List.setIfInBounds_toArray, List.set_cons_zero, List.set_cons_succ])
  refine wpAnyH_take (i := 9) (v := ?v10) rfl (by kernel_rfl) (by kernel_rfl) (by kernel_rfl) (fun _ _ _ h => h) (Or.inl ⟨by rfl, ?y10⟩) (by assumption) ?r10
  case y10 => (intro w hSw; (try dsimp only at hSw); first | (go_simp; done) | (go_simp; with_reducible rfl))
  (try simp only [List.getElem_toArray, List.getElem_cons_zero, List.getElem_cons_succ, Act.put, List.setIfInBounds_toArray, List.set_cons_zero, List.set_cons_succ])
  refine wpAnyH_take (i := 11) rfl (by kernel_rfl) (by kernel_rfl) (by kernel_rfl) (fun _ _ _ h => h) (yieldsIf_load_mid (by rfl) 24 _ rfl gw 0 rfl (bv (sumB l)) _ (fun w hSw => hSw) Try.underlying24 rfl HI32.out) (by assumption) ?_
  rw [HY.out]
  (try simp only [List.getElem_toArray, List.getElem_cons_zero, List.getElem_cons_succ, Act.put, List.setIfInBounds_toArray, List.set_cons_zero, List.set_cons_succ])
  refine wpAnyH_ready (rs := [10]) (by kernel_rfl) (by simp) ?_
  refine AllReadyH.cons rfl (fun K hK => ?_) AllReadyH.nil
  go_simp
  go_at_call 8
  refine (Sum_any A m c ls w10.drew w.heap.size (by exact (HLS.out.below (HB10.out.drew))) (by exact HB10.out.size) (by omega) (by omega)).mono ?_
  rintro e w11 ⟨rfl, hb11⟩
  rw [HFL.out, HY.out]
  have hb11' : Below w10.heap.size w10 w11 := ((Below.refl w10.heap.size w10).drew).trans hb11
  have hrg' : w11.rangeAt gw 0 (bv (sumB l)) := fun j v hv => (hb11'.cell (p := ⟨gw, 0 + j, none⟩) hgw).trans (hrg j v hv)
  first | (refine hK.out _ _ ?_ (fun hHeld => ?_)) | (go_wp2_with fail; refine hK.out _ _ ?_ (fun hHeld => ?_))
  · (try dsimp only)
    exact hrg'
  clear hK K
  (try simp only [List.getElem_toArray, List.getElem_cons_zero, List.getElem_cons_succ, Act.put, List.setIfInBounds_toArray, List.set_cons_zero, List.set_cons_succ])
  refine wpAnyH_take (i := 12) (v := ?v13) rfl (by kernel_rfl) (by kernel_rfl) (by kernel_rfl) (fun _ _ _ h => h) (Or.inl ⟨by rfl, ?y13⟩) (by assumption) ?r13
  case y13 => (intro w hSw; (try dsimp only at hSw); first | (go_simp; done) | (go_simp; with_reducible rfl))
  (try simp only [List.getElem_toArray, List.getElem_cons_zero, List.getElem_cons_succ, Act.put, List.setIfInBounds_toArray, List.set_cons_zero, List.set_cons_succ])
  refine wpAnyH_take (i := 13) (v := ?v14) rfl (by kernel_rfl) (by kernel_rfl) (by kernel_rfl) (fun _ _ _ h => h) (Or.inl ⟨by rfl, ?y14⟩) (by assumption) ?r14
  case y14 => (intro w hSw; (try dsimp only at hSw); first | (go_simp; done) | (go_simp; with_reducible rfl))
  (try simp only [List.getElem_toArray, List.getElem_cons_zero, List.getElem_cons_succ, Act.put, List.setIfInBounds_toArray, List.set_cons_zero, List.set_cons_succ])
  refine wpAnyH_done (by kernel_rfl) ?_ _
  refine NoPanic.normal ?_
  have HO11 := Lib.hid (own_later HO10.out hb11')
  have HN11 := Lib.hid (HN10.out.below hb11' hgw)
  have HB11 := Lib.hid (HB10.out.trans (hb11'.mono HB10.out.size))
  have hz11 := hb11'.size
  clear hb11 hb11' hrg hrg' HT10 HO10 HN10 HB10
  go_wp2_with fail
  refine (NewCursor_any _ na ca l w11 _ (RB.of_own HO11.out) (Nat.le_refl _) (by omega)).mono ?_
  rintro e w12 ⟨p, rfl, hcu, hb⟩
  have HC12 := Lib.hid hcu.top
  have HO12 := Lib.hid (own_later HO11.out hb)
  have HN12 := Lib.hid (HN11.out.below hb (by omega))
  have HB12 := Lib.hid (HB11.out.trans (hb.mono HB11.out.size))
  have hz12 := hb.size
  have hp12 : p < w12.heap.size := hcu.lt
  have hpge : w11.heap.size ≤ p := hcu.1
  have hga11 := (HO11.out.lt ga rfl).2
  clear hcu hb HO11 HN11 HB11
  go_wp2_with fail
  refine (New_any none 0 0 [] w12 0 ⟨rfl, [], Reads.none_, fun i hi => absurd hi (by omega)⟩ (Nat.zero_le _) (by decide) (by decide)).mono ?_
  rintro e w13 ⟨ph, rfl, hph, hh, hb⟩
  have HH13 := Lib.hid (show HashAt w13 116 ph [] (l.take 0) from hh)
  have HC13 := Lib.hid (CurTop.later HC12.out hb)
  have HO13 := Lib.hid (own_later HO12.out hb)
  have HN13 := Lib.hid (HN12.out.below hb (by omega))
  have HB13 := Lib.hid (HB12.out.trans (hb.mono HB12.out.size))
  have hz13 := hb.size
  have hph2 : ph < w13.heap.size := hh.lt
  clear hh hb HO12 HN12 HB12 HC12
  go_wp2_with fail
  refine (fewI_any A' n c' 40 ns w13 w.heap.size (HNS.out.below HB13.out) HB13.out.size hnc (by decide) (by omega)).mono ?_
  rintro e w14 ⟨Af, nf, cf, rfl, hnf, ho, hb⟩
  have HF14 := Lib.hid ho
  have HH14 := Lib.hid (HH13.out.below hb hph2)
  have HC14 := Lib.hid (CurTop.later HC13.out hb)
  have HO14 := Lib.hid (own_later HO13.out hb)
  have HN14 := Lib.hid (HN13.out.below hb (by omega))
  have HB14 := Lib.hid (HB13.out.trans (hb.mono HB13.out.size))
  have hz14 := hb.size
  have HFS := Lib.hid (show ∀ z ∈ ns.take 40, -9223372036854775808 ≤ z ∧ z ≤ 9223372036854775807 from fun z hz => HNS.out.2 z (List.mem_of_mem_take hz))
  obtain ⟨fs, hfs⟩ : ∃ fs, ns.take 40 = fs := ⟨_, rfl⟩
  rw [hfs] at HF14 HFS hnf
  have hnfl : nf ≤ 40 := by rw [← hnf, ← hfs, List.length_take]; omega
  have HNF := Lib.hid hnf
  have htop : w12.heap.size ≤ ph := hph
  obtain ⟨top, htp⟩ : ∃ top, w12.heap.size = top := ⟨_, rfl⟩
  rw [htp] at HC14 htop hp12
  clear hfs hnf ho hb HO13 HN13 HB13 HC13 HH13
  go_wp2_with fail
  go_loopw [13, 14, 15, 60] (fun _ _ _ i wr => ∃ k a : Nat, k ≤ nf ∧ i = .int .i64 (k : Int) ∧ CurTop wr w11.heap.size top p l a ∧ HashAt wr 116 ph [] (l.take a) ∧ wr.ownsRow w13.heap.size 3 1 (.slice Af nf cf) nf (iv fs) ∧ wr.ownsRow w4.heap.size 5 1 (.slice (some ⟨ga, 0, none⟩) na ca) na (bv l) ∧ RowB wr 24 gw (sumB l) ∧ Below w.heap.size w wr ∧ w14.heap.size ≤ wr.heap.size) (fun _ _ _ i _ => nf - (intOf i).toNat)
  case atStart => exact ⟨0, 0, Nat.zero_le _, rfl, HC14.out, HH14.out, HF14.out, HO14.out, HN14.out, HB14.out, Nat.le_refl _⟩
  case round =>
    obtain ⟨k, a, hk, rfl, h1, h2, h3, h4, h5, h6, hzr⟩ := hrel
    have HC := Lib.hid h1
    have HH := Lib.hid h2
    have HF := Lib.hid h3
    have HO := Lib.hid h4
    have HN := Lib.hid h5
    have HB := Lib.hid h6
    have hal : a ≤ na := by have := h1.1.len; rw [HNA.out] at this; exact this
    have hga := (h4.lt ga rfl).2
    clear h1 h2 h3 h4 h5 h6 HC14 HH14 HF14 HO14 HN14 HB14
    by_cases hlt : k < nf
    · obtain ⟨af, haf, _, hcell, hlo, hhi⟩ := (RI.of_own HF.out HFS.out).at_ hlt
      subst haf
      generalize it fs k = z at *
      go_wp2_with fail
      refine (TakeT_any p w11.heap.size top l a z wr HC.out (by rw [HNA.out]; omega)).mono ?_
      rintro e w15 ⟨A5, n5, c5, rfl, hn5, ho5, _, hc5, hg5⟩
      have HC15 := Lib.hid hc5
      have HH15 := Lib.hid (HH.out.grown hg5 (by intro h; injection h with h; omega))
      have HF15 := Lib.hid (HF.out.kept hg5 (far_own HF.out (by omega)))
      have HO15 := Lib.hid (HO.out.kept hg5 (.inr (by simp only [Value.ownBlock]; intro h; injection h with h; omega)))
      have HN15 := Lib.hid (HN.out.grown hg5 (by intro h; injection h with h; omega))
      have HB15 := Lib.hid (HB.out.grown hg5 HB.out.size (by intro x hx; injection hx with hx; omega))
      have hz15 := hg5.size
      have HT5 := Lib.hid ho5
      have HN5 := Lib.hid hn5
      have hc5' := own_cap ho5
      have hpt := PartsAt.lit (t := 26) ho5 (show ph < wr.heap.size by omega) (by omega)
      have hbl := (Below.refl w15.heap.size w15).alloc (Nat.le_refl _) (.cells #[.slice A5 n5 c5] 26)
      have HPT := Lib.hid hpt
      have HC16 := Lib.hid (CurTop.later HC15.out hbl)
      have HH16 := Lib.hid (HH15.out.below hbl (by omega))
      have HF16 := Lib.hid (own_later HF15.out hbl)
      have HO16 := Lib.hid (own_later HO15.out hbl)
      have HN16 := Lib.hid (HN15.out.below hbl (by omega))
      have HB16 := Lib.hid (HB15.out.trans (hbl.mono HB15.out.size))
      have hz16 : (w15.alloc (.cells #[.slice A5 n5 c5] 26)).heap.size = w15.heap.size + 1 := by simp
      have HADD := Lib.hid (show l.take (takN l.length a z) = l.take a ++ takL l a z by
        unfold takN takL
        split
        · rw [List.take_add]
        · rw [List.append_nil])
      have hn5l : n5 ≤ 1048576 := by
        rw [← hn5]
        unfold takL
        split
        · rw [List.length_take, List.length_drop, HNA.out]; omega
        · exact Nat.zero_le _
      have HLT := Lib.hid (show (l.take a).length ≤ 1048576 by rw [List.length_take, HNA.out]; omega)
      clear hc5 hg5 ho5 hn5 hpt hbl HC15 HH15 HF15 HO15 HN15 HB15 HC HH HF HO HN HB hcell
      have hcases : (z < 0 ∧ takE l.length a z = 1 ∧ n5 = 0) ∨ (0 < z ∧ takE l.length a z = 2 ∧ n5 = 0) ∨ (0 ≤ z ∧ takE l.length a z = 0 ∧ (n5 : Int) = z) := by
        have h5 := HN5.out
        unfold takL at h5
        have hna5 := HNA.out
        by_cases hz0 : z < 0
        · have e1 : takE l.length a z = 1 := by simp [takE, hz0]
          rw [e1] at h5
          exact .inl ⟨hz0, e1, h5.symm⟩
        · by_cases hbig : ((l.length - a : Nat) : Int) < z
          · have e1 : takE l.length a z = 2 := by simp only [takE]; rw [if_neg hz0, if_pos hbig]
            rw [e1] at h5
            exact .inr (.inl ⟨by omega, e1, h5.symm⟩)
          · have e1 : takE l.length a z = 0 := by simp only [takE]; rw [if_neg hz0, if_neg hbig]
            rw [e1, if_pos rfl, List.length_take, List.length_drop] at h5
            exact .inr (.inr ⟨by omega, e1, by omega⟩)
      generalize takE l.length a z = te at *
      rcases hcases with ⟨hz0, rfl, rfl⟩ | ⟨hz0, rfl, rfl⟩ | ⟨hz0, rfl, hz5⟩
      all_goals
        go_wp2_with fail
        refine (Write_any 116 ph [] (l.take a) _ 1 1 [takL l a z] _ HH16.out HPT.out (by have h1 := HLT.out; have h2 := HN5.out; simp only [List.flatten_cons, List.flatten_nil, List.append_nil]; omega) (by decide)).mono ?_
        rintro e w17 ⟨rfl, hh, hg⟩
        rw [show [takL l a z].flatten = takL l a z by simp, ← HADD.out] at hh
        have HH17 := Lib.hid hh
        have HC17 := Lib.hid (HC16.out.above hg htop)
        have HF17 := Lib.hid (HF16.out.kept hg (far_own HF16.out (by omega)))
        have HO17 := Lib.hid (HO16.out.kept hg (.inr (by simp only [Value.ownBlock]; intro h; injection h with h; omega)))
        have HN17 := Lib.hid (HN16.out.grown hg (by intro h; injection h with h; omega))
        have HB17 := Lib.hid (HB16.out.grown hg HB16.out.size (by intro x hx; injection hx with hx; omega))
        have hz17 := hg.size
        clear hh hg HH16 HC16 HF16 HO16 HN16 HB16 HPT HT5
        go_wp2_with fail
        exact ⟨⟨k + 1, takN l.length a z, by omega, by go_num, HC17.out, HH17.out, HF17.out, HO17.out, HN17.out, HB17.out, by omega⟩, by simp [intOf]; omega⟩
    · obtain rfl : k = nf := by omega
      go_wp2_with fail
      refine (Left_any p w11.heap.size l a wr HC.out.1 (by rw [HNA.out]; omega)).mono ?_
      rintro e w15 ⟨rfl, nd, rfl⟩
      have HC15 := Lib.hid (show CurTop (wr.drewN nd) w11.heap.size top p l a from HC.out)
      have HH15 := Lib.hid (show HashAt (wr.drewN nd) 116 ph [] (l.take a) from HH.out)
      have HO15 := Lib.hid (show (wr.drewN nd).ownsRow w4.heap.size 5 1 (.slice (some ⟨ga, 0, none⟩) na ca) na (bv l) from HO.out)
      have HN15 := Lib.hid (show RowB (wr.drewN nd) 24 gw (sumB l) from HN.out)
      have HB15 := Lib.hid (below_drewN HB.out nd)
      have hz15 : wr.heap.size = (wr.drewN nd).heap.size := rfl
      clear HC HH HF HO HN HB
      generalize wr.drewN nd = w15 at *
      have hte : takE l.length a ((l.length - a : Nat) : Int) = 0 := by simp [takE]
      have htl : takL l a ((l.length - a : Nat) : Int) = l.drop a := by
        unfold takL
        rw [hte, if_pos rfl, Int.toNat_natCast, List.take_of_length_le (by rw [List.length_drop]; exact Nat.le_refl _)]
      have htn : takN l.length a ((l.length - a : Nat) : Int) = l.length := by
        unfold takN
        rw [hte, if_pos rfl, Int.toNat_natCast, HNA.out]
        omega
      have HTK := Lib.hid (show ∀ W, CurTop W w11.heap.size top p l a → Calls Try.prog 16 #[.pointer (some ⟨p, 0, none⟩), .int .i64 ((l.length - a : Nat) : Int)] W (fun e w' => ∃ A n c, e = .returned (.tuple #[.slice A n c, .int .i64 0]) ∧ (l.drop a).length = n ∧ w'.ownsRow W.heap.size 5 1 (.slice A n c) n (bv (l.drop a)) ∧ CurTop w' w11.heap.size top p l l.length ∧ W.grownBy w' (some p)) from fun W h => by
        refine (TakeT_any p w11.heap.size top l a _ W h (by rw [HNA.out]; omega)).mono ?_
        rintro e w' ⟨A5, n5, c5, h1, h2, h3, _, h4, h5⟩
        rw [hte] at h1
        rw [htl] at h2 h3
        rw [htn] at h4
        exact ⟨A5, n5, c5, h1, h2, h3, h4, h5⟩)
      obtain ⟨lf, hlf⟩ : ∃ lf, ((l.length - a : Nat) : Int) = lf := ⟨_, rfl⟩
      rw [hlf] at HTK ⊢
      clear hte htl htn hlf
      go_wp2_with fail
      refine (HTK.out w15 HC15.out).mono ?_
      rintro e w16 ⟨A5, n5, c5, rfl, hn5, ho5, hc5, hg5⟩
      have HC16 := Lib.hid hc5
      have HH16 := Lib.hid (HH15.out.grown hg5 (by intro h; injection h with h; omega))
      have HO16 := Lib.hid (HO15.out.kept hg5 (.inr (by simp only [Value.ownBlock]; intro h; injection h with h; omega)))
      have HN16 := Lib.hid (HN15.out.grown hg5 (by intro h; injection h with h; omega))
      have HB16 := Lib.hid (HB15.out.grown hg5 HB15.out.size (by intro x hx; injection hx with hx; omega))
      have hz16 := hg5.size
      have HT5 := Lib.hid ho5
      have HN5 := Lib.hid hn5
      have hc5' := own_cap ho5
      clear hc5 hg5 ho5 hn5 HC15 HH15 HO15 HN15 HB15 HTK
      go_wp2_with fail
      refine (Left_any p w11.heap.size l l.length w16 HC16.out.1 (by rw [HNA.out]; omega)).mono ?_
      rintro e w17 ⟨rfl, nd2, rfl⟩
      rw [Nat.sub_self]
      have HC17 := Lib.hid (show CurTop (w16.drewN nd2) w11.heap.size top p l l.length from HC16.out)
      have HH17 := Lib.hid (show HashAt (w16.drewN nd2) 116 ph [] (l.take a) from HH16.out)
      have HO17 := Lib.hid (show (w16.drewN nd2).ownsRow w4.heap.size 5 1 (.slice (some ⟨ga, 0, none⟩) na ca) na (bv l) from HO16.out)
      have HT17 := Lib.hid (show (w16.drewN nd2).ownsRow w15.heap.size 5 1 (.slice A5 n5 c5) n5 (bv (l.drop a)) from HT5.out)
      have HN17 := Lib.hid (show RowB (w16.drewN nd2) 24 gw (sumB l) from HN16.out)
      have HB17 := Lib.hid (below_drewN HB16.out nd2)
      have hz17 : w16.heap.size = (w16.drewN nd2).heap.size := rfl
      clear HC16 HH16 HO16 HN16 HB16 HT5
      generalize w16.drewN nd2 = w17 at *
      simp only [Int.cast_ofNat_Int]
      go_wp2_with fail
      refine (Done_any p w11.heap.size l l.length w17 HC17.out.1).mono ?_
      rintro e w18 ⟨rfl, rfl⟩
      rw [HNA.out]
      go_wp2_with fail
      have hgwl : gw < w17.heap.size := by omega
      have hphl : ph < w17.heap.size := by omega
      have HPA := Lib.hid (PartsAt.lit (w := w17.drew) (t := 26) (show w17.drew.ownsRow w15.heap.size 5 1 (.slice A5 n5 c5) n5 (bv (l.drop a)) from HT17.out) (show ph < w15.heap.size by omega) hphl)
      have hbl := (Below.refl w17.heap.size w17.drew).alloc (show w17.heap.size ≤ w17.drew.heap.size from Nat.le_refl _) (.cells #[.slice A5 n5 c5] 26)
      have HHA := Lib.hid ((show HashAt w17.drew 116 ph [] (l.take a) from HH17.out).below hbl hphl)
      have hrg : w17.rangeAt gw 0 (bv (sumB l)) := blk_range HN17.out
      have hrgA : (w17.drew.alloc (.cells #[.slice A5 n5 c5] 26)).rangeAt gw 0 (bv (sumB l)) := fun j v hv => (hbl.cell (p := ⟨gw, 0 + j, none⟩) hgwl).trans (hrg j v hv)
      have HBA := Lib.hid ((HB17.out.drew).trans (hbl.mono HB17.out.size))
      have hzA : (w17.drew.alloc (.cells #[.slice A5 n5 c5] 26)).heap.size = w17.heap.size + 1 := by simp
      have HTD := Lib.hid (show l.take a ++ [l.drop a].flatten = l by simp)
      have HLB := Lib.hid (show (l.take a).length + [l.drop a].flatten.length ≤ 4611686018427387904 by simp only [List.flatten_cons, List.flatten_nil, List.append_nil, List.length_take, List.length_drop, HNA.out]; omega)
      clear hbl
      refine wp_region_noPanic ?_
      refine wp_region_held_drew (S := (fun w' => w'.rangeAt gw 0 (bv (sumB l)))) (by kernel_rfl) ?_ (fun hHeld => ?_)
      · (try dsimp only)
        exact hrg
      refine wpAnyH_take (i := 0) (v := ?v15) rfl (by kernel_rfl) (by kernel_rfl) (by kernel_rfl) (fun _ _ _ h => h) (Or.inl ⟨by rfl, ?y15⟩) (by assumption) ?r15
      case y15 => (intro w hSw; (try dsimp only at hSw); first | (go_simp; done) | (go_simp; with_reducible rfl))
      (try simp only [List.getElem_toArray, List.getElem_cons_zero, Act.put, List.setIfInBounds_toArray, List.set_cons_zero, List.set_cons_succ])
      refine wpAnyH_take (i := 1) (v := ?v16) rfl (by kernel_rfl) (by kernel_rfl) (by kernel_rfl) (fun _ _ _ h => h) (Or.inl ⟨by rfl, ?y16⟩) (by assumption) ?r16
      case y16 => (intro w hSw; (try dsimp only at hSw); first | (go_simp; done) | (go_simp; with_reducible rfl))
      (try simp only [List.getElem_toArray, List.getElem_cons_zero, List.getElem_cons_succ, Act.put, List.setIfInBounds_toArray, List.set_cons_zero, List.set_cons_succ])
      refine wpAnyH_take (i := 5) rfl (by kernel_rfl) (by kernel_rfl) (by kernel_rfl) (fun _ _ _ h => h) (yieldsIf_load_mid (by rfl) 24 _ rfl gw 0 rfl (bv (sumB l)) _ (fun w hSw => hSw) Try.underlying24 rfl HI32.out) (by assumption) ?_
      rw [HY.out]
      (try simp only [List.getElem_toArray, List.getElem_cons_zero, List.getElem_cons_succ, Act.put, List.setIfInBounds_toArray, List.set_cons_zero, List.set_cons_succ])
      refine wpAnyH_ready (rs := [2]) (by kernel_rfl) (by simp) ?_
      refine AllReadyH.cons rfl (fun K hK => ?_) AllReadyH.nil
      go_simp
      first | (refine hK.out _ _ ?_ (fun hHeld => ?_)) | (go_wp2_with fail; refine hK.out _ _ ?_ (fun hHeld => ?_))
      · (try dsimp only)
        exact hrgA
      clear hK K
      (try simp only [List.getElem_toArray, List.getElem_cons_zero, List.getElem_cons_succ, Act.put, List.setIfInBounds_toArray, List.set_cons_zero, List.set_cons_succ])
      refine wpAnyH_ready (rs := [3]) (by kernel_rfl) (by simp) ?_
      refine AllReadyH.cons rfl (fun K hK => ?_) AllReadyH.nil
      go_simp
      go_at_call 17
      refine (Write_any 116 ph [] (l.take a) _ 1 1 [l.drop a] (w17.drew.alloc (.cells #[.slice A5 n5 c5] 26)) (by exact HHA.out) (by exact HPA.out) HLB.out (by decide)).mono ?_
      rintro e w19 ⟨rfl, hh19, hg19⟩
      rw [HTD.out] at hh19
      have hrgB : w19.rangeAt gw 0 (bv (sumB l)) := fun j v hv => (hg19.cell_far ⟨gw, 0 + j, none⟩ (by show gw < _; omega) (by intro h; injection h with h; have h' : gw = ph := h; omega)).trans (hrgA j v hv)
      have HBB := Lib.hid (HBA.out.grown hg19 HBA.out.size (by intro x hx; injection hx with hx; omega))
      have hzB := hg19.size
      first | (refine hK.out _ _ ?_ (fun hHeld => ?_)) | (go_wp2_with fail; refine hK.out _ _ ?_ (fun hHeld => ?_))
      · (try dsimp only)
        exact hrgB
      clear hK K
      (try simp only [List.getElem_toArray, List.getElem_cons_zero, List.getElem_cons_succ, Act.put, List.setIfInBounds_toArray, List.set_cons_zero, List.set_cons_succ])
      refine wpAnyH_ready (rs := [4]) (by kernel_rfl) (by simp) ?_
      refine AllReadyH.cons rfl (fun K hK => ?_) AllReadyH.nil
      go_simp
      go_at_call 20
      refine (HashSum_any 116 ph [] l w19 (by exact hh19) (by rw [HNA.out]; omega)).mono ?_
      rintro e w20 ⟨rfl, hb20⟩
      rw [HY.out]
      have hrgC : w20.rangeAt gw 0 (bv (sumB l)) := fun j v hv => (hb20.cell (p := ⟨gw, 0 + j, none⟩) (by show gw < _; omega)).trans (hrgB j v hv)
      have hh20 := hh19.below hb20 (by omega)
      have HBC := Lib.hid (HBB.out.trans (hb20.mono HBB.out.size))
      first | (refine hK.out _ _ ?_ (fun hHeld => ?_)) | (go_wp2_with fail; refine hK.out _ _ ?_ (fun hHeld => ?_))
      · (try dsimp only)
        exact hrgC
      clear hK K
      (try simp only [List.getElem_toArray, List.getElem_cons_zero, List.getElem_cons_succ, Act.put, List.setIfInBounds_toArray, List.set_cons_zero, List.set_cons_succ])
      refine wpAnyH_take (i := 6) (v := ?v21) rfl (by kernel_rfl) (by kernel_rfl) (by kernel_rfl) (fun _ _ _ h => h) (Or.inl ⟨by rfl, ?y21⟩) (by assumption) ?r21
      case y21 => (intro w hSw; (try dsimp only at hSw); first | (go_simp; done) | (go_simp; with_reducible rfl))
      (try simp only [List.getElem_toArray, List.getElem_cons_zero, List.getElem_cons_succ, Act.put, List.setIfInBounds_toArray, List.set_cons_zero, List.set_cons_succ])
      refine wpAnyH_take (i := 7) (v := ?v22) rfl (by kernel_rfl) (by kernel_rfl) (by kernel_rfl) (fun _ _ _ h => h) (Or.inl ⟨by rfl, ?y22⟩) (by assumption) ?r22
      case y22 => (intro w hSw; (try dsimp only at hSw); first | (go_simp; done) | (go_simp; with_reducible rfl))
      (try simp only [List.getElem_toArray, List.getElem_cons_zero, List.getElem_cons_succ, Act.put, List.setIfInBounds_toArray, List.set_cons_zero, List.set_cons_succ])
      refine wpAnyH_take (i := 8) (v := ?v23) rfl (by kernel_rfl) (by kernel_rfl) (by kernel_rfl) (fun _ _ _ h => h) (Or.inl ⟨by rfl, ?y23⟩) (by assumption) ?r23
      case y23 => (intro w hSw; (try dsimp only at hSw); first | (go_simp; done) | (go_simp; with_reducible rfl))
      (try simp only [List.getElem_toArray, List.getElem_cons_zero, List.getElem_cons_succ, Act.put, List.setIfInBounds_toArray, List.set_cons_zero, List.set_cons_succ])
      refine wpAnyH_take (i := 10) (v := ?v24) rfl (by kernel_rfl) (by kernel_rfl) (by kernel_rfl) (fun _ _ _ h => h) (Or.inl ⟨by rfl, ?y24⟩) (by assumption) ?r24
      case y24 => (intro w hSw; (try dsimp only at hSw); first | (go_simp; done) | (go_simp; with_reducible rfl))
      (try simp only [List.getElem_toArray, List.getElem_cons_zero, List.getElem_cons_succ, Act.put, List.setIfInBounds_toArray, List.set_cons_zero, List.set_cons_succ])
      refine wpAnyH_take (i := 11) (v := ?v25) rfl (by kernel_rfl) (by kernel_rfl) (by kernel_rfl) (fun _ _ _ h => h) (Or.inl ⟨by rfl, ?y25⟩) (by assumption) ?r25
      case y25 => (intro w hSw; (try dsimp only at hSw); first | (go_simp; done) | (go_simp; with_reducible rfl))
      (try simp only [List.getElem_toArray, List.getElem_cons_zero, List.getElem_cons_succ, Act.put, List.setIfInBounds_toArray, List.set_cons_zero, List.set_cons_succ])
      refine wpAnyH_ready (rs := [9]) (by kernel_rfl) (by simp) ?_
      refine AllReadyH.cons rfl (fun K hK => ?_) AllReadyH.nil
      go_simp
      go_at_call 21
      refine (Len_any 116 ph [] l w20 (by exact hh20)).mono ?_
      rintro e w21 ⟨rfl, rfl⟩
      rw [HNA.out]
      first | (refine hK.out _ _ ?_ (fun hHeld => ?_)) | (go_wp2_with fail; refine hK.out _ _ ?_ (fun hHeld => ?_))
      · (try dsimp only)
        exact hrgC
      clear hK K
      (try simp only [List.getElem_toArray, List.getElem_cons_zero, List.getElem_cons_succ, Act.put, List.setIfInBounds_toArray, List.set_cons_zero, List.set_cons_succ])
      refine wpAnyH_take (i := 12) (v := ?v27) rfl (by kernel_rfl) (by kernel_rfl) (by kernel_rfl) (fun _ _ _ h => h) (Or.inl ⟨by rfl, ?y27⟩) (by assumption) ?r27
      case y27 => (intro w hSw; (try dsimp only at hSw); first | (go_simp; done) | (go_simp; with_reducible rfl))
      (try simp only [List.getElem_toArray, List.getElem_cons_zero, List.getElem_cons_succ, Act.put, List.setIfInBounds_toArray, List.set_cons_zero, List.set_cons_succ])
      refine wpAnyH_take (i := 13) (v := ?v28) rfl (by kernel_rfl) (by kernel_rfl) (by kernel_rfl) (fun _ _ _ h => h) (Or.inl ⟨by rfl, ?y28⟩) (by assumption) ?r28
      case y28 => (intro w hSw; (try dsimp only at hSw); first | (go_simp; done) | (go_simp; with_reducible rfl))
      (try simp only [List.getElem_toArray, List.getElem_cons_zero, List.getElem_cons_succ, Act.put, List.setIfInBounds_toArray, List.set_cons_zero, List.set_cons_succ])
      refine wpAnyH_take (i := 14) (v := ?v29) rfl (by kernel_rfl) (by kernel_rfl) (by kernel_rfl) (fun _ _ _ h => h) (Or.inl ⟨by rfl, ?y29⟩) (by assumption) ?r29
      case y29 => (intro w hSw; (try dsimp only at hSw); first | (go_simp; done) | (go_simp; with_reducible rfl))
      (try simp only [List.getElem_toArray, List.getElem_cons_zero, List.getElem_cons_succ, Act.put, List.setIfInBounds_toArray, List.set_cons_zero, List.set_cons_succ])
      refine wpAnyH_done (by kernel_rfl) ?_ _
      refine NoPanic.normal ?_
      go_wp2_with fail
      go_ret
      exact ⟨rfl, HBC.out⟩
end Go.Proofs.Ytobmopjfbgkfbaa
