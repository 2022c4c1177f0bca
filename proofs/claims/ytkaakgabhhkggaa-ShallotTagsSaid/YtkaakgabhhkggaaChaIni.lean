/-
  Rows of sixteen words in memory; contracts of chacha.round in these words and of chacha.initial. Conditions: the lists have their lengths.
-/
import Derived.Test.YtkaakgabhhkggaaChaRound
namespace Go.Proofs.Ytkaakgabhhkggaa
open Go Go.RowKit Go.Sh

/-- block p is a row of sixteen words -/
def Row16 (w : World) (p : Nat) (s : List Int) : Prop := w.heap[p]? = some (.cells (wv s).toArray 103 (0, 0)) ∧ s.length = 16
section
variable {w w' : World} {p k : Nat} {s : List Int}
theorem Row16.cell (h : Row16 w p s) (hk : k < 16) : w.cell? ⟨p, k, none⟩ = some (.int .u32 (it s k)) := by
  rw [blk_cell h.1, List.getElem?_toArray, wv_at s k (by rw [h.2]; exact hk)]
theorem Row16.free (h : Row16 w p s) (i : Nat) : w.frozen? ⟨p, i, none⟩ = false := frozen_of_row _ _ i _ _ h.1
theorem Row16.set (h : Row16 w p s) (i : Nat) (x : Int) : Row16 (w.setCell ⟨p, i, none⟩ (.int .u32 x)) p (s.set i x) := by
  refine ⟨?_, by rw [List.length_set]; exact h.2⟩
  rw [blk_set h.1, wv_set]
theorem Row16.lt (h : Row16 w p s) : p < w.heap.size := (Array.getElem?_eq_some_iff.1 h.1).1
theorem Row16.keep (h : Row16 w p s) (hk : w'.heap[p]? = w.heap[p]?) : Row16 w' p s := ⟨hk.trans h.1, h.2⟩
theorem Row16.below {B : Nat} (h : Row16 w p s) (hb : Below B w w') (hp : p < B) : Row16 w' p s := h.keep (hb.block p hp)
theorem Row16.grown {r : Option Nat} (h : Row16 w p s) (hg : w.grownBy w' r) (hr : r ≠ some p) : Row16 w' p s := h.keep (hg.block p h.lt (Ne.symm hr))
theorem Row16.drew (h : Row16 w p s) : Row16 w.drew p s := h
theorem Row16.drewN (h : Row16 w p s) (n : Nat) : Row16 (w.drewN n) p s := h
theorem Row16.size (h : Row16 w p s) : (wv s).toArray.size = 16 := by rw [List.size_toArray, length_wv, h.2]
theorem Row16.new (w : World) {s : List Int} (h : s.length = 16) : Row16 (w.alloc (.cells (wv s).toArray 103)) w.heap.size s := ⟨heap_alloc_new w _, h⟩
set_option maxRecDepth 100000 in
theorem info16 : (Try.prog.info? 103).map (·.size) = some 16 := by kernel_rfl
theorem Row16.loadAt (h : Row16 w p s) : (Instr.loadAt 103 (.pointer (some ⟨p, 0, none⟩))).run Try.prog w = .ok (.agg (wv s).toArray) w :=
  run_loadAt_mid w p 0 _ (wv s) _ (blk_range h.1) Try.underlying103 rfl (by rw [length_wv, h.2]; exact info16)
theorem Row16.loadVar (h : Row16 w p s) : (loadVar 103 ⟨p, 0, none⟩).run Try.prog w = .ok (.agg (wv s).toArray) w :=
  run_loadVar_mid w p 0 _ (wv s) _ (blk_range h.1) Try.underlying103 rfl (by rw [length_wv, h.2]; exact info16)
theorem Row16.store (h : Row16 w p s) {r : List Int} (hr : r.length = 16) : (storeCells ⟨p, 0, none⟩ (wv r).toArray.toList).run Try.prog w = .ok () (w.setRow p (wv r).toArray) :=
  run_cells_whole w p _ _ _ h.1 (by rw [h.size, List.size_toArray, length_wv, hr]) (wv_one r)
theorem Row16.setRow (h : Row16 w p s) {r : List Int} (hr : r.length = 16) : Row16 (w.setRow p (wv r).toArray) p r := ⟨setRow_heap w p _ _ _ _ h.1, hr⟩
end
theorem wl_load16 {w : World} {p : Nat} {s : List Int} {ops : Array Oper} {rest : List Oper} {op : Oper} {a : Act} {Q : Exit → Act → World → Prop} (x : Operand) (h : Row16 w p s) (hw : Region.wanted op (yielded ops a.tmps) = true) (ho : op.op = .load 103 x)
    (hx : a.eval x = .pointer (some ⟨p, 0, none⟩)) (X : Array Value) (hX : (wv s).toArray = X) (hk : wpList Try.prog ops Q rest (a.put op.dst (.agg X)) w) : wpList Try.prog ops Q (op :: rest) a w :=
  wl_load_mid hw _ x ho p 0 hx (wv s) _ (blk_range h.1) Try.underlying103 rfl (by rw [length_wv, h.2]; exact info16) (by rw [hX]; exact hk)
theorem store16_new (w : World) {r s : List Int} (hr : r.length = 16) (hs : s.length = 16) : (storeCells ⟨w.heap.size, 0, none⟩ (wv r).toArray.toList).run Try.prog (w.alloc (.cells (wv s).toArray 103)) = .ok () (w.alloc (.cells (wv r).toArray 103)) :=
  run_cells_new w _ _ _ (by rw [List.size_toArray, List.size_toArray, length_wv, length_wv, hr, hs]) (wv_one r)

theorem grown_trans {a w w' : World} {row : Option Nat} (h : a.grownBy w row) (k : w.grownBy w' row) : a.grownBy w' row :=
  ⟨k.os.trans h.os, k.tape.trans h.tape, k.output.trans h.output, Nat.le_trans h.size k.size, fun i hi hn => (k.block i (Nat.lt_of_lt_of_le hi h.size) hn).trans (h.block i hi hn)⟩
theorem round_any (w : World) (p a b c d : Nat) (s : List Int) (h : Row16 w p s) (hw : AW s) (ha : a < 16) (hb : b < 16) (hc : c < 16) (hd : d < 16) (nab : a ≠ b) (nac : a ≠ c) (nad : a ≠ d) (nbc : b ≠ c) (nbd : b ≠ d) (ncd : c ≠ d) :
    Calls Try.prog 68 #[.pointer (some ⟨p, 0, none⟩), .int .i64 (a : Int), .int .i64 (b : Int), .int .i64 (c : Int), .int .i64 (d : Int)] w (fun e w' => e = .returned (.tuple #[]) ∧ Row16 w' p (qr s a b c d) ∧ w.grownBy w' (some p) ∧ w'.heap.size = w.heap.size) := by
  refine (round_raw w p a b c d _ _ _ _ ha hb hc hd nab nac nad nbc nbd ncd (h.cell ha) (h.cell hb) (h.cell hc) (h.cell hd) (h.free a) (h.free b) (h.free c) (h.free d) (hw.at_ a) (hw.at_ b) (hw.at_ c) (hw.at_ d)).mono ?_
  rintro e w' ⟨rfl, rfl⟩
  refine ⟨rfl, (((h.drew.set a _).set b _).set c _).set d _, ?_, by simp [World.setCell]⟩
  have h0 : w.grownBy w.drew (some p) := ⟨rfl, rfl, rfl, Nat.le_refl _, fun _ _ _ => rfl⟩
  exact grown_trans (grown_trans (grown_trans (grown_trans h0 (grown_setCell _ p a _)) (grown_setCell _ p b _)) (grown_setCell _ p c _)) (grown_setCell _ p d _)

/-- filled up with noughts -/
def pad16 (s : List Int) : List Int := s ++ List.replicate (16 - s.length) 0
theorem length_pad16 {s : List Int} (h : s.length ≤ 16) : (pad16 s).length = 16 := by simp [pad16]; omega
theorem pad16_set {s : List Int} {n : Nat} (hn : s.length = n) (h : n < 16) (x : Int) : (pad16 s).set n x = pad16 (s ++ [x]) := by
  subst hn
  unfold pad16
  rw [List.set_append_right _ _ (Nat.le_refl _), Nat.sub_self]
  obtain ⟨m, hm⟩ : ∃ m, 16 - s.length = m + 1 := ⟨15 - s.length, by omega⟩
  have e : 16 - (s ++ [x]).length = m := by simp; omega
  rw [hm, e, List.replicate_succ, List.set_cons_zero, List.append_assoc]
  rfl
theorem pad16_all {s : List Int} (h : s.length = 16) : pad16 s = s := by unfold pad16; rw [h]; simp
set_option maxRecDepth 100000 in
theorem zero16 : ∀ w : World, (zeroValue 103).run Try.prog w = .ok (.agg (wv (pad16 [])).toArray) w := fun _ => by kernel_rfl
set_option maxRecDepth 100000 in
theorem results_cell {fn : Func} {t : Tmp} {ty : TypeId} (h : fn.results = #[.cell t ty]) (ts : Array Value) (P : Program) (w : World) (ad : Addr) (v : Value) (h2 : ts.getD t undef = .pointer (some ad)) (h3 : (loadVar ty ad).run P w = .ok v w) :
    (results fn ts).run P w = .ok v w := by
  have h2' : ts[t]?.getD undef = .pointer (some ad) := by simpa using h2
  simp [results, h, h2', asAddr, h3]

set_option maxRecDepth 100000 in
set_option maxHeartbeats 1000000 in
theorem initial_any (A A' : Option Addr) (c c' : Nat) (key nonce : List UInt8) (ctr : Int) (w : World) (B : Nat) (hk : RB w B A 32 key) (hn : RB w B A' 12 nonce) (hB : B ≤ w.heap.size) :
    Calls Try.prog 67 #[.slice A 32 c, .slice A' 12 c', .int .u32 ctr] w (fun e w' => e = .returned (.agg (wv (ini key nonce ctr)).toArray) ∧ Below w.heap.size w w') := by
  have HK := Lib.hid hk
  have HN := Lib.hid hn
  clear hk hn
  have hzero := zero16
  have hst := fun W : World => store16_new W (r := pad16 cst) (s := pad16 []) rfl rfl
  have hbld : ((((wv (pad16 [])).toArray.setIfInBounds 0 (.int .u32 1634760805)).setIfInBounds 1 (.int .u32 857760878)).setIfInBounds 2 (.int .u32 2036477234)).setIfInBounds 3 (.int .u32 1797285236) = (wv (pad16 cst)).toArray := rfl
  have HZ := Lib.hid (fun W : World => Row16.new W (s := pad16 []) rfl)
  have HC := Lib.hid (fun W : World => Row16.new W (s := pad16 cst) rfl)
  have hzs : (wv (pad16 [])).toArray.size = 16 := rfl
  have hxs : (wv (pad16 cst)).toArray.size = 16 := rfl
  generalize hzc : (wv (pad16 [])).toArray = zc at *
  generalize hX : (wv (pad16 cst)).toArray = X at *
  have hze : ¬ zc = #[] := by intro h; rw [h] at hzs; cases hzs
  have hs1 : (w.alloc (.cells zc 103)).heap.size = w.heap.size + 1 := by simp
  have hst' := hst (w.alloc (.cells zc 103))
  have hr0 := HZ.out w
  have hr1 := HC.out (w.alloc (.cells zc 103))
  rw [hs1] at hst' hr1
  have HR0 := Lib.hid (hr0.below ((Below.refl (w.heap.size + 1) (w.alloc (.cells zc 103))).alloc (by rw [hs1]; exact Nat.le_refl _) (.cells X 103)) (Nat.lt_succ_self _))
  have HR1 := Lib.hid hr1
  have HB := Lib.hid (((Below.refl w.heap.size w).alloc (Nat.le_refl _) (.cells zc 103)).alloc (by rw [hs1]; omega) (.cells X 103))
  clear hst hs1 hr0 hr1 HZ HC
  go_enter Try.func67, Try.ntmps67
  go_wp2_with fail
  clear hst' hbld hzs hxs hze hzero hzc hX
  generalize (w.alloc (.cells zc 103)).alloc (.cells X 103) = w2 at *
  generalize hg : w.heap.size = g at *
  have HG := Lib.hid hg
  clear hg
  go_loopw [8] (fun i wr => ∃ k : Nat, k ≤ 8 ∧ i = .int .i64 k ∧ Row16 wr (g + 1) (pad16 (cst ++ wds key k)) ∧ Row16 wr g (pad16 []) ∧ Below g w wr) (fun i _ => 8 - (intOf i).toNat)
  case atStart => exact ⟨0, by omega, rfl, HR1.out, HR0.out, HB.out⟩
  case round =>
    obtain ⟨k, hk, rfl, r1, r0, hb⟩ := hrel
    have R1 := Lib.hid r1
    have R0 := Lib.hid r0
    have HBr := Lib.hid hb
    clear r1 r0 hb
    by_cases hlt : k < 8
    · have hi : (4 : Int) + (k : Int) < 16 := by omega
      have hi0 : (0 : Int) ≤ 4 + (k : Int) := by omega
      have ht : ((4 : Int) + (k : Int)).toNat = 4 + k := by omega
      go_wp2_with fail
      rw [show (4 : Int) * (k : Int) = ((4 * k : Nat) : Int) by omega]
      refine (word_any A 32 c key (4 * k) wr B (HK.out.below (HBr.out.mono (by omega))) (by omega) (by omega)).mono ?_
      rintro e w' ⟨rfl, m, rfl⟩
      have q := (R1.out.drewN m).cell (k := 4 + k) (by omega)
      have f := (R1.out.drewN m).free (4 + k)
      go_wp2_with fail
      refine ⟨⟨k + 1, by omega, by go_num, ?_, ?_, ?_⟩, by simp [intOf]; omega⟩
      · have := (R1.out.drewN m).set (4 + k) (wd key (4 * k))
        rw [pad16_set (by simp [cst, length_wds]; omega) (by omega), List.append_assoc, ← wds_succ] at this
        exact this
      · exact (R0.out.drewN m).keep (Below.heap_setCell _ _ _ _ (by simp only; omega))
      · exact (below_drewN HBr.out m).setCell (by simp) _
    · obtain rfl : k = 8 := by omega
      simp only [Int.cast_ofNat_Int]
      have q := R1.out.cell (k := 12) (by omega)
      have f := R1.out.free 12
      have R1' := Lib.hid (R1.out.set 12 ctr)
      rw [pad16_set (by simp [cst, length_wds]) (by omega)] at R1'
      have R0' := Lib.hid (R0.out.keep (Below.heap_setCell wr ⟨g + 1, 12, none⟩ (.int .u32 ctr) g (by simp only; omega)))
      have HB' := Lib.hid (HBr.out.setCell (p := ⟨g + 1, 12, none⟩) (by simp) (.int .u32 ctr))
      go_wp2_with fail
      clear q f R1 R0 HBr
      generalize wr.setCell ⟨g + 1, 12, none⟩ (.int .u32 ctr) = w3 at *
      go_loopw [9] (fun i wr => ∃ k : Nat, k ≤ 3 ∧ i = .int .i64 k ∧ Row16 wr (g + 1) (pad16 (cst ++ wds key 8 ++ [ctr] ++ wds nonce k)) ∧ Row16 wr g (pad16 []) ∧ Below g w wr) (fun i _ => 3 - (intOf i).toNat)
      case atStart => exact ⟨0, by omega, rfl, by rw [show wds nonce 0 = [] from rfl, List.append_nil]; exact R1'.out, R0'.out, HB'.out⟩
      case round =>
        obtain ⟨k, hk, rfl, r1, r0, hb⟩ := hrel
        have R1 := Lib.hid r1
        have R0 := Lib.hid r0
        have HBr := Lib.hid hb
        clear r1 r0 hb
        by_cases hlt : k < 3
        · have hi : (13 : Int) + (k : Int) < 16 := by omega
          have hi0 : (0 : Int) ≤ 13 + (k : Int) := by omega
          have ht : ((13 : Int) + (k : Int)).toNat = 13 + k := by omega
          go_wp2_with fail
          rw [show (4 : Int) * (k : Int) = ((4 * k : Nat) : Int) by omega]
          refine (word_any A' 12 c' nonce (4 * k) wr B (HN.out.below (HBr.out.mono (by omega))) (by omega) (by omega)).mono ?_
          rintro e w' ⟨rfl, m, rfl⟩
          have q := (R1.out.drewN m).cell (k := 13 + k) (by omega)
          have f := (R1.out.drewN m).free (13 + k)
          go_wp2_with fail
          refine ⟨⟨k + 1, by omega, by go_num, ?_, ?_, ?_⟩, by simp [intOf]; omega⟩
          · have := (R1.out.drewN m).set (13 + k) (wd nonce (4 * k))
            rw [pad16_set (by simp [cst, length_wds]; omega) (by omega), List.append_assoc, ← wds_succ] at this
            exact this
          · exact (R0.out.drewN m).keep (Below.heap_setCell _ _ _ _ (by simp only; omega))
          · exact (below_drewN HBr.out m).setCell (by simp) _
        · obtain rfl : k = 3 := by omega
          simp only [Int.cast_ofNat_Int]
          have HI := Lib.hid (show Row16 wr (g + 1) (ini key nonce ctr) by have := R1.out; rw [show cst ++ wds key 8 ++ [ctr] ++ wds nonce 3 = ini key nonce ctr from rfl, pad16_all (length_ini key nonce ctr)] at this; exact this)
          have hst := R0.out.store (length_ini key nonce ctr)
          have HF := Lib.hid (R0.out.setRow (length_ini key nonce ctr))
          have hxs := HI.out.size
          generalize hX : (wv (ini key nonce ctr)).toArray = X at *
          have HX := Lib.hid hX
          clear hX
          go_wp2_with (refine wl_load16 (.tmp 7) HI.out rfl rfl rfl X HX.out ?_)
          (try simp only [Exit.inBlock, Exit.then])
          refine bodyPost_ret (v := .agg X) (results_cell rfl _ _ _ ⟨g, 0, none⟩ _ rfl (by have := HF.out.loadVar; rw [HX.out] at this; exact this)) rfl ?_
          exact ⟨by rw [← HX.out], by rw [HG.out]; exact below_setRow HBr.out (Nat.le_refl _) _⟩
end Go.Proofs.Ytkaakgabhhkggaa
