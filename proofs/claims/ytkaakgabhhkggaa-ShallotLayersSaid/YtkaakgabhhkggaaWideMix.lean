/-
  Contract of wide.mix: the first bytes of a piece of a block are xored with other bytes that lie in another block.
-/
import Derived.Test.YtkaakgabhhkggaaMac8
namespace Go.Proofs.Ytkaakgabhhkggaa
open Go Go.RowKit Go.Sh

/-- l with the bytes of r xored into its first k ones -/
def mixN (l r : List UInt8) (k : Nat) : List UInt8 := rowf l.length fun j => if j < k then l.getD j 0 ^^^ r.getD j 0 else l.getD j 0
def mixL (l r : List UInt8) : List UInt8 := mixN l r r.length
theorem length_mixN (l r : List UInt8) (k : Nat) : (mixN l r k).length = l.length := length_rowf _ _
theorem length_mixL (l r : List UInt8) : (mixL l r).length = l.length := length_mixN _ _ _
theorem mixN_0 (l r : List UInt8) : mixN l r 0 = l := by
  apply List.ext_getElem (length_mixN _ _ _)
  intro i h1 h2
  simp [mixN, rowf, List.getElem?_eq_getElem h2]
theorem mixN_succ (l r : List UInt8) (k : Nat) : (mixN l r k).set k (l.getD k 0 ^^^ r.getD k 0) = mixN l r (k + 1) := by
  unfold mixN
  rw [rowf_set]
  refine rowf_congr fun j _ => ?_
  by_cases hj : j = k
  · subst hj
    rw [if_pos rfl, if_pos (by omega)]
  · rw [if_neg hj]
    split <;> split <;> first | rfl | omega
theorem mixN_at (l r : List UInt8) (k : Nat) (h : k < l.length) : bt (mixN l r k) k = bt l k := by
  unfold bt mixN rowf
  rw [List.getD_eq_getElem?_getD, List.getElem?_map, List.getElem?_range h]
  simp
theorem mixL_mixL (l r : List UInt8) : mixL (mixL l r) r = l := by
  apply List.ext_getElem (by rw [length_mixL, length_mixL])
  intro i h1 h2
  unfold mixL mixN rowf
  simp only [List.length_map, List.length_range, List.getElem_map, List.getElem_range]
  by_cases hi : i < r.length
  · rw [if_pos hi]
    rw [List.getD_eq_getElem?_getD, List.getElem?_map, List.getElem?_range h2]
    simp [hi, List.getElem?_eq_getElem h2, UInt8.xor_assoc]
  · rw [if_neg hi]
    rw [List.getD_eq_getElem?_getD, List.getElem?_map, List.getElem?_range h2]
    simp [hi, List.getElem?_eq_getElem h2]
theorem grown_setCell (w : World) (a : Addr) (u : Value) : w.grownBy (w.setCell a u) (some a.block) := by
  refine ⟨rfl, rfl, rfl, by simp, fun k hk hne => ?_⟩
  cases a with | mk b o s =>
  unfold World.setCell
  dsimp only
  rw [Array.getElem?_modify, if_neg (by intro e; exact hne (by rw [e]))]
theorem mid_set (pre post : List Value) (l : List UInt8) (k off : Nat) (x : UInt8) (ho : pre.length = off) (hk : k < l.length) : (pre ++ bv l ++ post).set (off + k) (.int .u8 (x.toNat : Int)) = pre ++ bv (l.set k x) ++ post := by
  subst ho
  rw [List.append_assoc, List.set_append_right _ _ (by omega), Nat.add_sub_cancel_left, List.set_append_left _ _ (by rw [length_bv]; exact hk), bv_store, ← List.append_assoc]
theorem mid_at (pre post : List Value) (l : List UInt8) (k off : Nat) (ho : pre.length = off) (hk : k < l.length) : (pre ++ bv l ++ post)[off + k]? = some (.int .u8 (bt l k)) := by
  subst ho
  rw [List.append_assoc, List.getElem?_append_right (by omega), Nat.add_sub_cancel_left, List.getElem?_append_left (by rw [length_bv]; exact hk), bv_at l k hk]

set_option maxRecDepth 100000 in
set_option maxHeartbeats 1000000 in
theorem mix_any (g off n c : Nat) (pre post : List Value) (l : List UInt8) (ty : TypeId) (A : Option Addr) (m c' : Nat) (r : List UInt8) (w : World) (B : Nat)
    (hb : w.heap[g]? = some (.cells (pre ++ bv l ++ post).toArray ty (0, 0))) (ho : pre.length = off) (hl : l.length = n) (hr : RB w B A m r) (hB : B ≤ w.heap.size) (hne : ∀ ad, A = some ad → ad.block ≠ g) (hm : m ≤ n) (hn : n ≤ 1048576) :
    Calls Try.prog 64 #[.slice (some ⟨g, off, none⟩) n c, .slice A m c'] w (fun e w' => e = .returned (.tuple #[]) ∧ w'.heap[g]? = some (.cells (pre ++ bv (mixL l r) ++ post).toArray ty (0, 0)) ∧ w.grownBy w' (some g) ∧ w'.heap.size = w.heap.size) := by
  have HR := Lib.hid hr
  have HRL := Lib.hid hr.len
  have HBL := Lib.hid hb
  have HNE := Lib.hid hne
  have hg0 : g < w.heap.size := (Array.getElem?_eq_some_iff.1 hb).1
  clear hb hr hne
  go_enter Try.func64, Try.ntmps64
  go_wp2_with fail
  go_loopw [4, 5, 8] (fun _ _ i wr => ∃ q : Nat, q ≤ m ∧ i = .int .i64 q ∧ wr.heap[g]? = some (.cells (pre ++ bv (mixN l r q) ++ post).toArray ty (0, 0)) ∧ w.grownBy wr (some g) ∧ wr.heap.size = w.heap.size) (fun _ _ i _ => m - (intOf i).toNat)
  case atStart => exact ⟨0, by omega, rfl, by rw [mixN_0]; exact HBL.out, ⟨rfl, rfl, rfl, Nat.le_refl _, fun _ _ _ => rfl⟩, rfl⟩
  case round =>
    obtain ⟨q, hq, rfl, hbk, hgr, hsz⟩ := hrel
    by_cases hlt : q < m
    · have hd : decide ((q : Int) < (m : Int)) = true := by rw [decide_eq_true_eq]; omega
      obtain ⟨ad, hA, hadB, hcell⟩ := HR.out.at_ hlt
      subst hA
      have hadg := HNE.out ad rfl
      have hc2 : wr.cell? (ad.add q) = some (.int .u8 (bt r q)) := by
        rw [hgr.cell_far _ (by rw [block_of_add]; omega) (by rw [block_of_add]; intro h; injection h with h; exact hadg h)]
        exact hcell
      have hc3 : wr.cell? ⟨g, off + q, none⟩ = some (.int .u8 (bt l q)) := by
        rw [blk_cell hbk, List.getElem?_toArray, mid_at _ _ _ _ _ ho (by rw [length_mixN]; omega), mixN_at l r q (by omega)]
      have hfz := frozen_of_row wr g (off + q) _ _ hbk
      have hst := blk_set hbk (i := off + q) (.int .u8 (((l.getD q 0 ^^^ r.getD q 0 : UInt8)).toNat : Int))
      rw [List.setIfInBounds_toArray, mid_set _ _ _ _ _ _ ho (by rw [length_mixN]; omega), mixN_succ] at hst
      have HST := Lib.hid hst
      have HGR := Lib.hid (hgr.trans (grown_setCell wr ⟨g, off + q, none⟩ (.int .u8 (((l.getD q 0 ^^^ r.getD q 0 : UInt8)).toNat : Int))))
      have hlo := bt_lo r q
      have hhi := bt_hi r q
      clear hbk hgr hst hcell
      go_wp2_with fail
      unfold bt
      rw [bits_u8_xor]
      exact ⟨⟨q + 1, by omega, rfl, HST.out, HGR.out, by simp [hsz]⟩, by simp only [intOf]; omega⟩
    · obtain rfl : q = m := by omega
      have hd : decide ((q : Int) < (q : Int)) = false := by rw [decide_eq_false_iff_not]; omega
      have HST := Lib.hid hbk
      have HGR := Lib.hid hgr
      clear hbk hgr
      go_wp2_with fail
      go_end0
      exact ⟨rfl, by unfold mixL; rw [HRL.out]; exact HST.out, HGR.out, hsz⟩
end Go.Proofs.Ytkaakgabhhkggaa
