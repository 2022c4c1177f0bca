/-
  A sum in the making: words, rows in memory; contracts of Hash.before, Hash.add, Hash.Write. Conditions: a hash lies at the address; what is written is not among the bytes of the hash; the sizes that slices can have.
-/
import Derived.Test.YtkaakgabhhkggaaShaComp
import Derived.Deep.RegionHeld3
namespace Go.Proofs.Ytkaakgabhhkggaa
open Go Go.RowKit Go.Sh

/-- the state ahead of block n -/
def shSt (l : List UInt8) : Nat → List Int
  | 0 => shStart
  | n + 1 => shComp (shSt l n) ((l.drop (64 * n)).take 64)
theorem length_shSt (l : List UInt8) : ∀ n, (shSt l n).length = 8
  | 0 => rfl
  | _ + 1 => rfl
theorem AW.shSt (l : List UInt8) : ∀ n, AW (shSt l n)
  | 0 => AW.shStart
  | _ + 1 => AW.add8 _ _
theorem shSt_append (l q : List UInt8) : ∀ n, 64 * n ≤ l.length → shSt (l ++ q) n = shSt l n
  | 0, _ => rfl
  | n + 1, h => by
    rw [Go.Proofs.Ytkaakgabhhkggaa.shSt, Go.Proofs.Ytkaakgabhhkggaa.shSt, shSt_append l q n (by omega), List.drop_append_of_le_length (by omega), List.take_append_of_le_length (by rw [List.length_drop]; omega)]
/-- the cells of a hash, and what lies behind -/
def hc (st : List Int) (op : List UInt8) (ct : Nat) (rest : List Value) : List Value := wv st ++ (bv op ++ (.int .i64 (ct : Int) :: rest))
/-- what the fields of a hash say of the bytes l -/
structure HRep (st : List Int) (op l : List UInt8) : Prop where
  ls : st.length = 8
  ws : AW st
  lo : op.length = 64
  hs : 64 ≤ l.length → st = shSt l (l.length / 64)
  ho : op.take (l.length % 64) = l.drop (64 * (l.length / 64))
/-- block p, of type ty, begins with a hash into which l was written -/
def HashAt (w : World) (ty : TypeId) (p : Nat) (rest : List Value) (l : List UInt8) : Prop :=
  ∃ st op, w.heap[p]? = some (.cells (hc st op l.length rest).toArray ty (0, 0)) ∧ HRep st op l
theorem length_hc {st : List Int} {op : List UInt8} (h1 : st.length = 8) (h2 : op.length = 64) (ct : Nat) (rest : List Value) : (hc st op ct rest).length = 73 + rest.length := by
  simp [hc, length_wv, length_bv, h1, h2]
  omega
theorem hc_count {st : List Int} {op : List UInt8} (h1 : st.length = 8) (h2 : op.length = 64) (ct : Nat) (rest : List Value) : (hc st op ct rest)[72]? = some (.int .i64 (ct : Int)) := by
  unfold hc
  rw [List.getElem?_append_right (by rw [length_wv, h1]; decide), length_wv, h1, List.getElem?_append_right (by rw [length_bv, h2]; decide), length_bv, h2]
  rfl
theorem hc_set {st : List Int} {op : List UInt8} (h1 : st.length = 8) (h2 : op.length = 64) (ct ct' : Nat) (rest : List Value) : (hc st op ct rest).set 72 (.int .i64 (ct' : Int)) = hc st op ct' rest := by
  unfold hc
  rw [List.set_append_right _ _ (by rw [length_wv, h1]; decide), length_wv, h1, List.set_append_right _ _ (by rw [length_bv, h2]; decide), length_bv, h2]
  rfl
theorem hc_splice {st : List Int} {op y : List UInt8} (h1 : st.length = 8) (f : Nat) (hf : f + y.length ≤ op.length) (ct : Nat) (rest : List Value) :
    (hc st op ct rest).take (8 + f) ++ (bv y ++ (hc st op ct rest).drop (8 + f + y.length)) = hc st (op.take f ++ (y ++ op.drop (f + y.length))) ct rest := by
  have e : bv (op.take f ++ (y ++ op.drop (f + y.length))) = (bv op).take f ++ (bv y ++ (bv op).drop (f + y.length)) := by simp [bv]
  have hl := length_bv op
  have hw := (length_wv st).trans h1
  unfold hc
  rw [e]
  generalize bv op = o at *
  generalize wv st = s at *
  generalize bv y = z at *
  rw [List.take_append, List.take_of_length_le (by omega), hw, show 8 + f - 8 = f by omega, List.take_append_of_le_length (by omega), List.drop_append, List.drop_eq_nil_of_le (by omega), List.nil_append, hw, show 8 + f + y.length - 8 = f + y.length by omega, List.drop_append_of_le_length (by omega)]
  simp only [List.append_assoc]
theorem hc_state {st st' : List Int} (op : List UInt8) (h1 : st.length = 8) (ct : Nat) (rest : List Value) : ((hc st op ct rest).take 0 ++ wv st' ++ (hc st op ct rest).drop (0 + 8)) = hc st' op ct rest := by
  unfold hc
  rw [List.take_zero, List.nil_append, List.drop_append, List.drop_eq_nil_of_le (by rw [length_wv, h1]; decide), List.nil_append, length_wv, h1]
  rfl
theorem HRep.fill {st : List Int} {op l y : List UInt8} (h : HRep st op l) (hy : l.length % 64 + y.length < 64) : HRep st (op.take (l.length % 64) ++ (y ++ op.drop (l.length % 64 + y.length))) (l ++ y) := by
  have hm : (l ++ y).length % 64 = l.length % 64 + y.length := by rw [List.length_append]; omega
  have hd : (l ++ y).length / 64 = l.length / 64 := by rw [List.length_append]; omega
  refine ⟨h.ls, h.ws, ?_, fun h6 => ?_, ?_⟩
  · have := h.lo
    simp only [List.length_append, List.length_take, List.length_drop]
    omega
  · rw [hd, shSt_append _ _ _ (by omega)]
    exact h.hs (by rw [List.length_append] at h6; omega)
  · have := h.lo
    rw [hm, hd, ← List.append_assoc, List.take_append_of_le_length (by simp only [List.length_append, List.length_take]; omega), List.take_of_length_le (by simp only [List.length_append, List.length_take]; omega), h.ho, List.drop_append_of_le_length (by omega)]
theorem HRep.full {st : List Int} {op l y : List UInt8} (h : HRep st op l) (hy : l.length % 64 + y.length = 64) (st0 : List Int) (h0 : st0 = if (l ++ y).length - 64 < 64 then shStart else st) :
    HRep (shComp st0 (op.take (l.length % 64) ++ (y ++ op.drop (l.length % 64 + y.length)))) (op.take (l.length % 64) ++ (y ++ op.drop (l.length % 64 + y.length))) (l ++ y) := by
  have hm : (l ++ y).length % 64 = 0 := by rw [List.length_append]; omega
  have hd : (l ++ y).length / 64 = l.length / 64 + 1 := by rw [List.length_append]; omega
  have hlo := h.lo
  have e : op.take (l.length % 64) ++ (y ++ op.drop (l.length % 64 + y.length)) = ((l ++ y).drop (64 * (l.length / 64))).take 64 := by
    rw [hy, List.drop_eq_nil_of_le (show op.length ≤ 64 by omega), List.append_nil, h.ho, List.drop_append_of_le_length (by omega), List.take_of_length_le]
    simp only [List.length_append, List.length_drop]
    omega
  have hst : st0 = shSt (l ++ y) (l.length / 64) := by
    rw [h0, shSt_append _ _ _ (by omega)]
    split
    · rename_i h1
      rw [List.length_append] at h1
      rw [show l.length / 64 = 0 by omega]
      rfl
    · rename_i h1
      rw [List.length_append] at h1
      exact h.hs (by omega)
  refine ⟨rfl, AW.add8 _ _, ?_, fun _ => ?_, ?_⟩
  · simp only [List.length_append, List.length_take, List.length_drop]
    omega
  · rw [hd, Go.Proofs.Ytkaakgabhhkggaa.shSt, ← e, hst]
  · rw [hm, hd, List.take_zero, List.drop_eq_nil_of_le]
    rw [List.length_append]
    omega
section
variable {w w' : World} {ty : TypeId} {p : Nat} {rest : List Value} {l : List UInt8}
theorem HashAt.keep (h : HashAt w ty p rest l) (hk : w'.heap[p]? = w.heap[p]?) : HashAt w' ty p rest l := by
  obtain ⟨st, op, h1, h2⟩ := h
  exact ⟨st, op, hk.trans h1, h2⟩
theorem HashAt.lt (h : HashAt w ty p rest l) : p < w.heap.size := by
  obtain ⟨_, _, h, _⟩ := h
  exact (Array.getElem?_eq_some_iff.1 h).1
theorem HashAt.below {B : Nat} (h : HashAt w ty p rest l) (hb : Below B w w') (hp : p < B) : HashAt w' ty p rest l := h.keep (hb.block p hp)
theorem HashAt.grown {r : Option Nat} (h : HashAt w ty p rest l) (hg : w.grownBy w' r) (hr : r ≠ some p) : HashAt w' ty p rest l := h.keep (hg.block p h.lt (Ne.symm hr))
end
theorem range_head {w : World} {p : Nat} {a b : List Value} {t : TypeId} {fr : Nat × Nat} (h : w.heap[p]? = some (.cells (a ++ b).toArray t fr)) : w.rangeAt p 0 a := fun j v hv => by
  rw [blk_cell h, List.getElem?_toArray, Nat.zero_add, List.getElem?_append_left (List.getElem?_eq_some_iff.1 hv).1]
  exact hv

set_option maxRecDepth 100000 in
set_option maxHeartbeats 1000000 in
theorem before_any (w : World) (ty : TypeId) (p : Nat) (st : List Int) (b : List Value) (c : Nat) (hp : w.heap[p]? = some (.cells (wv st ++ b).toArray ty (0, 0))) (hs : st.length = 8) :
    Calls Try.prog 44 #[.pointer (some ⟨p, 0, none⟩), .int .i64 (c : Int)] w (fun e w' => e = .returned (.agg (wv (if c < 64 then shStart else st)).toArray) ∧ Below w.heap.size w w') := by
  have hlt : p < w.heap.size := (Array.getElem?_eq_some_iff.1 hp).1
  have hzero := zero8
  have hzs : (wv (zw 8)).toArray.size = 8 := rfl
  have HZN := Lib.hid (RowW.new w 36 (zw 8))
  have HB := Lib.hid ((Below.refl w.heap.size w).alloc (Nat.le_refl _) (.cells (wv (zw 8)).toArray 36))
  by_cases hc : c < 64
  · have hc' : (c : Int) < 64 := by omega
    rw [if_pos hc]
    have hsz : (w.alloc (.cells (wv (zw 8)).toArray 36)).heap.size = w.heap.size + 1 := by simp
    generalize hzc : (wv (zw 8)).toArray = zc at *
    have hze : ¬ zc = #[] := by intro h; rw [h] at hzs; cases hzs
    clear hzc hp
    go_enter Try.func44, Try.ntmps44
    go_wp2_with fail
    refine (Start_any _).mono ?_
    rintro e w2 ⟨rfl, hb⟩
    have hr := HZN.out.below hb (by rw [hsz]; omega)
    have hst := hr.store (r := shStart) rfl
    have HR := Lib.hid ((hr.setRow (r := shStart)).load8 rfl)
    have HB2 := Lib.hid (below_setRow (HB.out.trans (hb.mono (by rw [hsz]; omega))) (Nat.le_refl _) (wv shStart).toArray)
    have hxs : (wv shStart).toArray.size = 8 := rfl
    generalize hX : (wv shStart).toArray = X at *
    have HX := Lib.hid hX
    have hxe : ¬ X = #[] := by intro h; rw [h] at hxs; cases hxs
    clear hr hb hX
    go_wp2_with fail
    (try simp only [Exit.inBlock, Exit.then])
    refine bodyPost_ret (v := .agg X) (results_cellW rfl _ _ _ ⟨w.heap.size, 0, none⟩ _ rfl HR.out) rfl ?_
    exact ⟨by rw [HX.out], HB2.out⟩
  · have hc' : ¬ (c : Int) < 64 := by omega
    rw [if_neg hc]
    have hst := storeW_new w 36 (r := st) (s := zw 8) hs
    have HR := Lib.hid ((RowW.new w 36 st).load8 hs)
    have HB2 := Lib.hid ((Below.refl w.heap.size w).alloc (Nat.le_refl _) (.cells (wv st).toArray 36))
    have HRG := Lib.hid (range_head (((Below.refl w.heap.size w).alloc (Nat.le_refl _) (.cells (wv (zw 8)).toArray 36)).block p hlt |>.trans hp))
    have hxs : (wv st).toArray.size = 8 := by rw [List.size_toArray, length_wv, hs]
    have HI := Lib.hid (show (Try.prog.info? 36).map (·.size) = some (wv st).length by rw [length_wv, hs]; exact info8)
    generalize hzc : (wv (zw 8)).toArray = zc at *
    have hze : ¬ zc = #[] := by intro h; rw [h] at hzs; cases hzs
    generalize hX : (wv st).toArray = X at *
    have HX := Lib.hid hX
    have hxe : ¬ X = #[] := by intro h; rw [h] at hxs; cases hxs
    clear hzc hp hX
    go_enter Try.func44, Try.ntmps44
    go_wp2_with (refine wl_load_mid (by rfl) _ (.tmp 10) rfl p 0 rfl (wv st) _ HRG.out Try.underlying36 rfl HI.out ?_; rw [HX.out])
    (try simp only [Exit.inBlock, Exit.then])
    refine bodyPost_ret (v := .agg X) (results_cellW rfl _ _ _ ⟨w.heap.size, 0, none⟩ _ rfl HR.out) rfl ?_
    exact ⟨rfl, HB2.out⟩
end Go.Proofs.Ytkaakgabhhkggaa
