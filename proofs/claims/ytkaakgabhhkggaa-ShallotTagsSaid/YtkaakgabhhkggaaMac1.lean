/-
  Words for mac; contracts of mac.first, mac.masked and mac.block. Conditions: the sizes that slices can have.
-/
import Derived.Test.YtkaakgabhhkggaaShaOf
namespace Go.Proofs.Ytkaakgabhhkggaa
open Go Go.RowKit Go.Sh

set_option maxRecDepth 100000 in
/-- copy into a piece of a block that has room for all of the source -/
theorem wl_copyBlk {P : Program} {t t' e : TypeId} {z : Value} {bytes : Nat} (T : STy P t e z 1 bytes) {w : World} {ops : Array Oper} {rest : List Oper} {o : Oper} {a : Act} {Q : Exit → Act → World → Prop} (hgd : o.guard = none) (d s : Operand)
    (ho : o.op = .call { callee := .builtin .copy, args := #[d, s], argTypes := #[t, t'] })
    (g off dl dc : Nat) (hd : a.eval d = .slice (some ⟨g, off, none⟩) dl dc) (A : Option Addr) (m c : Nat) (hs : a.eval s = .slice A m c)
    (xs : List Value) (ty : TypeId) (hb : w.heap[g]? = some (.cells xs.toArray ty (0, 0))) (k : Nat) (hk : k = Nat.min m dl) (hoff : off + k ≤ xs.length) (B : Nat) (ys : List Value) (hr : Reads w B 1 A m ys) (h1 : ∀ u ∈ ys, u.oneCell' = true)
    (h : ∀ w', w'.heap[g]? = some (.cells (xs.take off ++ (ys.take k ++ xs.drop (off + k))).toArray ty (0, 0)) → w.grownBy w' (some g) → w'.heap.size = w.heap.size → wpList P ops Q rest (a.put o.dst (.int .i64 (k : Nat))) w') :
    wpList P ops Q (o :: rest) a w := by
  obtain ⟨i, hi, hz, hsize, hby⟩ := info_parts T.info
  have hsz : (P.info? e).map (·.size) = some 1 := by rw [hi]; simp [hsize]
  have hys : ys.length = m := by have := hr.1; omega
  have hkm : k ≤ m := by rw [hk]; exact Nat.min_le_left _ _
  by_cases h0 : m = 0
  · subst h0
    obtain rfl : k = 0 := by omega
    have hy0 : ys = [] := List.eq_nil_of_length_eq_zero hys
    subst hy0
    refine wpList_copy_nothing hgd d s t t' ho e T.und hsz (some ⟨g, off, none⟩) A dl dc 0 c hd hs (by simp) ?_
    exact h w (by rw [List.take_nil, List.nil_append, Nat.add_zero, List.take_append_drop]; exact hb) (World.grownBy.refl w _) rfl
  · obtain ⟨ad, rfl, _, hc⟩ := hr.some_ (by omega)
    have hkl : (ys.take k).length = k := by rw [List.length_take]; omega
    refine wpList_copy_own hgd d s t t' ho e T.und hsz g off dl dc ad m c hd hs xs.toArray ty hb (ys.take k) (by rw [hkl, hk]) (fun j v hv => ?_) (by rw [hkl]; simpa using hoff) (fun u hu => h1 u (List.mem_of_mem_take hu)) ?_
    · have hj : j < k := by have := (List.getElem?_eq_some_iff.1 hv).1; omega
      rw [List.getElem?_take, if_pos hj] at hv
      exact hc.get hv
    · have hgi : goInt (ys.take k).length = .int .i64 (k : Nat) := by rw [hkl]; rfl
      rw [hgi]
      refine h _ ?_ (grown_setRow _ _ _) (size_setRow _ _ _)
      rw [setRow_heap _ _ _ _ _ _ hb, List.toList_toArray, hkl]
/-- the key as a block -/
def mblk (key : List UInt8) : List UInt8 := if 64 < key.length then sumB key ++ zs 32 else key ++ zs (64 - key.length)
theorem length_mblk (key : List UInt8) : (mblk key).length = 64 := by
  unfold mblk
  split
  · rw [List.length_append, length_sumB, length_zs]
  · rw [List.length_append, length_zs]; omega
/-- each byte turned -/
def maskd (k : List UInt8) (m : UInt8) : List UInt8 := rowf 64 fun j => k.getD j 0 ^^^ m
theorem length_maskd (k : List UInt8) (m : UInt8) : (maskd k m).length = 64 := length_rowf _ _
set_option maxRecDepth 100000 in
theorem info64b : (Try.prog.info? 37).map (·.size) = some 64 := by kernel_rfl
set_option maxRecDepth 100000 in
theorem index64b (w : World) (Y : Array Value) (k : Nat) (v : Value) (hk : k < 64) (h : Y[k]? = some v) : (Instr.index 37 (.agg Y) (.int .i64 (k : Int))).run Try.prog w = .ok v w := by
  have h0 : (Try.prog.info? 5).map (·.size) = some 1 := by kernel_rfl
  obtain ⟨i, hi, hz⟩ := Option.map_eq_some_iff.1 h0
  simp [Instr.index, run_underlying Try.underlying37, asIntOf, hk, part, isAgg, run_underlying Try.underlying5, sizeOf, typeInfo, hi, hz, h]
theorem RowB.load64 {w : World} {p : Nat} {l : List UInt8} (h : RowB w 37 p l) (hl : l.length = 64) : (loadVar 37 ⟨p, 0, none⟩).run Try.prog w = .ok (.agg (bv l).toArray) w :=
  run_loadVar_mid w p 0 _ (bv l) _ (blk_range h) Try.underlying37 rfl (by rw [length_bv, hl]; exact info64b)
theorem rb_row {w : World} {ty : TypeId} {p : Nat} {l : List UInt8} (h : RowB w ty p l) : RB w (p + 1) (some ⟨p, 0, none⟩) l.length l := by
  refine ⟨by rw [length_bv, Nat.mul_one], .inr ⟨_, rfl, Nat.lt_succ_self _, fun j hj => ?_⟩⟩
  rw [add_mk, blk_cell h, List.getElem?_toArray, Nat.zero_add]
  first | done | exact List.getElem?_eq_getElem hj

set_option maxRecDepth 100000 in
set_option maxHeartbeats 1000000 in
theorem masked_any (k : List UInt8) (m : UInt8) (w : World) (hk : k.length = 64) :
    Calls Try.prog 29 #[.agg (bv k).toArray, .int .u8 (m.toNat : Int)] w (fun e w' => ∃ g, e = .returned (.slice (some ⟨g, 0, none⟩) 64 64) ∧ w'.ownsRow w.heap.size 5 1 (.slice (some ⟨g, 0, none⟩) 64 64) 64 (bv (maskd k m)) ∧ Below w.heap.size w w') := by
  have HRG := Lib.hid (blk_range (RowB.new w 37 k))
  have HB1 := Lib.hid ((Below.refl w.heap.size w).alloc (Nat.le_refl _) (.cells (bv k).toArray 37))
  have HI := Lib.hid (show (Try.prog.info? 37).map (·.size) = some (bv k).length by rw [length_bv, hk]; exact info64b)
  have hks : (bv k).toArray.size = 64 := by rw [List.size_toArray, length_bv, hk]
  have HIX := Lib.hid (show ∀ (i : Nat), i < 64 → ∀ W, (Instr.index 37 (.agg (bv k).toArray) (.int .i64 (i : Int))).run Try.prog W = .ok (.int .u8 (bt k i)) W from fun i hi W => index64b W _ i _ hi (by rw [List.getElem?_toArray, bv_at k i (by omega)]))
  have hz1 : (w.alloc (.cells (bv k).toArray 37)).heap.size = w.heap.size + 1 := by simp
  obtain ⟨X, hX⟩ : ∃ X, (bv k).toArray = X := ⟨_, rfl⟩
  have HX := Lib.hid hX
  rw [hX] at HRG HB1 hks HIX hz1 ⊢
  have hxe : ¬ X = #[] := by intro h; rw [h] at hks; cases hks
  clear hX
  go_enter Try.func29, Try.ntmps29
  go_wp2_with (at_make; refine wl_makeB TB rfl (.const (.int .i64 64)) (.const (.int .i64 64)) rfl .i64 .i64 _ _ rfl rfl 64 ?_ ?_ ?_ w.heap.size ?_ ?_)
  · rfl
  · rfl
  · decide
  · rw [hz1]; omega
  intro w2 hown hg _
  have hbg : Below (w.alloc (.cells X 37)).heap.size (w.alloc (.cells X 37)) w2 := (Below.refl _ _).grown hg (Nat.le_refl _) (by simp)
  have HO := Lib.hid hown
  have HB2 := Lib.hid (HB1.out.trans (hbg.mono (by rw [hz1]; omega)))
  have HRG2 := Lib.hid (show w2.rangeAt w.heap.size 0 (bv k) from fun j v hv => (hbg.cell (p := ⟨w.heap.size, 0 + j, none⟩) (by show w.heap.size < _; rw [hz1]; omega)).trans (HRG.out j v hv))
  clear hown hg hbg HRG
  generalize (w.alloc (.cells X 37)).heap.size = g1 at *
  go_wp2_with (refine wl_load_mid (by rfl) 37 (.tmp 2) rfl w.heap.size 0 rfl (bv k) _ HRG2.out Try.underlying37 rfl HI.out ?_; rw [HX.out])
  have HZ := Lib.hid (show zs 64 = rowf 64 (fun j => if j < 0 then k.getD j 0 ^^^ m else 0) by rw [rowf_zs]; exact rowf_congr fun j _ => by simp)
  generalize hgw : w.heap.size = g0 at *
  have HG := Lib.hid hgw
  clear hgw hz1
  go_loopw [6, 7, 10] (fun _ _ i wr => ∃ q : Nat, q ≤ 64 ∧ i = .int .i64 q ∧ wr.ownsRow g0 5 1 (.slice (some ⟨g0 + 1, 0, none⟩) 64 64) 64 (bv (rowf 64 fun j => if j < q then k.getD j 0 ^^^ m else 0)) ∧ Below g0 w wr) (fun _ _ i _ => 64 - (intOf i).toNat)
  case atStart => exact ⟨0, by omega, rfl, by rw [← HZ.out]; exact HO.out, HB2.out⟩
  case round =>
    obtain ⟨q, hq, rfl, hown, hb⟩ := hrel
    have HOi := Lib.hid hown
    have HBi := Lib.hid hb
    clear hown hb HO HB2
    by_cases hlt : q < 64
    · have hix := HIX.out q hlt
      have hfr := HOi.out.frozenAt q
      have hcr := HOi.out.cellAt q (by omega)
      rw [bv_at _ _ (by rw [length_rowf]; exact hlt)] at hcr
      go_wp2
      refine ⟨⟨q + 1, by omega, by go_num, ?_, HBi.out.setCell (by simp only; omega) _⟩, by simp [intOf]; omega⟩
      have h := (HOi.out.stored q (.int .u8 ((k.getD q 0 ^^^ m).toNat : Int))).1
      rw [bv_store, rowf_set] at h
      unfold bt
      rw [bits_u8_xor]
      rw [show (rowf 64 fun j => if j < q + 1 then k.getD j 0 ^^^ m else 0) = rowf 64 (fun j => if j = q then k.getD q 0 ^^^ m else if j < q then k.getD j 0 ^^^ m else 0) from rowf_congr fun j _ => by
        by_cases hj : j = q
        · subst hj
          rw [if_pos (by omega), if_pos rfl]
        · rw [if_neg hj]
          split <;> split <;> first | rfl | omega]
      exact h
    · obtain rfl : q = 64 := by omega
      have HF := Lib.hid (show (rowf 64 fun j => if j < 64 then k.getD j 0 ^^^ m else 0) = maskd k m from rowf_congr fun j hj => by rw [if_pos hj])
      go_wp2_with fail
      go_ret
      refine ⟨g0 + 1, rfl, ?_, by rw [HG.out]; exact HBi.out⟩
      rw [HG.out, ← HF.out]
      exact HOi.out
end Go.Proofs.Ytkaakgabhhkggaa
