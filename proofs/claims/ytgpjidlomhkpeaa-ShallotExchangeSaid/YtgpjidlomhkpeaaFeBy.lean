/-
  Contract of field.Bytes. Conditions: the number fits.
-/
import Derived.Test.YtgpjidlomhkpeaaFeRd
namespace Go.Proofs.Ytgpjidlomhkpeaa
open Go Go.RowKit Go.Sh

/-- block p is an array of 32 bytes -/
def Arr (w : World) (p : Nat) (l : List UInt8) : Prop := l.length = 32 ∧ w.heap[p]? = some (.cells (bv l).toArray 25 (0, 0))
section
variable {w w' : World} {p k : Nat} {l : List UInt8}
theorem Arr.lt (h : Arr w p l) : p < w.heap.size := (Array.getElem?_eq_some_iff.1 h.2).1
theorem Arr.below {B : Nat} (h : Arr w p l) (hb : Below B w w') (hp : p < B) : Arr w' p l := ⟨h.1, (hb.block p hp).trans h.2⟩
theorem Arr.cell (h : Arr w p l) (hk : k < 32) : w.cell? ⟨p, k, none⟩ = some (.int .u8 (bt l k)) := by
  rw [blk_cell h.2, List.getElem?_toArray, bv_at l k (by rw [h.1]; exact hk)]
theorem Arr.free (h : Arr w p l) (i : Nat) : w.frozen? ⟨p, i, none⟩ = false := frozen_of_row _ _ i _ _ h.2
theorem Arr.set (h : Arr w p l) (i : Nat) (x : UInt8) : Arr (w.setCell ⟨p, i, none⟩ (.int .u8 (x.toNat : Int))) p (l.set i x) := by
  refine ⟨by rw [List.length_set]; exact h.1, ?_⟩
  rw [blk_set h.2, List.setIfInBounds_toArray, bvput]
theorem Arr.new (w : World) {l : List UInt8} (hl : l.length = 32) : Arr (w.alloc (.cells (bv l).toArray 25)) w.heap.size l := ⟨hl, heap_alloc_new w _⟩
theorem Arr.row (h : Arr w p l) {r : List UInt8} (hr : r.length = 32) : Arr (w.setRow p (bv r).toArray) p r := ⟨hr, setRow_heap w p _ _ _ _ h.2⟩
theorem Arr.far {g : Nat} (h : Arr w p l) (hne : p ≠ g) (cs : Array Value) : Arr (w.setRow g cs) p l := ⟨h.1, (setRow_other w g p _ hne).trans h.2⟩
end
/-- an array as a value -/
def arr (l : List UInt8) : Value := .agg (bv l).toArray
set_option maxRecDepth 100000 in
theorem info32 : (Try.prog.info? 25).map (·.size) = some 32 := by kernel_rfl
set_option maxRecDepth 100000 in
theorem bv_one (l : List UInt8) : ∀ v ∈ (bv l).toArray.toList, v.oneCell' = true := by
  intro v hv
  obtain ⟨x, _, rfl⟩ := List.mem_map.1 (show v ∈ bv l by simpa using hv)
  rfl
theorem Arr.load {w : World} {p : Nat} {l : List UInt8} (h : Arr w p l) : (loadVar 25 ⟨p, 0, none⟩).run Try.prog w = .ok (arr l) w :=
  run_loadVar_mid w p 0 _ (bv l) _ (blk_range h.2) Try.underlying25 rfl (by rw [length_bv, h.1]; exact info32)
theorem wl_loadA (x : Operand) {w : World} {p : Nat} {l : List UInt8} (h : Arr w p l) {ops : Array Oper} {rest : List Oper} {op : Oper} {a : Act} {Q : Exit → Act → World → Prop} (hw : Region.wanted op (yielded ops a.tmps) = true) (ho : op.op = .load 25 x)
    (hx : a.eval x = .pointer (some ⟨p, 0, none⟩)) (hk : wpList Try.prog ops Q rest (a.put op.dst (arr l)) w) : wpList Try.prog ops Q (op :: rest) a w :=
  wl_load_mid hw _ x ho p 0 hx (bv l) _ (blk_range h.2) Try.underlying25 rfl (by rw [length_bv, h.1]; exact info32) hk
set_option maxRecDepth 100000 in
theorem zero32 : ∀ w : World, (zeroValue 25).run Try.prog w = .ok (arr (List.replicate 32 0)) w := fun _ => by kernel_rfl
theorem wl_storeA (x y : Operand) {w : World} {p : Nat} {l r : List UInt8} (h : Arr w p l) {ops : Array Oper} {rest : List Oper} {op : Oper} {a : Act} {Q : Exit → Act → World → Prop} (hw : Region.wanted op (yielded ops a.tmps) = true) (ho : op.op = .store 25 x y)
    (hx : a.eval x = .pointer (some ⟨p, 0, none⟩)) (hy : a.eval y = arr r) (hr : r.length = 32) (hk : wpList Try.prog ops Q rest (a.put op.dst undef) (w.setRow p (bv r).toArray)) : wpList Try.prog ops Q (op :: rest) a w := by
  have hl := h.1
  refine wl_store_blk hw _ x y ho p 0 (bv r).toArray hx hy (bv l).toArray _ h.2 (by simp [length_bv, hr, hl]) (by rw [show (bv r).toArray.size = 32 by simp [length_bv, hr]]; exact info32) (bv_one r) ?_
  have e : ((bv l).toArray.toList.take 0 ++ (bv r).toArray.toList ++ (bv l).toArray.toList.drop (0 + (bv r).toArray.size)).toArray = (bv r).toArray := by
    rw [List.take_zero, List.nil_append, List.drop_eq_nil_of_le (by simp [length_bv, hr, hl]), List.append_nil, Array.toArray_toList]
  rw [e]
  exact hk
theorem toLe_set (F m : Nat) (h : m < 32) : (toLe m F ++ List.replicate (32 - m) 0).set m (byteAt F m) = toLe (m + 1) F ++ List.replicate (32 - (m + 1)) 0 := by
  have e : toLe (m + 1) F = toLe m F ++ [byteAt F m] := by simp [toLe, List.range_succ]
  rw [List.set_append_right _ _ (by rw [toLe_len]; exact Nat.le_refl _), toLe_len, Nat.sub_self, show 32 - m = (32 - (m + 1)) + 1 by omega, List.replicate_succ, List.set_cons_zero, e, List.append_assoc]
  rfl
/-- 32 bytes of zero -/
def z32 : List UInt8 := List.replicate 32 0
set_option maxRecDepth 100000 in
theorem wl_allocA {w : World} {ops : Array Oper} {rest : List Oper} {op : Oper} {a : Act} {Q : Exit → Act → World → Prop} (hw : Region.wanted op (yielded ops a.tmps) = true) (ho : op.op = .alloc 25) (g : Nat) (hg : w.heap.size = g)
    (hk : wpList Try.prog ops Q rest (a.put op.dst (.pointer (some ⟨g, 0, none⟩))) (w.alloc (.cells (bv z32).toArray 25))) : wpList Try.prog ops Q (op :: rest) a w := by
  subst hg
  refine wl_step hw fun K hK => ?_
  have hrun : (execOp a.eval op).run Try.prog w = .ok (.value (.pointer (some ⟨w.heap.size, 0, none⟩))) (w.alloc (.cells (bv z32).toArray 25)) := by
    unfold execOp
    rw [ho]
    kernel_rfl
  unfold Oper.wp
  rw [hrun, Oper.upon_value]
  exact hK _ _ hk
set_option maxHeartbeats 4000000 in
set_option maxRecDepth 100000 in
theorem Bytes_any (v : Nat) (hv : F4 v) (w : World) :
    Calls Try.prog 8 #[el v] w fun e w' => e = .returned (arr (toLe 32 (v % pF))) ∧ Below w.heap.size w w' := by
  have HN := Lib.hid (Norm_any v hv)
  have hF4 := F4.mod v
  obtain ⟨F, hF⟩ : ∃ F, v % pF = F := ⟨_, rfl⟩
  rw [hF] at HN hF4 ⊢
  rw [el_is v] at HN ⊢
  have hx1 := heap_alloc_new w (.cells (elc v) 33)
  have hb1 := (Below.refl w.heap.size w).alloc (Nat.le_refl _) (.cells (elc v) 33)
  have hs1 : (w.alloc (.cells (elc v) 33)).heap.size = w.heap.size + 1 := by simp
  have HX := Lib.hid (show Blk4 _ w.heap.size (elc v) from ⟨rfl, hx1⟩)
  have hxs := elc_size v
  have hxe : ¬ elc v = #[] := by intro h; rw [h] at hxs; cases hxs
  have HB := Lib.hid hb1
  clear hx1 hb1 hF
  generalize elc v = xc at *
  go_enter Try.func8, Try.ntmps8
  have HX2 := Lib.hid (show Blk4 ((w.alloc (.cells xc 33)).alloc (.cells (bv z32).toArray 25)) w.heap.size xc from HX.out.below ((Below.refl (w.heap.size + 1) _).alloc (by omega) _) (by omega))
  have HR2 := Lib.hid (show Arr ((w.alloc (.cells xc 33)).alloc (.cells (bv z32).toArray 25)) (w.heap.size + 1) z32 from by have := Arr.new (w.alloc (.cells xc 33)) (l := z32) rfl; rw [hs1] at this; exact this)
  have HB2 := Lib.hid (HB.out.alloc (by omega) (.cells (bv z32).toArray 25))
  have hs2 : ((w.alloc (.cells xc 33)).alloc (.cells (bv z32).toArray 25)).heap.size = w.heap.size + 2 := by simp
  go_wp2_with (first | (refine wl_allocA (by rfl) (by rfl) (w.heap.size + 1) hs1 ?_) | (refine wl_load4 (.tmp 1) HX2.out (by rfl) (by rfl) (by rfl) ?_))
  generalize (w.alloc (.cells xc 33)).alloc (.cells (bv z32).toArray 25) = w2 at *
  clear hs1 HX HB hxs hxe
  refine (HN.out w2).mono ?_
  rintro e w3 ⟨rfl, hb3⟩
  rw [hs2] at hb3
  have HX3 := Lib.hid (HX2.out.below hb3 (by omega))
  have HR3 := Lib.hid (HR2.out.below hb3 (by omega))
  have HB3 := Lib.hid (HB2.out.trans (hb3.mono (by omega)))
  have hs3 := hb3.size
  have hYs := elc_size F
  have hYo := elc_one F
  rw [el_is F]
  have HX4 := Lib.hid (HX3.out.set (Y := elc F) hYs)
  have HR4 := Lib.hid (HR3.out.far (show w.heap.size + 1 ≠ w.heap.size by omega) (elc F))
  have HB4 := Lib.hid (below_setRow HB3.out (Nat.le_refl w.heap.size) (elc F))
  have hs4 : (w3.setRow w.heap.size (elc F)).heap.size = w3.heap.size := size_setRow ..
  clear hb3 HX2 HR2 HB2
  go_wp2_with (first | (refine wl_allocA (by rfl) (by rfl) (w3.heap.size) hs4 ?_) | (refine wl_store4 (.tmp 1) (.tmp 6) HX3.out (by rfl) (by rfl) (by rfl) (Y := elc F) (by rfl) hYs hYo ?_))
  have hba := (Below.refl w3.heap.size (w3.setRow w.heap.size (elc F))).alloc (by rw [hs4]; exact Nat.le_refl _) (.cells (bv z32).toArray 25)
  have HX5 := Lib.hid (show RowU _ 33 w.heap.size (ws 4 F) from (HX4.out.below hba (by omega)).2)
  have HR5 := Lib.hid (HR4.out.below hba (by omega))
  have HB5 := Lib.hid (HB4.out.trans (hba.mono (by omega)))
  have hnew := Arr.new (w3.setRow w.heap.size (elc F)) (l := z32) rfl
  rw [hs4] at hnew
  have HQ5 := Lib.hid hnew
  clear hba hnew HX4 HR4 HB4 hs4 HX3 HR3 HB3 hYs hYo HN
  generalize (w3.setRow w.heap.size (elc F)).alloc (.cells (bv z32).toArray 25) = w5 at *
  have hq2 : w.heap.size + 2 ≤ w3.heap.size := by omega
  generalize w3.heap.size = q at *
  clear hs3 hs2
  go_loopw [7, 4] (fun i _ wr => ∃ m : Nat, m ≤ 32 ∧ i = .int .i64 (m : Int) ∧ RowU wr 33 w.heap.size (ws 4 F) ∧ Arr wr (w.heap.size + 1) z32 ∧ Arr wr q (toLe m F ++ List.replicate (32 - m) 0) ∧ Below w.heap.size w wr) (fun i _ _ => 32 - (intOf i).toNat)
  case' atStart => exact ⟨0, by omega, rfl, HX5.out, HR5.out, HQ5.out, HB5.out⟩
  case' round =>
    obtain ⟨m, hm, rfl, hx, hr, hq, hbr⟩ := hrel
    by_cases hlt : m < 32
    · have hcw := hx.cell (k := m / 8) (by rw [length_ws]; omega)
      have hcq := hq.cell hlt
      have hfq := hq.free m
      have HX6 := Lib.hid hx
      have HR6 := Lib.hid hr
      have HQ6 := Lib.hid hq
      have HB6 := Lib.hid hbr
      have hm8 : m / 8 < 4 := by omega
      clear hx hr hq hbr
      have hval : ((nt (ws 4 F) (m / 8) : Nat) : Int) / 2 ^ (8 * (m % 8)) % 256 = (((byteAt F m).toNat : Nat) : Int) := by
        have h1 := word_byte (V := F) hlt
        have h2 : (byteAt F m).toNat = F / 256 ^ m % 256 := by simp [byteAt]
        rw [h2, ← h1, pow256]
        simp
      have hs := HQ6.out.set m (byteAt F m)
      rw [toLe_set F m hlt] at hs
      have HV := Lib.hid hval
      have HS := Lib.hid hs
      have HX7 := Lib.hid (show RowU (wr.setCell ⟨q, m, none⟩ (.int .u8 ((byteAt F m).toNat : Int))) 33 w.heap.size (ws 4 F) from (Below.heap_setCell wr ⟨q, m, none⟩ _ w.heap.size (show w.heap.size ≠ q by omega)).trans HX6.out)
      have HR7 := Lib.hid (show Arr (wr.setCell ⟨q, m, none⟩ (.int .u8 ((byteAt F m).toNat : Int))) (w.heap.size + 1) z32 from ⟨HR6.out.1, (Below.heap_setCell wr ⟨q, m, none⟩ _ (w.heap.size + 1) (show w.heap.size + 1 ≠ q by omega)).trans HR6.out.2⟩)
      have HB7 := Lib.hid (HB6.out.setCell (p := ⟨q, m, none⟩) (show w.heap.size ≤ q by omega) (.int .u8 ((byteAt F m).toNat : Int)))
      clear hval hs
      go_wp2_with fail
      rw [HV.out]
      exact ⟨⟨m + 1, by omega, by go_num, HX7.out, HR7.out, HS.out, HB7.out⟩, by simp [intOf]; omega⟩
    · obtain rfl : m = 32 := by omega
      rw [Nat.sub_self, List.replicate_zero, List.append_nil] at hq
      have HQ6 := Lib.hid hq
      have HR6 := Lib.hid hr
      have HRS := Lib.hid ((hr.row (r := toLe 32 F) (toLe_len 32 F)).load)
      have HBS := Lib.hid (below_setRow hbr (show w.heap.size ≤ w.heap.size + 1 by omega) (bv (toLe 32 F)).toArray)
      have hlen := toLe_len 32 F
      clear hx hr hq hbr
      generalize hL : toLe 32 F = L at *
      have HL := Lib.hid hL
      clear hL
      go_wp2_with (first | (refine wl_loadA (.tmp 3) HQ6.out (by rfl) (by rfl) (by rfl) ?_) | (refine wl_storeA (.tmp 2) (.tmp 23) HR6.out (by rfl) (by rfl) (by rfl) (by rfl) hlen ?_))
      (try simp only [Exit.inBlock, Exit.then])
      refine bodyPost_ret (v := arr L) (results_cellU rfl _ _ _ ⟨w.heap.size + 1, 0, none⟩ _ rfl HRS.out) rfl ?_
      exact ⟨by rw [HL.out], HBS.out⟩
end Go.Proofs.Ytgpjidlomhkpeaa
