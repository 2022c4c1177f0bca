/-
  Contract of curve.Clamp. Conditions: the slice reads as bytes.
-/
import Derived.Test.YtgpjidlomhkpeaaFeBy
import Derived.Laws.BitsAllLaws
import Derived.Deep.Cut
namespace Go.Proofs.Ytgpjidlomhkpeaa
open Go Go.RowKit Go.Sh

set_option maxRecDepth 100000 in
/-- copy into a piece of a block that has room for all of the source -/
theorem wl_copyBlk {P : Program} {t t' e : TypeId} {z : Value} {bytes : Nat} (T : STy P t e z 1 bytes) {w : World} {ops : Array Oper} {rest : List Oper} {o : Oper} {a : Act} {Q : Exit → Act → World → Prop} (hgd : o.guard = none) (d s : Operand)
    (ho : o.op = .call { callee := .builtin .copy, args := #[d, s], argTypes := #[t, t'] })
    (g off dl dc : Nat) (hd : a.eval d = .slice (some ⟨g, off, none⟩) dl dc) (A : Option Addr) (m c : Nat) (hs : a.eval s = .slice A m c)
    (xs : List Value) (ty : TypeId) (hb : w.heap[g]? = some (.cells xs.toArray ty (0, 0))) (k : Nat) (hk : k = Nat.min m dl) (hoff : off + k ≤ xs.length) (B : Nat) (ys : List Value) (hr : Reads w B 1 A m ys) (h1 : ∀ u ∈ ys, u.oneCell' = true)
    (h : ∀ w', w'.heap[g]? = some (.cells (xs.take off ++ (ys.take k ++ xs.drop (off + k))).toArray ty (0, 0)) → w.grownBy w' (some g) → w'.heap.size = w.heap.size → wpList P ops Q rest (a.put o.dst (.int .i64 (k : Nat))) w') :
    wpList P ops Q (o :: rest) a w := by
  obtain ⟨i, hi, hz, hsize, hby⟩ := info_parts T.info
  have hsz : (P.info? e).map (·.size) = some 1 := by rw [hi]; simp [hsize]
  have hys : ys.length = m := by have := hr.1; omega
  have hkm : k ≤ m := by rw [hk]; exact Nat.min_le_left _ _
  by_cases h0 : m = 0
  · subst h0
    obtain rfl : k = 0 := by omega
    have hy0 : ys = [] := List.eq_nil_of_length_eq_zero hys
    subst hy0
    refine wpList_copy_nothing hgd d s t t' ho e T.und hsz (some ⟨g, off, none⟩) A dl dc 0 c hd hs (by simp) ?_
    exact h w (by rw [List.take_nil, List.nil_append, Nat.add_zero, List.take_append_drop]; exact hb) (World.grownBy.refl w _) rfl
  · obtain ⟨ad, rfl, _, hc⟩ := hr.some_ (by omega)
    have hkl : (ys.take k).length = k := by rw [List.length_take]; omega
    refine wpList_copy_own hgd d s t t' ho e T.und hsz g off dl dc ad m c hd hs xs.toArray ty hb (ys.take k) (by rw [hkl, hk]) (fun j v hv => ?_) (by rw [hkl]; simpa using hoff) (fun u hu => h1 u (List.mem_of_mem_take hu)) ?_
    · have hj : j < k := by have := (List.getElem?_eq_some_iff.1 hv).1; omega
      rw [List.getElem?_take, if_pos hj] at hv
      exact hc.get hv
    · have hgi : goInt (ys.take k).length = .int .i64 (k : Nat) := by rw [hkl]; rfl
      rw [hgi]
      refine h _ ?_ (grown_setRow _ _ _) (size_setRow _ _ _)
      rw [setRow_heap _ _ _ _ _ _ hb, List.toList_toArray, hkl]
theorem results_arr {fn : Func} {t u : Tmp} (h : fn.results = #[.cell t 25, .tmp u]) (ts : Array Value) (w : World) (p : Nat) (l : List UInt8) (x : Value) (h2 : ts.getD t undef = .pointer (some ⟨p, 0, none⟩)) (hx : ts.getD u undef = x) (h3 : Arr w p l) :
    (results fn ts).run Try.prog w = .ok (.tuple #[arr l, x]) w := results_cellU2 h ts _ w _ _ x h2 hx h3.load
set_option maxHeartbeats 4000000 in
set_option maxRecDepth 100000 in
/-- a wrong length -/
theorem ClampBad_any (A : Option Addr) (n c : Nat) (w : World) (hn : n ≠ 32) :
    Calls Try.prog 14 #[.slice A n c] w fun e w' => e = .returned (.tuple #[arr z32, .int .i64 2]) ∧ Below w.heap.size w w' := by
  have HX := Lib.hid (Arr.new w (l := z32) rfl)
  have hb := (Below.refl w.heap.size w).alloc (Nat.le_refl _) (.cells (bv z32).toArray 25)
  have HRS := Lib.hid (HX.out.row (r := z32) rfl)
  have HBS := Lib.hid (below_setRow hb (Nat.le_refl w.heap.size) (bv z32).toArray)
  have n32 : ((n : Int) != 32) = true := by simp only [bne_iff_ne, ne_eq]; omega
  clear hb hn
  go_enter Try.func14, Try.ntmps14
  go_wp2_with (first | (refine wl_allocA (by rfl) (by rfl) (w.heap.size) rfl ?_) | (refine wl_storeA (.tmp 2) (.tmp 8) HX.out (by rfl) (by rfl) (by rfl) (r := z32) (by rfl) rfl ?_))
  (try simp only [Exit.inBlock, Exit.then])
  refine bodyPost_ret (v := .tuple #[arr z32, .int .i64 2]) (results_arr rfl _ _ w.heap.size _ _ rfl rfl HRS.out) rfl ?_
  exact ⟨rfl, HBS.out⟩
/-- a secret's bytes, clamped -/
def clampB (l : List UInt8) : List UInt8 := ((l.set 0 (l.getD 0 0 &&& 248)).set 31 (l.getD 31 0 &&& 127)).set 31 ((l.getD 31 0 &&& 127) ||| 64)
set_option maxHeartbeats 4000000 in
set_option maxRecDepth 100000 in
theorem Clamp_any (A : Option Addr) (c : Nat) (l : List UInt8) (w : World) (hr : RB w w.heap.size A 32 l) :
    Calls Try.prog 14 #[.slice A 32 c] w fun e w' => e = .returned (.tuple #[arr (clampB l), .int .i64 0]) ∧ Below w.heap.size w w' := by
  have HLN := Lib.hid hr.len
  obtain ⟨L, hL⟩ : ∃ L, clampB l = L := ⟨_, rfl⟩
  rw [hL]
  have HCL := Lib.hid hL
  clear hL
  have hx1 := Arr.new w (l := z32) rfl
  have hs1 : (w.alloc (.cells (bv z32).toArray 25)).heap.size = w.heap.size + 1 := by simp
  have hx2 := Arr.new (w.alloc (.cells (bv z32).toArray 25)) (l := z32) rfl
  rw [hs1] at hx2
  have HX0 := Lib.hid (hx1.below ((Below.refl (w.heap.size + 1) _).alloc (by omega) (.cells (bv z32).toArray 25)) (by omega))
  have HX := Lib.hid hx2
  have hb1 := (Below.refl w.heap.size w).alloc (Nat.le_refl _) (.cells (bv z32).toArray 25)
  have hb2 := hb1.alloc (by omega) (.cells (bv z32).toArray 25)
  have HR := Lib.hid (show Reads _ _ 1 A 32 (bv l) from hr.below hb2)
  have HB := Lib.hid hb2
  clear hx1 hx2 hb1 hb2 hr
  go_enter Try.func14, Try.ntmps14
  go_wp2_with (first | (refine wl_allocA (by rfl) (by rfl) (w.heap.size) rfl ?_) | (refine wl_allocA (by rfl) (by rfl) (w.heap.size + 1) hs1 ?_) | (refine wl_copyBlk TB rfl (.tmp 9) (.tmp 10) rfl (w.heap.size + 1) 0 32 32 rfl A 32 c rfl (bv z32) 25 HX.out.2 32 rfl (by rw [length_bv]; decide) _ (bv l) HR.out (bv_one l) ?_))
  intro w3 hb3 hg3 hz3
  have hH3 : Arr w3 (w.heap.size + 1) l := ⟨HLN.out, by
    rw [hb3, List.take_of_length_le (by rw [length_bv, HLN.out]; exact Nat.le_refl _), List.drop_eq_nil_of_le (by rw [length_bv]; decide), List.append_nil]⟩
  have hX3 : Arr w3 w.heap.size z32 := ⟨rfl, (hg3.block w.heap.size (by simp; omega) (by intro h; injection h with h; omega)).trans HX0.out.2⟩
  have hB3 := HB.out.grown hg3 (by simp; omega) (by intro k hk; injection hk with hk; omega)
  have hc0 := hH3.cell (k := 0) (by decide)
  have hf0 := hH3.free 0
  have h4 := hH3.set 0 (l.getD 0 0 &&& 248)
  have hc1 := h4.cell (k := 31) (by decide)
  have hf1 := h4.free 31
  have h5 := h4.set 31 (l.getD 31 0 &&& 127)
  have hc2 := h5.cell (k := 31) (by decide)
  have hf2 := h5.free 31
  have h6 := h5.set 31 ((l.getD 31 0 &&& 127) ||| 64)
  have e0 : bt l 0 = ((l.getD 0 0).toNat : Int) := rfl
  have e1 : bt (l.set 0 (l.getD 0 0 &&& 248)) 31 = ((l.getD 31 0).toNat : Int) := by
    show (((l.set 0 (l.getD 0 0 &&& 248)).getD 31 0).toNat : Int) = _
    rw [List.getD_eq_getElem?_getD, List.getElem?_set_ne (by decide), ← List.getD_eq_getElem?_getD]
  have e2 : bt ((l.set 0 (l.getD 0 0 &&& 248)).set 31 (l.getD 31 0 &&& 127)) 31 = ((l.getD 31 0 &&& 127).toNat : Int) := by
    show ((((l.set 0 (l.getD 0 0 &&& 248)).set 31 (l.getD 31 0 &&& 127)).getD 31 0).toNat : Int) = _
    rw [List.getD_eq_getElem?_getD, List.getElem?_set_self (by rw [List.length_set, HLN.out]; decide)]
    rfl
  rw [e0] at hc0
  rw [e1] at hc1
  rw [e2] at hc2
  have v0 : bits .and .u8 ((l.getD 0 0).toNat : Int) 248 = ((l.getD 0 0 &&& 248).toNat : Int) := by rw [UInt8.toNat_and]; exact u8_and_nat _ 248 (UInt8.toNat_lt _) (by decide)
  have v1 : bits .and .u8 ((l.getD 31 0).toNat : Int) 127 = ((l.getD 31 0 &&& 127).toNat : Int) := by rw [UInt8.toNat_and]; exact u8_and_nat _ 127 (UInt8.toNat_lt _) (by decide)
  have v2 : bits .or .u8 ((l.getD 31 0 &&& 127).toNat : Int) 64 = (((l.getD 31 0 &&& 127) ||| 64).toNat : Int) := by rw [UInt8.toNat_or]; exact u8_or_nat _ 64 (UInt8.toNat_lt _) (by decide)
  have hCL : L = ((l.set 0 (l.getD 0 0 &&& 248)).set 31 (l.getD 31 0 &&& 127)).set 31 ((l.getD 31 0 &&& 127) ||| 64) := HCL.out.symm
  have hB6 := ((hB3.setCell (p := ⟨w.heap.size + 1, 0, none⟩) (show w.heap.size ≤ w.heap.size + 1 by omega) (.int .u8 ((l.getD 0 0 &&& 248).toNat : Int))).setCell (p := ⟨w.heap.size + 1, 31, none⟩) (show w.heap.size ≤ w.heap.size + 1 by omega) (.int .u8 ((l.getD 31 0 &&& 127).toNat : Int))).setCell (p := ⟨w.heap.size + 1, 31, none⟩) (show w.heap.size ≤ w.heap.size + 1 by omega) (.int .u8 (((l.getD 31 0 &&& 127) ||| 64).toNat : Int))
  have hX6 : Arr (((w3.setCell ⟨w.heap.size + 1, 0, none⟩ (.int .u8 ((l.getD 0 0 &&& 248).toNat : Int))).setCell ⟨w.heap.size + 1, 31, none⟩ (.int .u8 ((l.getD 31 0 &&& 127).toNat : Int))).setCell ⟨w.heap.size + 1, 31, none⟩ (.int .u8 (((l.getD 31 0 &&& 127) ||| 64).toNat : Int))) w.heap.size z32 :=
    ⟨rfl, (Below.heap_setCell _ ⟨w.heap.size + 1, 31, none⟩ _ w.heap.size (show w.heap.size ≠ w.heap.size + 1 by omega)).trans ((Below.heap_setCell _ ⟨w.heap.size + 1, 31, none⟩ _ w.heap.size (show w.heap.size ≠ w.heap.size + 1 by omega)).trans ((Below.heap_setCell _ ⟨w.heap.size + 1, 0, none⟩ _ w.heap.size (show w.heap.size ≠ w.heap.size + 1 by omega)).trans hX3.2))⟩
  rw [← hCL] at h6
  have hlc : (L).length = 32 := h6.1
  have H6 := Lib.hid h6
  have HX6 := Lib.hid hX6
  have HRS := Lib.hid (hX6.row (r := L) hlc)
  have HBS := Lib.hid (below_setRow hB6 (Nat.le_refl w.heap.size) (bv (L)).toArray)
  clear hCL h6 hX6 hB6 h4 h5 e0 e1 e2 hb3 hg3 hH3 hX3 hB3 HX0 HX HR HB hs1 hz3 HCL
  generalize (l.getD 31 0 &&& 127) ||| 64 = a2 at *
  generalize l.getD 31 0 &&& 127 = a1 at *
  generalize l.getD 0 0 &&& 248 = a0 at *
  generalize (l.getD 31 0).toNat = b1 at *
  generalize (l.getD 0 0).toNat = b0 at *
  go_upto_region 8 with fail
  clear hc0 hc1 hc2 hf0 hf1 hf2 v0 v1 v2
  generalize ((w3.setCell ⟨w.heap.size + 1, 0, none⟩ (.int .u8 (a0.toNat : Int))).setCell ⟨w.heap.size + 1, 31, none⟩ (.int .u8 (a1.toNat : Int))).setCell ⟨w.heap.size + 1, 31, none⟩ (.int .u8 (a2.toNat : Int)) = w6 at *
  have H7 := Lib.hid (show Arr w6 (w.heap.size + 1) L from H6.out)
  go_wp2_with (first | (refine wl_loadA (.tmp 4) H7.out (by rfl) (by rfl) (by rfl) ?_) | (refine wl_storeA (.tmp 2) (.tmp 24) HX6.out (by rfl) (by rfl) (by rfl) (by rfl) hlc ?_))
  (try simp only [Exit.inBlock, Exit.then])
  refine bodyPost_ret (v := .tuple #[arr (L), .int .i64 0]) (results_arr rfl _ _ w.heap.size _ _ rfl rfl HRS.out) rfl ?_
  exact ⟨rfl, HBS.out⟩
end Go.Proofs.Ytgpjidlomhkpeaa
