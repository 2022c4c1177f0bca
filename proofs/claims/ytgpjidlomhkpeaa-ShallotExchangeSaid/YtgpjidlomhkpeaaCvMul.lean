/-
  Contract of curve.Mult. Conditions: both slices read as 32 bytes.
-/
import Derived.Test.YtgpjidlomhkpeaaCvEq
import Derived.Test.YtgpjidlomhkpeaaLadSt
namespace Go.Proofs.Ytgpjidlomhkpeaa
open Go Go.RowKit Go.Sh

/-- a ladder's four numbers -/
structure S4 where
  x2 : Nat
  z2 : Nat
  x3 : Nat
  z3 : Nat
def S4.sw (s : S4) : S4 := ⟨s.x3, s.z3, s.x2, s.z2⟩
def S4.F (s : S4) : Prop := F4 s.x2 ∧ F4 s.z2 ∧ F4 s.x3 ∧ F4 s.z3
def stpN (x1 : Nat) (s : S4) : S4 := ⟨nX2 s.x2 s.z2, nZ2 s.x2 s.z2, nX3 s.x2 s.z2 s.x3 s.z3, nZ3 x1 s.x2 s.z2 s.x3 s.z3⟩
def bstpN (x1 : Nat) (b : Bool) (s : S4) : S4 := if b then (stpN x1 s.sw).sw else stpN x1 s
/-- behind the first j of 255 rounds -/
def runN (x1 n : Nat) : Nat → S4
  | 0 => ⟨1, 0, x1, 1⟩
  | j + 1 => bstpN x1 (n.testBit (254 - j)) (runN x1 n j)
/-- what the ladder comes to -/
def LN (n x1 : Nat) : Nat := (runN x1 n 255).x2 * ((runN x1 n 255).z2 ^ (pF - 2) % pF) % pF
/-- what Mult answers: nought is an error -/
def multV (Y : List UInt8) : Value := if Y = z32 then .tuple #[arr z32, .int .i64 5] else .tuple #[arr Y, .int .i64 0]
theorem S4.F.sw {s : S4} (h : s.F) : s.sw.F := ⟨h.2.2.1, h.2.2.2, h.1, h.2.1⟩
theorem F4.nX2 (a b : Nat) : F4 (nX2 a b) := F4.M _ _
theorem F4.nZ2 (a b : Nat) : F4 (nZ2 a b) := F4.M _ _
theorem F4.nX3 (a b c d : Nat) : F4 (nX3 a b c d) := F4.Q _
theorem F4.nZ3 (x a b c d : Nat) : F4 (nZ3 x a b c d) := F4.M _ _
theorem stpN_F (x1 : Nat) (s : S4) : (stpN x1 s).F := ⟨F4.nX2 _ _, F4.nZ2 _ _, F4.nX3 _ _ _ _, F4.nZ3 _ _ _ _ _⟩
theorem bstpN_F (x1 : Nat) (b : Bool) (s : S4) : (bstpN x1 b s).F := by
  unfold bstpN
  split
  · exact (stpN_F _ _).sw
  · exact stpN_F _ _
theorem runN_F {x1 : Nat} (h : F4 x1) (n : Nat) : ∀ j, (runN x1 n j).F
  | 0 => ⟨by show 1 < _; decide, by show 0 < _; decide, h, by show 1 < _; decide⟩
  | j + 1 => bstpN_F _ _ _
/-- a ladder in memory, its four numbers a state -/
def LadS (w : World) (p x1 : Nat) (s : S4) : Prop := LadB w p x1 s.x2 s.z2 s.x3 s.z3
theorem exchange_S (p x1 : Nat) (s : S4) (w : World) (h : LadS w p x1 s) : Calls Try.prog 16 #[.pointer (some ⟨p, 0, none⟩)] w fun x w' => x = .returned (.tuple #[]) ∧ LadS w' p x1 s.sw ∧ w.grownBy w' (some p) := exchange_any p x1 s.x2 s.z2 s.x3 s.z3 w h
theorem step_S (p x1 : Nat) (s : S4) (w : World) (h1 : F4 x1) (hs : s.F) (h : LadS w p x1 s) : Calls Try.prog 17 #[.pointer (some ⟨p, 0, none⟩)] w fun x w' => x = .returned (.tuple #[]) ∧ LadS w' p x1 (stpN x1 s) ∧ w.grownBy w' (some p) := ladstep_any p x1 s.x2 s.z2 s.x3 s.z3 w h1 hs.1 hs.2.1 hs.2.2.1 hs.2.2.2 h
set_option maxRecDepth 100000 in
theorem lad_built (x : Nat) : Try.prog.built 50 [(0, .agg (elc x)), (1, .agg (elc 1)), (3, .agg (elc x)), (4, .agg (elc 1))] = some (lcs x 1 0 x 1).toArray := by kernel_rfl
set_option maxRecDepth 100000 in
theorem ratio_built (a b : Nat) : Try.prog.built 52 [(0, .agg (elc a)), (1, .agg (elc b))] = some (elc a ++ elc b) := by kernel_rfl
theorem lad_new (w : World) (x : Nat) : LadS (w.alloc (.cells (lcs x 1 0 x 1).toArray 50)) w.heap.size x ⟨1, 0, x, 1⟩ := heap_alloc_new w _
theorem LadS.lt {w : World} {p x : Nat} {s : S4} (h : LadS w p x s) : p < w.heap.size := LadB.lt h
theorem wl_allocE {w : World} {ops : Array Oper} {rest : List Oper} {op : Oper} {a : Act} {Q : Exit → Act → World → Prop} (hw : Region.wanted op (yielded ops a.tmps) = true) (ho : op.op = .alloc 33) (g : Nat) (hg : w.heap.size = g)
    (hk : wpList Try.prog ops Q rest (a.put op.dst (.pointer (some ⟨g, 0, none⟩))) (w.alloc (.cells (elc 0) 33))) : wpList Try.prog ops Q (op :: rest) a w := by
  subst hg
  exact wl_step hw fun _ hK => op_allocE ho (hK _ _ hk)
theorem wl_loadF {w : World} {p off v : Nat} {ops : Array Oper} {rest : List Oper} {op : Oper} {a : Act} {Q : Exit → Act → World → Prop} (x : Operand) (h : w.rangeAt p off (elL v)) (hw : Region.wanted op (yielded ops a.tmps) = true) (ho : op.op = .load 33 x)
    (hx : a.eval x = .pointer (some ⟨p, off, none⟩)) (hk : wpList Try.prog ops Q rest (a.put op.dst (.agg (elc v))) w) : wpList Try.prog ops Q (op :: rest) a w :=
  wl_load_mid hw _ x ho p off hx (elL v) _ h Try.underlying33 rfl info4L hk
set_option maxRecDepth 100000 in
theorem zeroLad : ∀ w : World, (zeroValue 50).run Try.prog w = .ok (.agg (lcs 0 0 0 0 0).toArray) w := fun _ => by kernel_rfl
set_option maxRecDepth 100000 in
theorem op_allocL {o : Oper} {a : Act} {w : World} {K : Act → World → Prop} {Q : Exit → Act → World → Prop} (ho : o.op = .alloc 50)
    (hk : K (a.put o.dst (.pointer (some ⟨w.heap.size, 0, none⟩))) (w.alloc (.cells (lcs 0 0 0 0 0).toArray 50))) : o.wp Try.prog a w K Q := by
  have hrun : (execOp a.eval o).run Try.prog w = .ok (.value (.pointer (some ⟨w.heap.size, 0, none⟩))) (w.alloc (.cells (lcs 0 0 0 0 0).toArray 50)) := by
    unfold execOp
    rw [ho]
    kernel_rfl
  unfold Oper.wp
  rw [hrun, Oper.upon_value]
  exact hk
set_option maxRecDepth 100000 in
theorem infoL : (Try.prog.info? 50).map (·.size) = some 20 := by kernel_rfl
set_option maxRecDepth 100000 in
theorem lcs_one (a b c d e : Nat) : ∀ v ∈ (lcs a b c d e).toArray.toList, v.oneCell' = true := by
  intro v hv
  simp only [lcs, List.mem_append] at hv
  rcases hv with h | h | h | h | h <;> exact uv_one _ v (by simpa [elL] using h)
theorem wl_storeLad (x y : Operand) {w : World} {p a1 b1 c1 d1 e1 : Nat} (H : LadB w p a1 b1 c1 d1 e1) {Y : Array Value} (hY : Y.size = 20) (h1 : ∀ v ∈ Y.toList, v.oneCell' = true) {ops : Array Oper} {rest : List Oper} {op : Oper} {a : Act} {Q : Exit → Act → World → Prop} (hw : Region.wanted op (yielded ops a.tmps) = true) (ho : op.op = .store 50 x y)
    (hx : a.eval x = .pointer (some ⟨p, 0, none⟩)) (hy : a.eval y = .agg Y) (hk : wpList Try.prog ops Q rest (a.put op.dst undef) (w.setRow p Y)) : wpList Try.prog ops Q (op :: rest) a w := by
  refine wl_store_blk hw _ x y ho p 0 Y hx hy _ _ H (by rw [hY]; show 0 + 20 ≤ 20; decide) (by rw [hY]; exact infoL) h1 ?_
  have e : ((lcs a1 b1 c1 d1 e1).toArray.toList.take 0 ++ Y.toList ++ (lcs a1 b1 c1 d1 e1).toArray.toList.drop (0 + Y.size)).toArray = Y := by
    rw [List.take_zero, List.nil_append, List.drop_eq_nil_of_le (by rw [hY]; exact Nat.le_refl 20), List.append_nil, Array.toArray_toList]
  rw [e]
  exact hk
set_option maxHeartbeats 4000000 in
set_option maxRecDepth 100000 in
/-- curve.Mult -/
theorem Mult_any (A B : Option Addr) (c d : Nat) (k u : List UInt8) (w : World) (hk : RB w w.heap.size A 32 k) (hu : RB w w.heap.size B 32 u) :
    Calls Try.prog 11 #[.slice A 32 c, .slice B 32 d] w fun e w' => e = .returned (multV (toLe 32 (LN (le (clampB k)) (le u % 57896044618658097711785492504343953926634992332820282019728792003956564819968 % pF)))) ∧ Below w.heap.size w w' := by
  have hba := (Below.refl w.heap.size w).alloc (Nat.le_refl _) (.cells (bv z32).toArray 25)
  have hx1 := Arr.new w (l := z32) rfl
  have hs1 : (w.alloc (.cells (bv z32).toArray 25)).heap.size = w.heap.size + 1 := by simp
  have hk1 : RB (w.alloc (.cells (bv z32).toArray 25)) (w.alloc (.cells (bv z32).toArray 25)).heap.size A 32 k := (hk.below hba).more (by omega)
  have hu1 : RB (w.alloc (.cells (bv z32).toArray 25)) (w.alloc (.cells (bv z32).toArray 25)).heap.size B 32 u := (hu.below hba).more (by omega)
  have HX1 := Lib.hid hx1
  have HB1 := Lib.hid hba
  have HK1 := Lib.hid hk1
  have HU1 := Lib.hid hu1
  obtain ⟨L, hL⟩ : ∃ L, clampB k = L := ⟨_, rfl⟩
  obtain ⟨X, hX⟩ : ∃ X, le u % 57896044618658097711785492504343953926634992332820282019728792003956564819968 % pF = X := ⟨_, rfl⟩
  have HCL := Lib.hid (Clamp_any A c k)
  have HRD := Lib.hid (Read_any B d u)
  have hLL : L.length = 32 := by rw [← hL]; simp [clampB, hk.len]
  have hXF : F4 X := by rw [← hX]; exact F4.mod _
  rw [hL] at HCL
  rw [hX, el_is X] at HRD
  rw [hL, hX]
  obtain ⟨R, hR⟩ : ∃ R, multV (toLe 32 (LN (le L) X)) = R := ⟨_, rfl⟩
  rw [hR]
  have HRR := Lib.hid hR
  clear hL hX hR hk hu hba hx1 hk1 hu1
  go_enter Try.func11, Try.ntmps11
  go_wp2_with (first | (refine wl_allocA (by rfl) (by rfl) (w.heap.size) rfl ?_))
  generalize hw1 : w.alloc (.cells (bv z32).toArray 25) = w1 at *
  clear hw1
  refine (HCL.out w1 HK1.out).mono ?_
  rintro e w2 ⟨rfl, hb2⟩
  rw [hs1] at hb2
  have hk2 : RB w2 w.heap.size.succ A 32 k := (HK1.out.more (Nat.le_of_eq hs1)).below hb2
  have hu2 : RB w2 w.heap.size.succ B 32 u := (HU1.out.more (Nat.le_of_eq hs1)).below hb2
  have hx2 := HX1.out.below hb2 (by omega)
  have hB2 := HB1.out.trans (hb2.mono (Nat.le_succ _))
  have hsz2 := hb2.size
  rw [hs1] at hsz2
  obtain ⟨q, hq⟩ : ∃ q, w2.heap.size = q := ⟨_, rfl⟩
  rw [hq] at hsz2
  have hba := (Below.refl q w2).alloc (by rw [hq]; exact Nat.le_refl _) (.cells (bv z32).toArray 25)
  have hq3 := Arr.new w2 (l := z32) rfl
  rw [hq] at hq3
  have HQ3 := Lib.hid hq3
  have HQ4 := Lib.hid (hq3.row (r := L) hLL)
  have hb4 := below_setRow hba (Nat.le_refl q) (bv L).toArray
  have hs4 : ((w2.alloc (.cells (bv z32).toArray 25)).setRow q (bv L).toArray).heap.size = q + 1 := by rw [size_setRow]; simp [hq]
  have HU4 := Lib.hid ((hu2.below (hb4.mono (by omega))).more (show w.heap.size.succ ≤ q + 1 by omega))
  have HX4 := Lib.hid (hx2.below hb4 (by omega))
  have HB4 := Lib.hid (hB2.trans (hb4.mono (by omega)))
  clear hk2 hu2 hx2 hB2 hb2 hba hq3 hb4 HK1 HU1 HX1 HB1 HCL hs1
  go_wp2_with (first | (refine wl_allocA (by rfl) (by rfl) q hq ?_) | (refine wl_storeA (.tmp 6) (.tmp 16) HQ3.out (by rfl) (by rfl) (by rfl) (by rfl) hLL ?_))
  clear HQ3
  generalize (w2.alloc (.cells (bv z32).toArray 25)).setRow q (bv L).toArray = w4 at *
  refine (HRD.out w4 (by rw [hs4]; exact HU4.out)).mono ?_
  rintro e w5 ⟨rfl, hb5⟩
  rw [hs4] at hb5
  have hx5 := HX4.out.below hb5 (by omega)
  have hq5 := HQ4.out.below hb5 (by omega)
  have hB5 := HB4.out.trans (hb5.mono (by omega))
  have hsz5 := hb5.size
  rw [hs4] at hsz5
  obtain ⟨r, hr⟩ : ∃ r, w5.heap.size = r := ⟨_, rfl⟩
  rw [hr] at hsz5
  have hba := (Below.refl r w5).alloc (by rw [hr]; exact Nat.le_refl _) (.cells (elc 0) 33)
  have hr6 := Blk4.new w5 (X := elc 0) rfl
  rw [hr] at hr6
  have HR6 := Lib.hid hr6
  have HR7 := Lib.hid (hr6.set (Y := elc X) (elc_size X))
  have hb7 := below_setRow hba (Nat.le_refl r) (elc X)
  have hs7 : ((w5.alloc (.cells (elc 0) 33)).setRow r (elc X)).heap.size = r + 1 := by rw [size_setRow]; simp [hr]
  have HX7 := Lib.hid (hx5.below hb7 (by omega))
  have HQ7 := Lib.hid (hq5.below hb7 (by omega))
  have HB7 := Lib.hid (hB5.trans (hb7.mono (by omega)))
  clear hx5 hq5 hB5 hb5 hba hr6 hb7 HU4 HX4 HQ4 HB4 HRD
  go_upto_region 7 with (first | (refine wl_allocE (by rfl) (by rfl) r hr ?_) | (refine wl_store4 (.tmp 8) (.tmp 25) HR6.out (by rfl) (by rfl) (by rfl) (Y := elc X) (by rfl) (elc_size X) (elc_one X) ?_))
  clear HR6
  generalize (w5.alloc (.cells (elc 0) 33)).setRow r (elc X) = w7 at *
  have HOF := Lib.hid (Of_any 1 (by decide))
  obtain ⟨XC, hXC⟩ : ∃ XC, (lcs X 1 0 X 1).toArray = XC := ⟨_, rfl⟩
  have hXs : XC.size = 20 := by rw [← hXC]; rfl
  have hXo : ∀ v ∈ XC.toList, v.oneCell' = true := by rw [← hXC]; exact lcs_one _ _ _ _ _
  have HXB := Lib.hid (show Try.prog.built 50 [(0, .agg (elc X)), (1, .agg (elc 1)), (3, .agg (elc X)), (4, .agg (elc 1))] = some XC by rw [← hXC]; exact lad_built X)
  have HLR := Lib.hid (show ∀ (W : World) (g : Nat), LadB W g 0 0 0 0 0 → LadS (W.setRow g XC) g X ⟨1, 0, X, 1⟩ from fun W g h => by rw [← hXC]; exact h.row rfl)
  clear hXC
  refine wp_region_head 6 [31, 32, 33, 34, 35, 9] (fun i v W => match i with
    | 0 => v = .agg (elc X)
    | 1 => v = .agg (elc 1)
    | 2 => v = .agg (elc X)
    | 3 => v = .agg (elc 1)
    | 4 => v = .agg XC
    | 5 => ∃ g, v = .pointer (some ⟨g, 0, none⟩) ∧ r + 1 ≤ g ∧ LadB W g 0 0 0 0 0
    | _ => True) (fun i v => if i ∈ [5] then blkOf v else none) (by kernel_rfl) (by kernel_rfl) rfl rfl (by decide) (by show ∀ d ∈ [31, 32, 33, 34, 35, 9], d < 67; decide) rfl ?_ ?_ ?_
  · intro i v W W' h hb
    match i, h with
    | 0, h => exact h
    | 1, h => exact h
    | 2, h => exact h
    | 3, h => exact h
    | 4, h => exact h
    | 5, h =>
      obtain ⟨g, h1, h2, h3⟩ := h
      exact ⟨g, h1, h2, h3.below hb h3.lt⟩
    | k + 6, _ => trivial
  · intro i o h a' W hA hD hbW
    rw [hs7] at hbW
    match i, h with
    | 0, h =>
      obtain rfl := Option.some.inj h
      exact op_loadR (.tmp 8) rfl (elc_size X) (rangeAt_below (blk_range (l := elL X) HR7.out.2) hbW (by omega)) (hA 8 (by decide)) ⟨_, rfl, Below.refl _ _, rfl, fun b h => by cases h⟩
    | 1, h =>
      obtain rfl := Option.some.inj h
      go_simp
      refine (HOF.out W).mono ?_
      rintro e W' ⟨rfl, hbb⟩
      exact ⟨rfl, hbb⟩
    | 2, h =>
      obtain rfl := Option.some.inj h
      exact op_loadR (.tmp 8) rfl (elc_size X) (rangeAt_below (blk_range (l := elL X) HR7.out.2) hbW (by omega)) (hA 8 (by decide)) ⟨_, rfl, Below.refl _ _, rfl, fun b h => by cases h⟩
    | 3, h =>
      obtain rfl := Option.some.inj h
      go_simp
      refine (HOF.out W).mono ?_
      rintro e W' ⟨rfl, hbb⟩
      exact ⟨rfl, hbb⟩
    | 4, h =>
      obtain rfl := Option.some.inj h
      have e0 : a'.eval (.tmp 31) = .agg (elc X) := hD ⟨0, .data⟩ (by simp) rfl 31 rfl
      have e1 : a'.eval (.tmp 32) = .agg (elc 1) := hD ⟨1, .data⟩ (by simp) rfl 32 rfl
      have e2 : a'.eval (.tmp 33) = .agg (elc X) := hD ⟨2, .data⟩ (by simp) rfl 33 rfl
      have e3 : a'.eval (.tmp 34) = .agg (elc 1) := hD ⟨3, .data⟩ (by simp) rfl 34 rfl
      refine op_built _ _ rfl [(0, .agg (elc X)), (1, .agg (elc 1)), (3, .agg (elc X)), (4, .agg (elc 1))] (by simp [e0, e1, e2, e3]) HXB.out ⟨_, rfl, Below.refl _ _, rfl, fun b h => by cases h⟩
    | 5, h =>
      obtain rfl := Option.some.inj h
      refine op_allocL rfl ⟨_, rfl, (Below.refl _ _).alloc (Nat.le_refl _) _, ⟨W.heap.size, rfl, by have := hbW.size; omega, heap_alloc_new W _⟩, fun b h => own_ltP h _⟩
    | k + 6, h => simp at h
  · intro x w8 hx _ _ hb8
    have x0 : x 0 = .agg (elc X) := hx 0 (by decide)
    have x1 : x 1 = .agg (elc 1) := hx 1 (by decide)
    have x2 : x 2 = .agg (elc X) := hx 2 (by decide)
    have x3 : x 3 = .agg (elc 1) := hx 3 (by decide)
    have x4 : x 4 = .agg XC := hx 4 (by decide)
    obtain ⟨g, x5, hg, hL8⟩ : ∃ g, x 5 = .pointer (some ⟨g, 0, none⟩) ∧ r + 1 ≤ g ∧ LadB w8 g 0 0 0 0 0 := hx 5 (by decide)
    rw [hs7] at hb8
    have HL8 := Lib.hid hL8
    have hx8 := HX7.out.below hb8 (by omega)
    have hq8 := HQ7.out.below hb8 (by omega)
    have hB8 := HB7.out.trans (hb8.mono (by omega))
    have HL9 := Lib.hid (HLR.out w8 g hL8)
    have HX9 := Lib.hid (hx8.far (show w.heap.size ≠ g by omega) XC)
    have HQ9 := Lib.hid (hq8.far (show q ≠ g by omega) XC)
    have HB9 := Lib.hid (below_setRow hB8 (show w.heap.size ≤ g by omega) XC)
    clear hL8 hx8 hq8 hB8 hb8 hx
    simp only [setAll, List.drop_succ_cons, List.drop_zero, Nat.zero_add, Nat.reduceAdd, x0, x1, x2, x3, x4, x5, List.setIfInBounds_toArray, List.set_cons_zero, List.set_cons_succ]
    clear x0 x1 x2 x3 x4 x5
    have hsz9 : g < (w8.setRow g XC).heap.size := HL9.out.lt
    go_wp2_with (refine wl_storeLad (.tmp 9) (.tmp 35) HL8.out hXs hXo (by rfl) (by rfl) (by rfl) (by rfl) ?_)
    generalize w8.setRow g XC = w9 at *
    clear HL8 HX7 HQ7 HB7 HR7 HOF hs7
    go_loopw [10, 11] (fun i _ wr => ∃ m : Nat, m ≤ 255 ∧ i = .int .i64 ((m : Int) - 1) ∧ LadS wr g X (runN X (le L) (255 - m)) ∧ Arr wr w.heap.size z32 ∧ Arr wr q L ∧ Below w.heap.size w wr) (fun i _ _ => (intOf i + 1).toNat)
    case' atStart => exact ⟨255, by omega, rfl, HL9.out, HX9.out, HQ9.out, HB9.out⟩
    case' round =>
      obtain ⟨m, hm, rfl, hl, hx, hq, hbr⟩ := hrel
      have hsr : g < wr.heap.size := hl.lt
      match m, hm, hl with
      | 0, hm, hl =>
        have hF := runN_F hXF (le L) 255
        obtain ⟨S, hS⟩ : ∃ S, runN X (le L) 255 = S := ⟨_, rfl⟩
        have hLN : S.x2 * (S.z2 ^ (pF - 2) % pF) % pF = LN (le L) X := by rw [← hS]; rfl
        rw [show 255 - 0 = 255 from rfl, hS] at hl
        rw [hS] at hF
        rw [show (((0 : Nat) : Int) - 1) = -1 from rfl]
        obtain ⟨-, hr1, hr2, -, -⟩ := LadB.range hl
        have HR1 := Lib.hid hr1
        have HR2 := Lib.hid hr2
        have HVA := Lib.hid (Value_any S.x2 S.z2 hF.1 hF.2.1)
        have HBY := Lib.hid (Bytes_any (LN (le L) X) (F4.mod _))
        have hmm : LN (le L) X % pF = LN (le L) X := Nat.mod_mod _ _
        have HRB := Lib.hid (ratio_built S.x2 S.z2)
        rw [hLN] at HVA
        rw [hmm] at HBY
        obtain ⟨Y, hY⟩ : ∃ Y, toLe 32 (LN (le L) X) = Y := ⟨_, rfl⟩
        have hYl : Y.length = 32 := by rw [← hY]; exact toLe_len _ _
        rw [hY] at HBY
        have HYY := Lib.hid (show multV Y = R by rw [← hY]; exact HRR.out)
        have HX := Lib.hid hx
        have HB := Lib.hid hbr
        clear hl hx hq hbr HL9 HX9 HQ9 HB9 hS hF hr1 hr2 hmm hY hLN
        generalize LN (le L) X = N at *
        rw [el_is N] at HVA HBY
        generalize S.x2 = sx at *
        generalize S.z2 = sz at *
        obtain ⟨PC, hPC⟩ : ∃ PC, elc sx ++ elc sz = PC := ⟨_, rfl⟩
        rw [hPC] at HVA HRB
        clear hPC
        go_upto_region 17 with fail
        go_wp2_with (first | (refine wl_loadF (.tmp 55) HR1.out (by rfl) (by rfl) (by rfl) ?_) | (refine wl_loadF (.tmp 57) HR2.out (by rfl) (by rfl) (by rfl) ?_) | (refine wl_builtL (by rfl) 52 [(0, .tmp 56), (1, .tmp 58)] (by rfl) [(0, .agg (elc sx)), (1, .agg (elc sz))] (by rfl) HRB.out ?_))
        clear HR1 HR2 HRB
        refine (HVA.out wr).mono ?_
        rintro e wa ⟨rfl, hba⟩
        have HX1 := Lib.hid (HX.out.below hba HX.out.lt)
        have HB1 := Lib.hid (HB.out.trans (hba.mono HB.out.size))
        clear HX HB hba HVA
        go_wp2_with fail
        refine (HBY.out wa).mono ?_
        rintro e wb ⟨rfl, hbb⟩
        have hx2 := HX1.out.below hbb HX1.out.lt
        have hb2 := HB1.out.trans (hbb.mono HB1.out.size)
        obtain ⟨h, hh⟩ : ∃ h, wb.heap.size = h := ⟨_, rfl⟩
        have hwh : w.heap.size < h := by rw [← hh]; exact hx2.lt
        have hal := (Below.refl h wb).alloc (by rw [hh]; exact Nat.le_refl _) (.cells (bv z32).toArray 25)
        have hy3 := Arr.new wb (l := z32) rfl
        rw [hh] at hy3
        have HY3 := Lib.hid hy3
        have HY4 := Lib.hid (hy3.row (r := Y) hYl)
        have hb4 := below_setRow hal (Nat.le_refl h) (bv Y).toArray
        have HX4 := Lib.hid (hx2.below hb4 hwh)
        have HB4 := Lib.hid (hb2.trans (hb4.mono (by omega)))
        clear HX1 HB1 hx2 hb2 hbb hal hy3 hb4 HBY
        go_upto_region 18 with (first | (refine wl_allocA (by rfl) (by rfl) h hh ?_; go_simp) | (refine wl_storeA (.tmp 12) (.tmp 61) HY3.out (by rfl) (by rfl) (by rfl) (by rfl) hYl ?_; go_simp))
        clear HY3
        generalize (wb.alloc (.cells (bv z32).toArray 25)).setRow h (bv Y).toArray = wc at *
        by_cases hYZ : Y = z32
        · have HDE := Lib.hid (decide_eq_true hYZ)
          have HYZ := Lib.hid hYZ
          clear hYZ
          have HRS := Lib.hid (HX4.out.row (r := z32) rfl)
          have HBS := Lib.hid (below_setRow HB4.out (Nat.le_refl w.heap.size) (bv z32).toArray)
          go_wp2_with (first | (refine wl_loadA (.tmp 12) HY4.out (by rfl) (by rfl) (by rfl) ?_; go_simp) | (refine wl_zeroA (by rfl) (by rfl) ?_; go_simp) | (refine wl_eqA (.tmp 62) (.tmp 63) hYl (show z32.length = 32 from rfl) (by rfl) (by rfl) (by rfl) (by rfl) ?_; rw [HDE.out]; go_simp) | (refine wl_storeA (.tmp 4) (.tmp 65) HX4.out (by rfl) (by rfl) (by rfl) (by rfl) (show z32.length = 32 from rfl) ?_; generalize wc.setRow w.heap.size (bv z32).toArray = wd at *; go_simp; go_wp2_with fail; (try simp only [Exit.inBlock, Exit.then]); refine bodyPost_ret (v := .tuple #[arr z32, .int .i64 5]) (results_arr rfl _ _ w.heap.size _ _ rfl rfl HRS.out) rfl ?_; exact ⟨by rw [← HYY.out, multV, if_pos HYZ.out], HBS.out⟩))
        · have HDE := Lib.hid (decide_eq_false hYZ)
          have HYZ := Lib.hid hYZ
          clear hYZ
          have HRS := Lib.hid (HX4.out.row (r := Y) hYl)
          have HBS := Lib.hid (below_setRow HB4.out (Nat.le_refl w.heap.size) (bv Y).toArray)
          go_wp2_with (first | (refine wl_loadA (.tmp 12) HY4.out (by rfl) (by rfl) (by rfl) ?_; go_simp) | (refine wl_zeroA (by rfl) (by rfl) ?_; go_simp) | (refine wl_eqA (.tmp 62) (.tmp 63) hYl (show z32.length = 32 from rfl) (by rfl) (by rfl) (by rfl) (by rfl) ?_; rw [HDE.out]; go_simp) | (refine wl_storeA (.tmp 4) (.tmp 66) HX4.out (by rfl) (by rfl) (by rfl) (by rfl) hYl ?_; generalize wc.setRow w.heap.size (bv Y).toArray = wd at *; go_simp; go_wp2_with fail; (try simp only [Exit.inBlock, Exit.then]); refine bodyPost_ret (v := .tuple #[arr Y, .int .i64 0]) (results_arr rfl _ _ w.heap.size _ _ rfl rfl HRS.out) rfl ?_; exact ⟨by rw [← HYY.out, multV, if_neg HYZ.out], HBS.out⟩))
      | n + 1, hm, hl =>
        rw [show (((n + 1 : Nat) : Int) - 1) = (n : Int) by omega]
        have hq8 : n / 8 < 32 := by omega
        have hc := hq.cell hq8
        rw [show bt L (n / 8) = ((L.getD (n / 8) 0).toNat : Int) from rfl] at hc
        have hbit := le_bit L n (by omega)
        have hb256 : (L.getD (n / 8) 0).toNat < 256 := UInt8.toNat_lt _
        generalize (L.getD (n / 8) 0).toNat = b at hc hbit hb256
        have hand : bits .and .u8 ((b : Int) / 2 ^ (n % 8)) 1 = (((le L).testBit n).toNat : Int) := by
          have hlt : b / 2 ^ (n % 8) < 256 := Nat.lt_of_le_of_lt (Nat.div_le_self _ _) hb256
          have e : (b : Int) / 2 ^ (n % 8) = ((b / 2 ^ (n % 8) : Nat) : Int) := by simp
          have h := u8_and_nat (b / 2 ^ (n % 8)) 1 hlt (by decide)
          rw [e]
          rw [show ((1 : Nat) : Int) = 1 from rfl] at h
          rw [h, Nat.and_one_is_mod, ← hbit, Nat.toNat_testBit]
        have hst : runN X (le L) (255 - n) = bstpN X ((le L).testBit n) (runN X (le L) (255 - (n + 1))) := by
          rw [show 255 - n = (255 - (n + 1)) + 1 by omega, runN, show 254 - (255 - (n + 1)) = n by omega]
        have HST := Lib.hid hst
        have HF := Lib.hid (runN_F hXF (le L) (255 - (n + 1)))
        have HAND := Lib.hid hand
        clear hst hand hbit
        obtain ⟨S, hS⟩ : ∃ S, runN X (le L) (255 - (n + 1)) = S := ⟨_, rfl⟩
        rw [hS] at hl HST HF
        have HL := Lib.hid hl
        have HX := Lib.hid hx
        have HQ := Lib.hid hq
        have HB := Lib.hid hbr
        clear hl hx hq hbr HL9 HX9 HQ9 HB9 hS
        generalize (le L).testBit n = t at *
        cases t
        · have HA0 := Lib.hid (show bits .and .u8 ((b : Int) / 2 ^ (n % 8)) 1 = 0 from HAND.out)
          have HS0 := Lib.hid (show runN X (le L) (255 - n) = stpN X S from HST.out)
          clear HAND HST
          go_upto_region 12 with fail
          rw [HA0.out, show ((0 : Int) == 1) = false from rfl]
          clear HA0 hc hb256
          go_wp2_with fail
          refine (step_S g X S wr hXF HF.out HL.out).mono ?_
          rintro e wa ⟨rfl, hla, hga⟩
          have hxa : Arr wa w.heap.size z32 := ⟨HX.out.1, (hga.block w.heap.size HX.out.lt (by intro h; injection h with h; omega)).trans HX.out.2⟩
          have hqa : Arr wa q L := ⟨HQ.out.1, (hga.block q HQ.out.lt (by intro h; injection h with h; omega)).trans HQ.out.2⟩
          have hba := HB.out.grown hga HB.out.size (by intro k hk; injection hk with hk; omega)
          have HLa := Lib.hid hla
          have HXa := Lib.hid hxa
          have HQa := Lib.hid hqa
          have HBa := Lib.hid hba
          clear hla hxa hqa hba hga HL HX HQ HB
          go_wp2_with fail
          exact ⟨⟨n, by omega, by go_num, by rw [HS0.out]; exact HLa.out, HXa.out, HQa.out, HBa.out⟩, by simp [intOf]⟩
        · have HA0 := Lib.hid (show bits .and .u8 ((b : Int) / 2 ^ (n % 8)) 1 = 1 from HAND.out)
          have HS0 := Lib.hid (show runN X (le L) (255 - n) = (stpN X S.sw).sw from HST.out)
          clear HAND HST
          go_upto_region 12 with fail
          rw [HA0.out, show ((1 : Int) == 1) = true from rfl]
          clear HA0 hc hb256
          go_wp2_with fail
          refine (exchange_S g X S wr HL.out).mono ?_
          rintro e wa ⟨rfl, hla, hga⟩
          have hxa : Arr wa w.heap.size z32 := ⟨HX.out.1, (hga.block w.heap.size HX.out.lt (by intro h; injection h with h; omega)).trans HX.out.2⟩
          have hqa : Arr wa q L := ⟨HQ.out.1, (hga.block q HQ.out.lt (by intro h; injection h with h; omega)).trans HQ.out.2⟩
          have hba := HB.out.grown hga HB.out.size (by intro k hk; injection hk with hk; omega)
          have HLa := Lib.hid hla
          have HXa := Lib.hid hxa
          have HQa := Lib.hid hqa
          have HBa := Lib.hid hba
          clear hla hxa hqa hba hga HL HX HQ HB
          go_wp2_with fail
          refine (step_S g X S.sw wa hXF HF.out.sw HLa.out).mono ?_
          rintro e wb ⟨rfl, hlb, hgb⟩
          have hxb : Arr wb w.heap.size z32 := ⟨HXa.out.1, (hgb.block w.heap.size HXa.out.lt (by intro h; injection h with h; omega)).trans HXa.out.2⟩
          have hqb : Arr wb q L := ⟨HQa.out.1, (hgb.block q HQa.out.lt (by intro h; injection h with h; omega)).trans HQa.out.2⟩
          have hbb := HBa.out.grown hgb HBa.out.size (by intro k hk; injection hk with hk; omega)
          have HLb := Lib.hid hlb
          have HXb := Lib.hid hxb
          have HQb := Lib.hid hqb
          have HBb := Lib.hid hbb
          clear hlb hxb hqb hbb hgb HLa HXa HQa HBa
          go_wp2_with fail
          refine (exchange_S g X (stpN X S.sw) wb HLb.out).mono ?_
          rintro e wc ⟨rfl, hlc, hgc⟩
          have hxc : Arr wc w.heap.size z32 := ⟨HXb.out.1, (hgc.block w.heap.size HXb.out.lt (by intro h; injection h with h; omega)).trans HXb.out.2⟩
          have hqc : Arr wc q L := ⟨HQb.out.1, (hgc.block q HQb.out.lt (by intro h; injection h with h; omega)).trans HQb.out.2⟩
          have hbc := HBb.out.grown hgc HBb.out.size (by intro k hk; injection hk with hk; omega)
          have HLc := Lib.hid hlc
          have HXc := Lib.hid hxc
          have HQc := Lib.hid hqc
          have HBc := Lib.hid hbc
          clear hlc hxc hqc hbc hgc HLb HXb HQb HBb
          go_wp2_with fail
          exact ⟨⟨n, by omega, by go_num, by rw [HS0.out]; exact HLc.out, HXc.out, HQc.out, HBc.out⟩, by simp [intOf]⟩
end Go.Proofs.Ytgpjidlomhkpeaa
