/-
  Contract of frame.Frame: the frame of a part in form, in new memory, or the error's number. Conditions: the fields fit their types; the sizes that slices can have.
-/
import Derived.Test.YtobmopjfbgkfbaaParts
import Derived.Test.YtobmopjfbgkfbaaPut
import Derived.StillTailTactics
namespace Go.Proofs.Ytobmopjfbgkfbaa
open Go Go.RowKit Go.Sh

/-- copy into a piece of an owned row that has room for all of the source -/
theorem wl_copyAt {P : Program} {t t' e : TypeId} {z : Value} {bytes : Nat} (T : STy P t e z 1 bytes) {w : World} {ops : Array Oper} {rest : List Oper} {o : Oper} {a : Act} {Q : Exit → Act → World → Prop} (hgd : o.guard = none) (d s : Operand)
    (ho : o.op = .call { callee := .builtin .copy, args := #[d, s], argTypes := #[t, t'] })
    (g off dl dc : Nat) (hd : a.eval d = .slice (some ⟨g, off, none⟩) dl dc) (A : Option Addr) (m c : Nat) (hs : a.eval s = .slice A m c)
    (base n : Nat) (xs : List Value) (hown : w.ownsRow base e 1 (.slice (some ⟨g, 0, none⟩) n n) n xs) (hoff : off + m ≤ n) (hdl : m ≤ dl) (B : Nat) (ys : List Value) (hr : Reads w B 1 A m ys) (h1 : ∀ u ∈ ys, u.oneCell' = true)
    (h : ∀ w', w'.ownsRow base e 1 (.slice (some ⟨g, 0, none⟩) n n) n (xs.take off ++ (ys ++ xs.drop (off + m))) → w.grownBy w' (some g) → wpList P ops Q rest (a.put o.dst (.int .i64 (m : Nat))) w') :
    wpList P ops Q (o :: rest) a w := by
  obtain ⟨i, hi, hz, hsize, hby⟩ := info_parts T.info
  have hsz : (P.info? e).map (·.size) = some 1 := by rw [hi]; simp [hsize]
  have hys : ys.length = m := by have := hr.1; omega
  have hxs : xs.length = n := by have := hown.1; omega
  by_cases h0 : m = 0
  · subst h0
    have hy0 : ys = [] := List.eq_nil_of_length_eq_zero hys
    subst hy0
    refine wpList_copy_nothing hgd d s t t' ho e T.und hsz (some ⟨g, off, none⟩) A dl dc 0 c hd hs (by simp) ?_
    exact h w (by rw [List.nil_append, Nat.add_zero, List.take_append_drop]; exact hown) (World.grownBy.refl w _)
  · rcases hown.2 with ⟨hv, _⟩ | ⟨g', cap, cur, hv, hbg, hg, hnc, hcm, hcs, htake⟩
    · cases hv
    · injection hv with ha _ hcap
      injection ha with ha
      injection ha with ha
      subst ha hcap
      obtain ⟨ad, rfl, _, hc⟩ := hr.some_ (by omega)
      have hmin : Nat.min m dl = m := Nat.min_eq_left hdl
      have hcl : cur.toList.length = n := by rw [Array.length_toList]; omega
      have hcx : cur.toList = xs := by rw [← htake, Nat.mul_one, List.take_of_length_le (by omega)]
      refine wpList_copy_own hgd d s t t' ho e T.und hsz g off dl dc ad m c hd hs cur e hg ys (by rw [hys, hmin]) (fun j v hv => hc.get hv) (by rw [hys]; omega) h1 ?_
      have hgi : goInt ys.length = .int .i64 (m : Nat) := by rw [hys]; rfl
      rw [hgi]
      refine h _ ?_ ?_
      · refine ⟨?_, .inr ⟨g, n, _, rfl, hbg, setRow_heap w g cur _ e _ hg, Nat.le_refl _, hcm, ?_, ?_⟩⟩
        · simp only [List.length_append, List.length_take, List.length_drop, hys, hxs]; omega
        · simp only [List.size_toArray, List.length_append, List.length_take, List.length_drop, hys, hcl]; omega
        · rw [hcx, hys, Nat.mul_one, List.take_of_length_le]
          simp only [List.length_append, List.length_take, List.length_drop, hys, hxs]; omega
      · exact ⟨rfl, rfl, rfl, by simp [World.setRow], fun k _ hk => setRow_other w g k _ (fun e => hk (by simp [e]))⟩

/-- a part's block -/
def PBlk (w : World) (b : Nat) (p : Pt) (s : Value) : Prop := w.heap[b]? = some (.cells (pcell p s).toArray 56 (0, 0))
section
variable {w w' : World} {b : Nat} {p : Pt} {s : Value}
theorem PBlk.lt (h : PBlk w b p s) : b < w.heap.size := (Array.getElem?_eq_some_iff.1 h).1
theorem PBlk.c0 (h : PBlk w b p s) : w.cell? ⟨b, 0, none⟩ = some (.int .u8 p.k) := blk_cell h
theorem PBlk.c1 (h : PBlk w b p s) : w.cell? ⟨b, 1, none⟩ = some (.int .u64 p.id) := blk_cell h
theorem PBlk.c2 (h : PBlk w b p s) : w.cell? ⟨b, 2, none⟩ = some (.int .i64 p.ix) := blk_cell h
theorem PBlk.c3 (h : PBlk w b p s) : w.cell? ⟨b, 3, none⟩ = some (.int .i64 p.ct) := blk_cell h
theorem PBlk.c4 (h : PBlk w b p s) : w.cell? ⟨b, 4, none⟩ = some s := blk_cell h
theorem PBlk.below {B : Nat} (h : PBlk w b p s) (hb : Below B w w') (hl : b < B) : PBlk w' b p s := (hb.block b hl).trans h
theorem PBlk.grown {row : Option Nat} (h : PBlk w b p s) (hg : w.grownBy w' row) (hne : some b ≠ row) : PBlk w' b p s := (hg.block b h.lt hne).trans h
theorem PBlk.new (w : World) (p : Pt) (s : Value) : PBlk (w.alloc (.cells (pcell p s).toArray 56)) w.heap.size p s := heap_alloc_new w _
end

/-- a number as a byte -/
def b8 (z : Int) : UInt8 := UInt8.ofNat z.toNat
theorem b8_nat {z : Int} (h : 0 ≤ z ∧ z < 256) : ((b8 z).toNat : Int) = z := by
  unfold b8
  simp
  omega
theorem bv_set8 (l : List UInt8) (i : Nat) {z : Int} (h : 0 ≤ z ∧ z < 256) : (bv l).set i (.int .u8 z) = bv (l.set i (b8 z)) := by
  rw [← bv_store, b8_nat h]
theorem bv_splice (l y : List UInt8) (i j : Nat) : (bv l).take i ++ (bv y ++ (bv l).drop j) = bv (l.take i ++ (y ++ l.drop j)) := by simp [bv]
theorem splice (a x y b : List UInt8) (h : x.length = y.length) : (a ++ (x ++ b)).take a.length ++ (y ++ (a ++ (x ++ b)).drop (a.length + y.length)) = a ++ (y ++ b) := by
  rw [List.take_left' rfl, ← h, List.drop_append, List.drop_eq_nil_of_le (by omega), List.nil_append, show a.length + x.length - a.length = x.length by omega, List.drop_left' rfl]
/-- the frame of a part -/
def frmH (p : Pt) : List UInt8 := zs 16 ++ [b8 p.k, b8 p.ix, b8 p.ct, 0]
def frmL (p : Pt) : List UInt8 := frmH p ++ (putB 2 8 p.id.toNat ++ (putB 2 2 p.d.length ++ (p.d ++ zs (450 - p.d.length))))
theorem length_frmH (p : Pt) : (frmH p).length = 20 := by simp [frmH, zs]
theorem length_frmL (p : Pt) (h : p.d.length ≤ 450) : (frmL p).length = 480 := by
  simp only [frmL, List.length_append, length_frmH, length_putB, length_zs]
  omega
theorem zs_add (a b : Nat) : zs (a + b) = zs a ++ zs b := by simp [zs, List.replicate_append_replicate]
theorem zs_head (p : Pt) : ((((zs 480).set 16 (b8 p.k)).set 17 (b8 p.ix)).set 18 (b8 p.ct)) = frmH p ++ zs 460 := by
  have e : zs 480 = zs 16 ++ (0 :: 0 :: 0 :: 0 :: zs 460) := by
    rw [show (480 : Nat) = 16 + (4 + 460) from rfl, zs_add, zs_add]
    rfl
  rw [e, List.set_append_right _ _ (by simp [zs]), List.set_append_right _ _ (by simp [zs]), List.set_append_right _ _ (by simp [zs])]
  simp only [length_zs]
  simp [frmH]
theorem frm_id (p : Pt) : (frmH p ++ zs 460).take 20 ++ (putB 2 8 p.id.toNat ++ (frmH p ++ zs 460).drop 28) = frmH p ++ (putB 2 8 p.id.toNat ++ zs 452) := by
  have h := splice (frmH p) (zs 8) (putB 2 8 p.id.toNat) (zs 452) (by rw [length_zs, length_putB])
  rw [length_frmH, length_putB, ← zs_add] at h
  exact h
theorem frm_len (p : Pt) : (frmH p ++ (putB 2 8 p.id.toNat ++ zs 452)).take 28 ++ (putB 2 2 p.d.length ++ (frmH p ++ (putB 2 8 p.id.toNat ++ zs 452)).drop 30) = frmH p ++ (putB 2 8 p.id.toNat ++ (putB 2 2 p.d.length ++ zs 450)) := by
  have h := splice (frmH p ++ putB 2 8 p.id.toNat) (zs 2) (putB 2 2 p.d.length) (zs 450) (by rw [length_zs, length_putB])
  rw [List.length_append, length_frmH, length_putB, length_putB, ← zs_add, List.append_assoc, List.append_assoc] at h
  exact h
theorem frm_data (p : Pt) (hd : p.d.length ≤ 450) : (frmH p ++ (putB 2 8 p.id.toNat ++ (putB 2 2 p.d.length ++ zs 450))).take 30 ++ (p.d ++ (frmH p ++ (putB 2 8 p.id.toNat ++ (putB 2 2 p.d.length ++ zs 450))).drop (30 + p.d.length)) = frmL p := by
  have h := splice (frmH p ++ (putB 2 8 p.id.toNat ++ putB 2 2 p.d.length)) (zs p.d.length) p.d (zs (450 - p.d.length)) (by rw [length_zs])
  rw [List.length_append, List.length_append, length_frmH, length_putB, length_putB, ← zs_add, show p.d.length + (450 - p.d.length) = 450 by omega] at h
  simp only [List.append_assoc] at h
  exact h
theorem put_in {d v : Nat} (h1 : 1 ≤ d) (h2 : d ≤ 8) (h : v < 256 ^ d) : putE 2 (d : Int) v = 0 ∧ putL 2 (d : Int) v = putB 2 d v := by
  have h0 : okW 2 (d : Int) = true := by simp [okW]; omega
  have h3 : putE 2 (d : Int) v = 0 := by
    unfold putE
    rw [if_neg (by rw [h0]; decide), if_neg (by rw [Int.toNat_natCast]; omega)]
  refine ⟨h3, ?_⟩
  unfold putL
  rw [if_pos h3, Int.toNat_natCast]
def frmE (p : Pt) : List UInt8 := if p.chk = 0 then frmL p else []
theorem chk_ok {p : Pt} (h : p.chk = 0) : (1 ≤ p.k ∧ p.k ≤ 3) ∧ p.d.length ≤ 450 ∧ (1 ≤ p.ct ∧ p.ct ≤ 16) ∧ 0 ≤ p.ix ∧ p.ix < p.ct := by
  unfold Pt.chk chk at h
  split at h
  · omega
  · split at h
    · omega
    · split at h
      · omega
      · omega
theorem chk_cases (p : Pt) : p.chk = 0 ∨ p.chk = 1 ∨ p.chk = 2 ∨ p.chk = 3 := by
  unfold Pt.chk chk
  split
  · simp
  · split
    · simp
    · split
      · simp
      · split
        · simp
        · split <;> simp

set_option maxHeartbeats 2000000 in
set_option maxRecDepth 100000 in
theorem Frame_any (p : Pt) (A : Option Addr) (n c : Nat) (w : World) (B : Nat) (hp : p.OK) (hr : RB w B A n p.d) (hB : B ≤ w.heap.size) (hn : n ≤ 140737488355328) :
    Calls Try.prog 25 #[.agg #[.int .u8 p.k, .int .u64 p.id, .int .i64 p.ix, .int .i64 p.ct, .slice A n c]] w (RetBE w (frmE p) p.chk) := by
  have HL := Lib.hid hr.len
  have HR := Lib.hid hr
  have HCK := Lib.hid (show ∀ w, Calls Try.prog 62 #[.agg #[.int .u8 p.k, .int .u64 p.id, .int .i64 p.ix, .int .i64 p.ct, .slice A n c]] w (fun e w' => e = .returned (.int .i64 p.chk) ∧ Below w.heap.size w w') from fun w => by
    rw [show p.chk = chk p.k p.id p.ix p.ct n by unfold Pt.chk; rw [hr.len]]
    exact PCheck_any p.k p.id p.ix p.ct A n c w hp.k hn)
  have hpb := Lib.hid (PBlk.new w p (.slice A n c))
  have hb0 := Lib.hid ((Below.refl w.heap.size w).alloc (Nat.le_refl _) (.cells (pcell p (.slice A n c)).toArray 56))
  have HCC := Lib.hid (chk_cases p)
  have HOK := Lib.hid (fun h : p.chk = 0 => chk_ok h)
  have HFE := Lib.hid (show frmE p = if p.chk = 0 then frmL p else [] from rfl)
  have HPO := Lib.hid hp
  clear hr hp
  generalize frmE p = fe at *
  generalize p.chk = ck at *
  go_enter Try.func25, Try.ntmps25
  go_wp2_with fail
  refine (HCK.out _).mono ?_
  rintro e w1 ⟨rfl, hb⟩
  have hsz0 : w.heap.size < (w.alloc (.cells (pcell p (.slice A n c)).toArray 56)).heap.size := by simp
  have HP1 := Lib.hid (hpb.out.below hb hsz0)
  have HB1 := Lib.hid (hb0.out.trans (hb.mono (Nat.le_of_lt hsz0)))
  have hz1 : w.heap.size < w1.heap.size := HP1.out.lt
  clear hb hpb hb0 hsz0
  by_cases h0 : ck = 0
  · subst h0
    obtain ⟨⟨k1, k2⟩, d1, ⟨c1, c2⟩, x1, x2⟩ := HOK.out rfl
    have HFE' := Lib.hid (show fe = frmL p by rw [HFE.out, if_pos rfl])
    obtain ⟨⟨q1, q2⟩, ⟨i1, i2⟩, _, _⟩ := HPO.out
    obtain ⟨v, hvt⟩ : ∃ v, p.id.toNat = v := ⟨_, rfl⟩
    have hv64 : v < 18446744073709551616 := by omega
    have HID := Lib.hid hvt
    have HV := Lib.hid (show p.id = (v : Int) by omega)
    have hc1 := HP1.out.c1
    rw [HV.out] at hc1
    have HPE := Lib.hid (put_in (d := 8) (v := v) (by decide) (by decide) (by omega))
    have HPE2 := Lib.hid (put_in (d := 2) (v := n) (by decide) (by decide) (by have := HL.out; omega))
    clear HCC HOK HFE hvt
    go_wp2_with fail
    have hput := Put_any 2 (8 : Nat) v w1 hv64
    rw [HPE.out.1, HPE.out.2] at hput
    refine hput.mono ?_
    clear hput
    rintro e w2 ⟨A2, n2, c2, rfl, hl2, ho2, hb2⟩
    have HO2 := Lib.hid ho2
    have HN2 := Lib.hid (show n2 = 8 by rw [← hl2, length_putB])
    have HP2 := Lib.hid (HP1.out.below hb2 HP1.out.lt)
    have HB2 := Lib.hid (HB1.out.trans (hb2.mono (Nat.le_of_lt hz1)))
    have hz2 := hb2.size
    have hc4 := HP2.out.c4
    obtain rfl := HN2.out
    clear ho2 hb2 hl2 HP1 HB1 hc1
    go_wp2_with fail
    have hput := Put_any 2 (2 : Nat) n w2 (by omega)
    rw [HPE2.out.1, HPE2.out.2] at hput
    refine hput.mono ?_
    clear hput
    rintro e w3 ⟨A3, n3, c3, rfl, hl3, ho3, hb3⟩
    have HN3 := Lib.hid (show n3 = 2 by rw [← hl3, length_putB])
    obtain rfl := HN3.out
    have HR2 := Lib.hid (RB.of_own (own_later HO2.out hb3))
    have HR3 := Lib.hid (RB.of_own ho3)
    have HP3 := Lib.hid (HP2.out.below hb3 HP2.out.lt)
    have HB3 := Lib.hid (HB2.out.trans (hb3.mono (by omega)))
    have hz3 := hb3.size
    clear ho3 hb3 hl3 HP2 HB2 HO2 HN2 HN3 hc4
    go_wp2_with (at_make; refine wl_makeB TB rfl (.const (.int .i64 480)) (.const (.int .i64 480)) rfl .i64 .i64 _ _ rfl rfl 480 rfl rfl (by omega) w3.heap.size (Nat.le_refl _) ?m5)
    case m5 =>
      intro w4 hown hg hlt
      have hbb : Below w3.heap.size w3 w4 := (Below.refl _ _).grown hg (Nat.le_refl _) (by simp)
      have HO4 := Lib.hid hown
      have HR24 := Lib.hid (HR2.out.below hbb)
      have HR34 := Lib.hid (HR3.out.below hbb)
      have HP4 := Lib.hid (HP3.out.below hbb HP3.out.lt)
      have HB4 := Lib.hid (HB3.out.trans (hbb.mono (by omega)))
      have hbw : w.heap.size < w3.heap.size := HP3.out.lt
      clear hown hg hbb HR2 HR3 HP3 HB3
      generalize hgg : w3.heap.size = g at *
      generalize hbg : w.heap.size = b at *
      have HBG := Lib.hid hbg
      clear hgg hbg
      have q0 := HP4.out.c0
      have q2' := HP4.out.c2
      have q3 := HP4.out.c3
      obtain ⟨u16, e16⟩ : ∃ u, (bv (zs 480))[16]? = some u := ⟨_, List.getElem?_eq_getElem (by rw [length_bv, length_zs]; omega)⟩
      obtain ⟨u17, e17⟩ : ∃ u, (bv (zs 480))[17]? = some u := ⟨_, List.getElem?_eq_getElem (by rw [length_bv, length_zs]; omega)⟩
      obtain ⟨u18, e18⟩ : ∃ u, (bv (zs 480))[18]? = some u := ⟨_, List.getElem?_eq_getElem (by rw [length_bv, length_zs]; omega)⟩
      have r16 := (HO4.out.cellAt 16 (by omega)).trans e16
      have r17 := (HO4.out.cellAt 17 (by omega)).trans e17
      have r18 := (HO4.out.cellAt 18 (by omega)).trans e18
      have f16 := HO4.out.frozenAt 16
      have f17 := HO4.out.frozenAt 17
      have f18 := HO4.out.frozenAt 18
      have hne : ¬ b = g := by omega
      have hne' : ¬ g = b := by omega
      clear e16 e17 e18
      have hi16 : p.ix < 256 := by omega
      have hc16 : p.ct < 256 := by omega
      have hw5 : (((w4.setCell ⟨g, 16, none⟩ (.int .u8 p.k)).setCell ⟨g, 17, none⟩ (.int .u8 p.ix)).setCell ⟨g, 18, none⟩ (.int .u8 p.ct)).ownsRow g 5 1 (.slice (some ⟨g, 0, none⟩) 480 480) 480 (bv (frmH p ++ zs 460)) := by
        have h := (((HO4.out.stored 16 (.int .u8 p.k)).1.stored 17 (.int .u8 p.ix)).1.stored 18 (.int .u8 p.ct)).1
        rw [bv_set8 _ 16 ⟨q1, q2⟩, bv_set8 _ 17 ⟨x1, hi16⟩, bv_set8 _ 18 ⟨by omega, hc16⟩] at h
        rw [zs_head] at h
        exact h
      have HW5 := Lib.hid hw5
      have hg5 : w4.grownBy (((w4.setCell ⟨g, 16, none⟩ (.int .u8 p.k)).setCell ⟨g, 17, none⟩ (.int .u8 p.ix)).setCell ⟨g, 18, none⟩ (.int .u8 p.ct)) (some g) := (grown_setCell w4 g 16 _).trans ((grown_setCell _ g 17 _).trans (grown_setCell _ g 18 _))
      have HP5 := Lib.hid (HP4.out.grown hg5 (by simp; omega))
      have HB5 := Lib.hid (HB4.out.grown hg5 (by omega) (fun q hq => by injection hq with hq; omega))
      have HR25 := Lib.hid (HR24.out.below ((Below.refl g w4).grown hg5 (by omega) (fun q hq => by injection hq with hq; omega)))
      have HR35 := Lib.hid (HR34.out.below ((Below.refl g w4).grown hg5 (by omega) (fun q hq => by injection hq with hq; omega)))
      have hs5 : g < (((w4.setCell ⟨g, 16, none⟩ (.int .u8 p.k)).setCell ⟨g, 17, none⟩ (.int .u8 p.ix)).setCell ⟨g, 18, none⟩ (.int .u8 p.ct)).heap.size := (HW5.out.lt g rfl).2
      clear hw5 hg5 HO4 HR24 HR34 HP4 HB4
      go_wp2_with (with_reducible refine wl_copyAt TB rfl (.tmp 50) (.tmp 51) rfl g 20 460 460 rfl A2 8 c2 rfl g 480 _ HW5.out (by omega) (by omega) g (bv (putB 2 8 v)) ?k0 (bv_one _) ?k1)
      case k0 => exact HR25.out
      case k1 =>
        intro w6 hown hg6
        rw [← HID.out, bv_splice, frm_id] at hown
        have HW6 := Lib.hid hown
        have HP6 := Lib.hid (HP5.out.grown hg6 (by simp; omega))
        have hsz6 := hg6.size
        have HB6 := Lib.hid (HB5.out.grown hg6 (by omega) (fun q hq => by injection hq with hq; omega))
        have HR36 := Lib.hid (HR35.out.below ((Below.refl g _).grown hg6 (by omega) (fun q hq => by injection hq with hq; omega)))
        clear hown hg6 HW5 HP5 HB5 HR25 HR35
        go_wp2_with (with_reducible refine wl_copyAt TB rfl (.tmp 54) (.tmp 55) rfl g 28 452 452 rfl A3 2 c3 rfl g 480 _ HW6.out (by omega) (by omega) g (bv (putB 2 2 n)) ?k2 (bv_one _) ?k3)
        case k2 => exact HR36.out
        case k3 =>
          intro w7 hown hg7
          rw [bv_splice, show putB 2 2 n = putB 2 2 p.d.length by rw [HL.out], frm_len] at hown
          have HW7d := Lib.hid (show w7.drew.ownsRow g 5 1 (.slice (some ⟨g, 0, none⟩) 480 480) 480 (bv (frmH p ++ (putB 2 8 p.id.toNat ++ (putB 2 2 p.d.length ++ zs 450)))) from hown)
          have hs30 : 30 + n ≤ 480 := by have := HL.out; omega
          have hs31 : n ≤ 450 := by omega
          have HP7 := Lib.hid (HP6.out.grown hg7 (by simp; omega))
          have hsz7 := hg7.size
          have HB7 := Lib.hid (HB6.out.grown hg7 (by omega) (fun q hq => by injection hq with hq; omega))
          have hc7 := HP7.out.c4
          have hb7 : b ≤ w7.drew.heap.size := by show b ≤ w7.heap.size; omega
          clear hown hg7 HW6 HP6 HB6 HR36
          go_wp2_with fail
          go_still_tail 4, (by kernel_rfl)
          change wpList _ _ _ _ _ (World.drew _)
          go_wp2_with (with_reducible refine wl_copyAt TB rfl (.tmp 58) (.tmp 60) rfl g 30 450 450 rfl A n c rfl g 480 _ HW7d.out hs30 hs31 B (bv p.d) ?k4 (bv_one _) ?k5)
          case k4 => exact (HR.out.below (HB7.out.mono (by omega))).drew
          case k5 =>
            intro w8 hown hg8
            rw [bv_splice, ← HL.out, frm_data p d1] at hown
            have HW8 := Lib.hid hown
            have HB8 := Lib.hid (HB7.out.drew.grown hg8 hb7 (fun q hq => by injection hq with hq; omega))
            clear hown hg8
            go_wp2_with fail
            go_ret2
            rw [HFE'.out]
            have hbg3 : b ≤ g := by omega
            refine ⟨_, 480, 480, rfl, length_frmL p d1, ?_, ?_⟩
            · rw [HBG.out]
              exact own_base HW8.out hbg3
            · rw [HBG.out]
              exact HB8.out
  · have HFE' := Lib.hid (show fe = [] by rw [HFE.out, if_neg h0])
    rcases HCC.out with rfl | rfl | rfl | rfl
    · exact absurd rfl h0
    · clear h0
      go_wp2_with fail
      go_ret2
      rw [HFE'.out]
      exact ⟨none, 0, 0, rfl, rfl, World.ownsRow_nil _ _ _ _, HB1.out⟩
    · clear h0
      go_wp2_with fail
      go_ret2
      rw [HFE'.out]
      exact ⟨none, 0, 0, rfl, rfl, World.ownsRow_nil _ _ _ _, HB1.out⟩
    · clear h0
      go_wp2_with fail
      go_ret2
      rw [HFE'.out]
      exact ⟨none, 0, 0, rfl, rfl, World.ownsRow_nil _ _ _ _, HB1.out⟩
end Go.Proofs.Ytobmopjfbgkfbaa
