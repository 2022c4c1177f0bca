/-
  Contract of wide.turn: one round of the wide block cipher, in place.
-/
import Derived.Test.YtkaakgabhhkggaaWideMix
import Derived.Test.YtkaakgabhhkggaaChaPiece
namespace Go.Proofs.Ytkaakgabhhkggaa
open Go Go.RowKit Go.Sh

/-- round r with the key k -/
def turnF (k : List UInt8) (r : Int) (l : List UInt8) : List UInt8 :=
  if r = 2 ∨ r = 4 then mixL (l.take 32) (tagB k (l.drop 32)) ++ l.drop 32
  else l.take 32 ++ mixL (l.drop 32) (strL (mixL k (l.take 32)) 32 ((l.length - 32 : Nat) : Int))
theorem length_turnF (k : List UInt8) (r : Int) (l : List UInt8) : (turnF k r l).length = l.length := by
  unfold turnF
  split
  · rw [List.length_append, length_mixL, ← List.length_append, List.take_append_drop]
  · rw [List.length_append, length_mixL, ← List.length_append, List.take_append_drop]
theorem turnF_turnF (k : List UInt8) (r : Int) (l : List UInt8) (hl : 32 ≤ l.length) : turnF k r (turnF k r l) = l := by
  have h32 : (l.take 32).length = 32 := by rw [List.length_take]; omega
  by_cases h : r = 2 ∨ r = 4
  · have e : ∀ l', turnF k r l' = mixL (l'.take 32) (tagB k (l'.drop 32)) ++ l'.drop 32 := fun l' => by unfold turnF; rw [if_pos h]
    have h1 : ((mixL (l.take 32) (tagB k (l.drop 32)))).length = 32 := by rw [length_mixL, h32]
    rw [e l, e, List.take_left' h1, List.drop_left' h1, mixL_mixL, List.take_append_drop]
  · have e : ∀ l', turnF k r l' = l'.take 32 ++ mixL (l'.drop 32) (strL (mixL k (l'.take 32)) 32 ((l'.length - 32 : Nat) : Int)) := fun l' => by unfold turnF; rw [if_neg h]
    have h2 : (turnF k r l).length = l.length := length_turnF _ _ _
    rw [e (turnF k r l), h2, e l, List.take_left' h32, List.drop_left' h32, mixL_mixL, List.take_append_drop]
theorem rb_mid {w : World} {ty : TypeId} {g off : Nat} {pre post : List Value} {l : List UInt8} (h : w.heap[g]? = some (.cells (pre ++ bv l ++ post).toArray ty (0, 0))) (ho : pre.length = off) : RB w (g + 1) (some ⟨g, off, none⟩) l.length l := by
  refine ⟨by rw [length_bv, Nat.mul_one], .inr ⟨_, rfl, Nat.lt_succ_self _, fun j hj => ?_⟩⟩
  rw [length_bv] at hj
  rw [add_mk, blk_cell h, List.getElem?_toArray, mid_at _ _ _ _ _ ho hj, bv_at l j hj]
theorem below_grown {w w' : World} (h : Below w.heap.size w w') : w.grownBy w' none := ⟨h.os, h.tape, h.output, h.size, fun k hk _ => h.block k hk⟩
/-- the right part of the block: block[32:], also where it is empty -/
theorem right_part (g n c : Nat) (l : List UInt8) (post : List Value) (hl : l.length = n) (h32 : 32 ≤ n) (hc : n ≤ c) : ∃ off pre2 post2, (∀ W : World, (Instr.slice 22 (.slice (some ⟨g, 0, none⟩) n c) (some (.int .i64 32)) none none).run Try.prog W = .ok (.slice (some ⟨g, off, none⟩) (n - 32) (c - 32)) W) ∧ pre2.length = off ∧ ∀ x, x.length = n - 32 → bv (l.take 32 ++ x) ++ post = pre2 ++ bv x ++ post2 := by
  by_cases h : c = 32
  · obtain rfl : n = 32 := by omega
    refine ⟨0, [], bv l ++ post, fun W => ?_, rfl, fun x hx => ?_⟩
    · have e := run_sl_lo TB W (some ⟨g, 0, none⟩) 32 c .i64 32 (Nat.le_refl _)
      rw [if_pos h] at e
      exact e
    · obtain rfl := List.eq_nil_of_length_eq_zero hx
      rw [List.append_nil, List.take_of_length_le (by omega)]
      rfl
  · refine ⟨32, bv (l.take 32), post, fun W => ?_, by rw [length_bv, List.length_take]; omega, fun x hx => by rw [bv_append]⟩
    have e := run_sl_lo TB W (some ⟨g, 0, none⟩) n c .i64 32 h32
    rw [if_neg h] at e
    exact e

set_option maxRecDepth 100000 in
set_option maxHeartbeats 2000000 in
theorem turn_even (g n c : Nat) (l : List UInt8) (post : List Value) (ty : TypeId) (k : List UInt8) (r : Int) (w : World) (hb : w.heap[g]? = some (.cells (bv l ++ post).toArray ty (0, 0))) (hl : l.length = n) (h32 : 32 ≤ n) (hn : n ≤ 4096) (hc : n ≤ c) (hk : k.length = 32) (hr : r = 2 ∨ r = 4) :
    Calls Try.prog 53 #[.slice (some ⟨g, 0, none⟩) n c, .agg (bv k).toArray, .int .i64 r] w (fun e w' => e = .returned (.tuple #[]) ∧ w'.heap[g]? = some (.cells (bv (mixL (l.take 32) (tagB k (l.drop 32)) ++ l.drop 32) ++ post).toArray ty (0, 0)) ∧ w.grownBy w' (some g)) := by
  obtain ⟨off, pre2, post2, hrun2, ho, hx⟩ := right_part g n c l post hl h32 hc
  have hrun1 := fun W : World => run_sl_hi TB W (some ⟨g, 0, none⟩) n c .i64 32 (by omega)
  have hkr := RowB.new w 29 k
  have hg0 : g < w.heap.size := (Array.getElem?_eq_some_iff.1 hb).1
  have hb1 := (Below.refl w.heap.size w).alloc (Nat.le_refl _) (.cells (bv k).toArray 29)
  have hz1 : (w.alloc (.cells (bv k).toArray 29)).heap.size = w.heap.size + 1 := by simp
  have hbl1 : (w.alloc (.cells (bv k).toArray 29)).heap[g]? = some (.cells (bv l ++ post).toArray ty (0, 0)) := by rw [hb1.block g hg0]; exact hb
  have hrr := rb_mid (w := w.alloc (.cells (bv k).toArray 29)) (l := l.drop 32) (by rw [← hx _ (by rw [List.length_drop]; omega), List.take_append_drop]; exact hbl1) ho
  rw [List.length_drop, hl] at hrr
  have HKR := Lib.hid hkr
  have HB1 := Lib.hid hb1
  have HRR := Lib.hid hrr
  have HBL1 := Lib.hid hbl1
  have hks : (bv k).toArray.size = 32 := by rw [List.size_toArray, length_bv, hk]
  have HS32 := Lib.hid sto32_new
  have hz32 := zero32b
  have hz32s : (bv (zs 32)).toArray.size = 32 := rfl
  obtain ⟨X, hX⟩ : ∃ X, (bv k).toArray = X := ⟨_, rfl⟩
  rw [hX] at HKR HB1 HRR HBL1 hks hz1 ⊢
  have hXe : ¬ X = #[] := by intro h; rw [h] at hks; cases hks
  clear hX hkr hb1 hrr hbl1 hx hb
  generalize hzd : (bv (zs 32)).toArray = zd at hz32 hz32s HS32
  have hzde : ¬ zd = #[] := by intro h; rw [h] at hz32s; cases hz32s
  clear hzd
  rcases hr with rfl | rfl
  · go_enter Try.func53, Try.ntmps53
    go_wp2_with fail
    generalize w.alloc (.cells X 29) = w1 at *
    go_quiet (fail)
    have hz2 : (w1.drewN nq).heap.size = w.heap.size + 1 := hz1
    have HBL2 := Lib.hid (show (w1.drewN nq).heap[g]? = some (.cells (bv l ++ post).toArray ty (0, 0)) from HBL1.out)
    have HRR2 := Lib.hid (HRR.out.drewN nq)
    have HB2 := Lib.hid (below_drewN HB1.out nq)
    have HKR2 := Lib.hid (show RowB (w1.drewN nq) 29 w.heap.size k from HKR.out)
    clear HBL1 HRR HB1 HKR hz1
    generalize w1.drewN nq = w2 at *
    have hr3 := rbb_one HRR2.out (show n - 32 ≤ c - 32 by omega) (show g + 1 ≤ w2.heap.size by omega) 22
    have hb3 := (Below.refl w2.heap.size w2).alloc (Nat.le_refl _) (.cells #[.slice (some ⟨g, off, none⟩) (n - 32) (c - 32)] 22)
    have hz3 : (w2.alloc (.cells #[.slice (some ⟨g, off, none⟩) (n - 32) (c - 32)] 22)).heap.size = w.heap.size + 2 := by simp [hz2]
    rw [hz2] at hr3
    have HR3 := Lib.hid hr3
    have HB3 := Lib.hid (HB2.out.trans (hb3.mono (by omega)))
    have HKR3 := Lib.hid (HKR2.out.below hb3 (by omega))
    have HBL3 := Lib.hid ((hb3.block g (by omega)).trans HBL2.out)
    clear hr3 hb3 HRR2 HB2 HKR2 HBL2
    go_wp2_with fail
    generalize w2.alloc (.cells #[.slice (some ⟨g, off, none⟩) (n - 32) (c - 32)] 22) = w3 at *
    have hrk := rb_row HKR3.out
    rw [hk] at hrk
    refine (Tag_any _ 32 32 k _ 1 1 [l.drop 32] w3 _ _ hrk (by omega) (by decide) (by decide) HR3.out (by omega) (by simp only [List.flatten_cons, List.flatten_nil, List.append_nil, List.length_drop]; omega) (by decide)).mono ?_
    rw [show ([l.drop 32] : List (List UInt8)).flatten = l.drop 32 by simp]
    clear hrk
    rintro e w4 ⟨rfl, hb⟩
    have hz4 := hb.size
    have hn5 := RowB.new w4 29 (tagB k (l.drop 32))
    have htl : (tagB k (l.drop 32)).length = 32 := length_tagB _ _
    have hxs : (bv (tagB k (l.drop 32))).toArray.size = 32 := by rw [List.size_toArray, length_bv, htl]
    obtain ⟨Z, hZ⟩ : ∃ Z, (bv (tagB k (l.drop 32))).toArray = Z := ⟨_, rfl⟩
    have hst := HS32.out w4 (tagB k (l.drop 32)) htl Z hZ
    rw [hZ] at hn5 hxs ⊢
    have hZe : ¬ Z = #[] := by intro h; rw [h] at hxs; cases hxs
    have hb5 := (Below.refl w4.heap.size w4).alloc (Nat.le_refl _) (.cells Z 29)
    have hz5 : (w4.alloc (.cells Z 29)).heap.size = w4.heap.size + 1 := by simp
    have HB5 := Lib.hid ((HB3.out.trans (hb.mono (by omega))).trans (hb5.mono (by omega)))
    have HR5 := Lib.hid hn5
    have HBL5 := Lib.hid ((hb5.block g (by omega)).trans ((hb.block g (by omega)).trans HBL3.out))
    clear hb hb5 hn5 HB3 HKR3 HBL3 HR3
    clear hZ
    go_wp2_with fail
    generalize w4.alloc (.cells Z 29) = w5 at *
    have hr5 := rb_row HR5.out
    rw [htl] at hr5
    have hl32 : (l.take 32).length = 32 := by rw [List.length_take]; omega
    refine (mix_any g 0 32 c [] (bv (l.drop 32) ++ post) (l.take 32) ty _ 32 32 (tagB k (l.drop 32)) w5 _ (by rw [List.nil_append, ← List.append_assoc, ← bv_append, List.take_append_drop]; exact HBL5.out) rfl hl32 hr5 (by omega) (by rintro ad had; injection had with had; subst had; show w4.heap.size ≠ g; omega) (Nat.le_refl _) (by decide)).mono ?_
    rintro e w6 ⟨rfl, hbl, hgr, hsz⟩
    rw [List.nil_append, ← List.append_assoc, ← bv_append] at hbl
    have HBL6 := Lib.hid hbl
    have HG6 := Lib.hid (((below_grown HB5.out).but (some g)).trans hgr)
    clear hbl hgr hr5 HBL5 HB5 HR5
    go_wp2_with fail
    refine bodyPost_ret (results_none rfl _ _ _) rfl ?_
    exact ⟨rfl, HBL6.out, HG6.out⟩
  · go_enter Try.func53, Try.ntmps53
    go_wp2_with fail
    generalize w.alloc (.cells X 29) = w1 at *
    go_quiet (fail)
    have hz2 : (w1.drewN nq).heap.size = w.heap.size + 1 := hz1
    have HBL2 := Lib.hid (show (w1.drewN nq).heap[g]? = some (.cells (bv l ++ post).toArray ty (0, 0)) from HBL1.out)
    have HRR2 := Lib.hid (HRR.out.drewN nq)
    have HB2 := Lib.hid (below_drewN HB1.out nq)
    have HKR2 := Lib.hid (show RowB (w1.drewN nq) 29 w.heap.size k from HKR.out)
    clear HBL1 HRR HB1 HKR hz1
    generalize w1.drewN nq = w2 at *
    have hr3 := rbb_one HRR2.out (show n - 32 ≤ c - 32 by omega) (show g + 1 ≤ w2.heap.size by omega) 22
    have hb3 := (Below.refl w2.heap.size w2).alloc (Nat.le_refl _) (.cells #[.slice (some ⟨g, off, none⟩) (n - 32) (c - 32)] 22)
    have hz3 : (w2.alloc (.cells #[.slice (some ⟨g, off, none⟩) (n - 32) (c - 32)] 22)).heap.size = w.heap.size + 2 := by simp [hz2]
    rw [hz2] at hr3
    have HR3 := Lib.hid hr3
    have HB3 := Lib.hid (HB2.out.trans (hb3.mono (by omega)))
    have HKR3 := Lib.hid (HKR2.out.below hb3 (by omega))
    have HBL3 := Lib.hid ((hb3.block g (by omega)).trans HBL2.out)
    clear hr3 hb3 HRR2 HB2 HKR2 HBL2
    go_wp2_with fail
    generalize w2.alloc (.cells #[.slice (some ⟨g, off, none⟩) (n - 32) (c - 32)] 22) = w3 at *
    have hrk := rb_row HKR3.out
    rw [hk] at hrk
    refine (Tag_any _ 32 32 k _ 1 1 [l.drop 32] w3 _ _ hrk (by omega) (by decide) (by decide) HR3.out (by omega) (by simp only [List.flatten_cons, List.flatten_nil, List.append_nil, List.length_drop]; omega) (by decide)).mono ?_
    rw [show ([l.drop 32] : List (List UInt8)).flatten = l.drop 32 by simp]
    clear hrk
    rintro e w4 ⟨rfl, hb⟩
    have hz4 := hb.size
    have hn5 := RowB.new w4 29 (tagB k (l.drop 32))
    have htl : (tagB k (l.drop 32)).length = 32 := length_tagB _ _
    have hxs : (bv (tagB k (l.drop 32))).toArray.size = 32 := by rw [List.size_toArray, length_bv, htl]
    obtain ⟨Z, hZ⟩ : ∃ Z, (bv (tagB k (l.drop 32))).toArray = Z := ⟨_, rfl⟩
    have hst := HS32.out w4 (tagB k (l.drop 32)) htl Z hZ
    rw [hZ] at hn5 hxs ⊢
    have hZe : ¬ Z = #[] := by intro h; rw [h] at hxs; cases hxs
    have hb5 := (Below.refl w4.heap.size w4).alloc (Nat.le_refl _) (.cells Z 29)
    have hz5 : (w4.alloc (.cells Z 29)).heap.size = w4.heap.size + 1 := by simp
    have HB5 := Lib.hid ((HB3.out.trans (hb.mono (by omega))).trans (hb5.mono (by omega)))
    have HR5 := Lib.hid hn5
    have HBL5 := Lib.hid ((hb5.block g (by omega)).trans ((hb.block g (by omega)).trans HBL3.out))
    clear hb hb5 hn5 HB3 HKR3 HBL3 HR3
    clear hZ
    go_wp2_with fail
    generalize w4.alloc (.cells Z 29) = w5 at *
    have hr5 := rb_row HR5.out
    rw [htl] at hr5
    have hl32 : (l.take 32).length = 32 := by rw [List.length_take]; omega
    refine (mix_any g 0 32 c [] (bv (l.drop 32) ++ post) (l.take 32) ty _ 32 32 (tagB k (l.drop 32)) w5 _ (by rw [List.nil_append, ← List.append_assoc, ← bv_append, List.take_append_drop]; exact HBL5.out) rfl hl32 hr5 (by omega) (by rintro ad had; injection had with had; subst had; show w4.heap.size ≠ g; omega) (Nat.le_refl _) (by decide)).mono ?_
    rintro e w6 ⟨rfl, hbl, hgr, hsz⟩
    rw [List.nil_append, ← List.append_assoc, ← bv_append] at hbl
    have HBL6 := Lib.hid hbl
    have HG6 := Lib.hid (((below_grown HB5.out).but (some g)).trans hgr)
    clear hbl hgr hr5 HBL5 HB5 HR5
    go_wp2_with fail
    refine bodyPost_ret (results_none rfl _ _ _) rfl ?_
    exact ⟨rfl, HBL6.out, HG6.out⟩
set_option maxRecDepth 100000 in
set_option maxHeartbeats 2000000 in
theorem turn_odd (g n c : Nat) (l : List UInt8) (post : List Value) (ty : TypeId) (k : List UInt8) (r : Int) (w : World) (hb : w.heap[g]? = some (.cells (bv l ++ post).toArray ty (0, 0))) (hl : l.length = n) (h32 : 32 ≤ n) (hn : n ≤ 4096) (hc : n ≤ c) (hk : k.length = 32) (hr : r = 1 ∨ r = 3) :
    Calls Try.prog 53 #[.slice (some ⟨g, 0, none⟩) n c, .agg (bv k).toArray, .int .i64 r] w (fun e w' => e = .returned (.tuple #[]) ∧ w'.heap[g]? = some (.cells (bv (l.take 32 ++ mixL (l.drop 32) (strL (mixL k (l.take 32)) 32 ((n - 32 : Nat) : Int))) ++ post).toArray ty (0, 0)) ∧ w.grownBy w' (some g)) := by
  obtain ⟨off, pre2, post2, hrun2, ho, hx⟩ := right_part g n c l post hl h32 hc
  have hrun1 := fun W : World => run_sl_hi TB W (some ⟨g, 0, none⟩) n c .i64 32 (by omega)
  have hkr := RowB.new w 29 k
  have hg0 : g < w.heap.size := (Array.getElem?_eq_some_iff.1 hb).1
  have hb1 := (Below.refl w.heap.size w).alloc (Nat.le_refl _) (.cells (bv k).toArray 29)
  have hz1 : (w.alloc (.cells (bv k).toArray 29)).heap.size = w.heap.size + 1 := by simp
  have hbl1 : (w.alloc (.cells (bv k).toArray 29)).heap[g]? = some (.cells (bv l ++ post).toArray ty (0, 0)) := by rw [hb1.block g hg0]; exact hb
  have hrr := rb_mid (w := w.alloc (.cells (bv k).toArray 29)) (l := l.drop 32) (by rw [← hx _ (by rw [List.length_drop]; omega), List.take_append_drop]; exact hbl1) ho
  rw [List.length_drop, hl] at hrr
  have HKR := Lib.hid hkr
  have HB1 := Lib.hid hb1
  have HRR := Lib.hid hrr
  have HBL1 := Lib.hid hbl1
  have hks : (bv k).toArray.size = 32 := by rw [List.size_toArray, length_bv, hk]
  have HS32 := Lib.hid sto32_new
  have hz32 := zero32b
  have hz32s : (bv (zs 32)).toArray.size = 32 := rfl
  obtain ⟨X, hX⟩ : ∃ X, (bv k).toArray = X := ⟨_, rfl⟩
  rw [hX] at HKR HB1 HRR HBL1 hks hz1 ⊢
  have hXe : ¬ X = #[] := by intro h; rw [h] at hks; cases hks
  have HX := Lib.hid hx
  clear hX hkr hb1 hrr hbl1 hx hb
  generalize hzd : (bv (zs 32)).toArray = zd at hz32 hz32s HS32
  have hzde : ¬ zd = #[] := by intro h; rw [h] at hz32s; cases hz32s
  clear hzd
  rcases hr with rfl | rfl
  · go_enter Try.func53, Try.ntmps53
    go_wp2_with fail
    generalize w.alloc (.cells X 29) = w1 at *
    go_quiet (fail)
    have hz2 : (w1.drewN nq).heap.size = w.heap.size + 1 := hz1
    have HBL2 := Lib.hid (show (w1.drewN nq).heap[g]? = some (.cells (bv l ++ post).toArray ty (0, 0)) from HBL1.out)
    have HRR2 := Lib.hid (HRR.out.drewN nq)
    have HB2 := Lib.hid (below_drewN HB1.out nq)
    have HKR2 := Lib.hid (show RowB (w1.drewN nq) 29 w.heap.size k from HKR.out)
    clear HBL1 HRR HB1 HKR hz1
    generalize w1.drewN nq = w2 at *
    go_wp2_with fail
    have hl32 : (l.take 32).length = 32 := by rw [List.length_take]; omega
    have hrl := rb_mid (w := w2) (pre := []) (off := 0) (l := l.take 32) (post := bv (l.drop 32) ++ post) (ty := ty) (g := g) (by rw [List.nil_append, ← List.append_assoc, ← bv_append, List.take_append_drop]; exact HBL2.out) rfl
    rw [hl32] at hrl
    refine (mix_any w.heap.size 0 32 32 [] [] k 29 _ 32 c (l.take 32) w2 _ (by rw [List.nil_append, List.append_nil]; exact HKR2.out) rfl hk hrl (by omega) (by rintro ad had; injection had with had; subst had; show g ≠ w.heap.size; omega) (Nat.le_refl _) (by decide)).mono ?_
    rintro e w3 ⟨rfl, hbl, hgr, hsz⟩
    rw [List.nil_append, List.append_nil] at hbl
    have hkk : (mixL k (l.take 32)).length = 32 := by rw [length_mixL, hk]
    obtain ⟨kk, hkke⟩ : ∃ kk, mixL k (l.take 32) = kk := ⟨_, rfl⟩
    rw [hkke] at hbl hkk
    have HKK := Lib.hid hkke
    clear hkke
    have hrk := rb_row (show RowB w3 29 w.heap.size kk from hbl)
    rw [hkk] at hrk
    have HRK := Lib.hid hrk
    have HB3 := Lib.hid (HB2.out.grown hgr (by omega) (fun j hj => by injection hj with hj; omega))
    have HBL3 := Lib.hid ((hgr.block g (by omega) (by intro h; injection h with h; omega)).trans HBL2.out)
    clear hbl hgr hrl hrk HRR2 HB2 HKR2 HBL2
    go_wp2_with fail
    refine (Stream_any _ 32 32 kk ((n - 32 : Nat) : Int) w3 _ HRK.out (by omega)).mono ?_
    have hse : strE 32 ((n - 32 : Nat) : Int) = 0 := by unfold strE; rw [if_neg (by omega), if_pos rfl]
    have hsl : (strL kk 32 ((n - 32 : Nat) : Int)).length = n - 32 := by unfold strL; rw [if_pos hse, length_sbytes]; omega
    rw [hse]
    obtain ⟨ss, hsse⟩ : ∃ ss, strL kk 32 ((n - 32 : Nat) : Int) = ss := ⟨_, rfl⟩
    rw [hsse] at hsl ⊢
    have HSS := Lib.hid hsse
    clear hsse
    rintro e w4 ⟨A4, n4, c4, rfl, hn4, hown, hb⟩
    obtain rfl : n - 32 = n4 := by omega
    have hz4 := hb.size
    have HB4 := Lib.hid (HB3.out.trans (hb.mono (by omega)))
    have HR4 := Lib.hid (RB.of_own hown)
    have HBL4 := Lib.hid ((hb.block g (by omega)).trans HBL3.out)
    have hfar : ∀ ad, A4 = some ad → ad.block ≠ g := by
      intro ad had
      subst had
      have := (hown.lt ad.block rfl).1
      omega
    have HFAR := Lib.hid hfar
    clear hown hb hfar HB3 HBL3 HRK hn4
    go_wp2_with fail
    refine (mix_any g off (n - 32) (c - 32) pre2 post2 (l.drop 32) ty A4 (n - 32) c4 ss w4 _ (by rw [← HX.out _ (by rw [List.length_drop]; omega), List.take_append_drop]; exact HBL4.out) ho (by rw [List.length_drop]; omega) HR4.out (Nat.le_refl _) HFAR.out (Nat.le_refl _) (by omega)).mono ?_
    rintro e w6 ⟨rfl, hbl, hgr, hsz⟩
    rw [← HX.out _ (by rw [length_mixL, List.length_drop]; omega)] at hbl
    have HBL6 := Lib.hid hbl
    have HG6 := Lib.hid (((below_grown HB4.out).but (some g)).trans hgr)
    clear hbl hgr HBL4 HB4 HR4 HX
    go_wp2_with fail
    go_end0
    exact ⟨rfl, by rw [HKK.out, HSS.out]; exact HBL6.out, HG6.out⟩
  · go_enter Try.func53, Try.ntmps53
    go_wp2_with fail
    generalize w.alloc (.cells X 29) = w1 at *
    go_quiet (fail)
    have hz2 : (w1.drewN nq).heap.size = w.heap.size + 1 := hz1
    have HBL2 := Lib.hid (show (w1.drewN nq).heap[g]? = some (.cells (bv l ++ post).toArray ty (0, 0)) from HBL1.out)
    have HRR2 := Lib.hid (HRR.out.drewN nq)
    have HB2 := Lib.hid (below_drewN HB1.out nq)
    have HKR2 := Lib.hid (show RowB (w1.drewN nq) 29 w.heap.size k from HKR.out)
    clear HBL1 HRR HB1 HKR hz1
    generalize w1.drewN nq = w2 at *
    go_wp2_with fail
    have hl32 : (l.take 32).length = 32 := by rw [List.length_take]; omega
    have hrl := rb_mid (w := w2) (pre := []) (off := 0) (l := l.take 32) (post := bv (l.drop 32) ++ post) (ty := ty) (g := g) (by rw [List.nil_append, ← List.append_assoc, ← bv_append, List.take_append_drop]; exact HBL2.out) rfl
    rw [hl32] at hrl
    refine (mix_any w.heap.size 0 32 32 [] [] k 29 _ 32 c (l.take 32) w2 _ (by rw [List.nil_append, List.append_nil]; exact HKR2.out) rfl hk hrl (by omega) (by rintro ad had; injection had with had; subst had; show g ≠ w.heap.size; omega) (Nat.le_refl _) (by decide)).mono ?_
    rintro e w3 ⟨rfl, hbl, hgr, hsz⟩
    rw [List.nil_append, List.append_nil] at hbl
    have hkk : (mixL k (l.take 32)).length = 32 := by rw [length_mixL, hk]
    obtain ⟨kk, hkke⟩ : ∃ kk, mixL k (l.take 32) = kk := ⟨_, rfl⟩
    rw [hkke] at hbl hkk
    have HKK := Lib.hid hkke
    clear hkke
    have hrk := rb_row (show RowB w3 29 w.heap.size kk from hbl)
    rw [hkk] at hrk
    have HRK := Lib.hid hrk
    have HB3 := Lib.hid (HB2.out.grown hgr (by omega) (fun j hj => by injection hj with hj; omega))
    have HBL3 := Lib.hid ((hgr.block g (by omega) (by intro h; injection h with h; omega)).trans HBL2.out)
    clear hbl hgr hrl hrk HRR2 HB2 HKR2 HBL2
    go_wp2_with fail
    refine (Stream_any _ 32 32 kk ((n - 32 : Nat) : Int) w3 _ HRK.out (by omega)).mono ?_
    have hse : strE 32 ((n - 32 : Nat) : Int) = 0 := by unfold strE; rw [if_neg (by omega), if_pos rfl]
    have hsl : (strL kk 32 ((n - 32 : Nat) : Int)).length = n - 32 := by unfold strL; rw [if_pos hse, length_sbytes]; omega
    rw [hse]
    obtain ⟨ss, hsse⟩ : ∃ ss, strL kk 32 ((n - 32 : Nat) : Int) = ss := ⟨_, rfl⟩
    rw [hsse] at hsl ⊢
    have HSS := Lib.hid hsse
    clear hsse
    rintro e w4 ⟨A4, n4, c4, rfl, hn4, hown, hb⟩
    obtain rfl : n - 32 = n4 := by omega
    have hz4 := hb.size
    have HB4 := Lib.hid (HB3.out.trans (hb.mono (by omega)))
    have HR4 := Lib.hid (RB.of_own hown)
    have HBL4 := Lib.hid ((hb.block g (by omega)).trans HBL3.out)
    have hfar : ∀ ad, A4 = some ad → ad.block ≠ g := by
      intro ad had
      subst had
      have := (hown.lt ad.block rfl).1
      omega
    have HFAR := Lib.hid hfar
    clear hown hb hfar HB3 HBL3 HRK hn4
    go_wp2_with fail
    refine (mix_any g off (n - 32) (c - 32) pre2 post2 (l.drop 32) ty A4 (n - 32) c4 ss w4 _ (by rw [← HX.out _ (by rw [List.length_drop]; omega), List.take_append_drop]; exact HBL4.out) ho (by rw [List.length_drop]; omega) HR4.out (Nat.le_refl _) HFAR.out (Nat.le_refl _) (by omega)).mono ?_
    rintro e w6 ⟨rfl, hbl, hgr, hsz⟩
    rw [← HX.out _ (by rw [length_mixL, List.length_drop]; omega)] at hbl
    have HBL6 := Lib.hid hbl
    have HG6 := Lib.hid (((below_grown HB4.out).but (some g)).trans hgr)
    clear hbl hgr HBL4 HB4 HR4 HX
    go_wp2_with fail
    go_end0
    exact ⟨rfl, by rw [HKK.out, HSS.out]; exact HBL6.out, HG6.out⟩

theorem turn_any (g n c : Nat) (l : List UInt8) (post : List Value) (ty : TypeId) (k : List UInt8) (r : Int) (w : World) (hb : w.heap[g]? = some (.cells (bv l ++ post).toArray ty (0, 0))) (hl : l.length = n) (h32 : 32 ≤ n) (hn : n ≤ 4096) (hc : n ≤ c) (hk : k.length = 32) (h1 : 1 ≤ r) (h4 : r ≤ 4) :
    Calls Try.prog 53 #[.slice (some ⟨g, 0, none⟩) n c, .agg (bv k).toArray, .int .i64 r] w (fun e w' => e = .returned (.tuple #[]) ∧ w'.heap[g]? = some (.cells (bv (turnF k r l) ++ post).toArray ty (0, 0)) ∧ w.grownBy w' (some g)) := by
  unfold turnF
  by_cases h : r = 2 ∨ r = 4
  · rw [if_pos h]
    exact turn_even g n c l post ty k r w hb hl h32 hn hc hk h
  · rw [if_neg h, hl]
    exact turn_odd g n c l post ty k r w hb hl h32 hn hc hk (by omega)
end Go.Proofs.Ytkaakgabhhkggaa
