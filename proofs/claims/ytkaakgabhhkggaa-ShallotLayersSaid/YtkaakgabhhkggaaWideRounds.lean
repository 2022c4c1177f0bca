/-
  Contracts of wide.fitsBlock, fits, Rounds, Seal and Open.
-/
import Derived.Test.YtkaakgabhhkggaaWideTurn
namespace Go.Proofs.Ytkaakgabhhkggaa
open Go Go.RowKit Go.Sh

def wideNames : List ByteArray := [⟨#[119, 105, 100, 101, 49]⟩, ⟨#[119, 105, 100, 101, 50]⟩, ⟨#[119, 105, 100, 101, 51]⟩, ⟨#[119, 105, 100, 101, 52]⟩]
/-- the key of round z -/
def wkey (key : List UInt8) (z : Int) : List UInt8 := keyOf key (wideNames.getD (z - 1).toNat ⟨#[]⟩)
theorem length_wkey (key : List UInt8) (z : Int) : (wkey key z).length = 32 := length_expB _ _
def roundsF (key : List UInt8) (zs : List Int) (l : List UInt8) : List UInt8 := zs.foldl (fun l z => turnF (wkey key z) z l) l
theorem length_roundsF (key : List UInt8) (zs : List Int) (l : List UInt8) : (roundsF key zs l).length = l.length := by
  unfold roundsF
  induction zs generalizing l with
  | nil => rfl
  | cons z zs ih => rw [List.foldl_cons, ih, length_turnF]
theorem roundsF_succ (key : List UInt8) (zs : List Int) (l : List UInt8) (k : Nat) (hk : k < zs.length) : roundsF key (zs.take (k + 1)) l = turnF (wkey key (it zs k)) (it zs k) (roundsF key (zs.take k) l) := by
  unfold roundsF it
  rw [List.take_add_one, List.getElem?_eq_getElem hk, List.foldl_append, List.getD_eq_getElem?_getD, List.getElem?_eq_getElem hk]
  rfl
theorem seal_open (key l : List UInt8) (hl : 32 ≤ l.length) : roundsF key [4, 3, 2, 1] (roundsF key [1, 2, 3, 4] l) = l := by
  unfold roundsF
  simp only [List.foldl_cons, List.foldl_nil]
  have e : ∀ z l', 32 ≤ l'.length → turnF (wkey key z) z (turnF (wkey key z) z l') = l' := fun z l' h => turnF_turnF _ _ _ h
  rw [e, e, e, e] <;> (try simp only [length_turnF]) <;> exact hl
theorem own_opened {w : World} {base e g n c : Nat} {l : List UInt8} (h : w.ownsRow base e 1 (.slice (some ⟨g, 0, none⟩) n c) n (bv l)) : ∃ post, w.heap[g]? = some (.cells (bv l ++ post).toArray e (0, 0)) ∧ post.length + n = c ∧ base ≤ g ∧ c ≤ maxLen ∧ l.length = n := by
  have hl : l.length = n := by have := h.1; rw [length_bv] at this; omega
  rcases h.2 with ⟨h, _⟩ | ⟨g', cap, cur, hv, hb, hh, hn, hm, hs, ht⟩
  · cases h
  · injection hv with hv h1 h2
    injection hv with hv
    injection hv with hv
    subst hv h2
    refine ⟨cur.toList.drop n, ?_, ?_, hb, hm, hl⟩
    · rw [← ht, Nat.mul_one, List.take_append_drop]
      exact hh
    · rw [List.length_drop, Array.length_toList, hs]
      omega
theorem own_closed {w : World} {base e g n c : Nat} {l : List UInt8} {post : List Value} (hh : w.heap[g]? = some (.cells (bv l ++ post).toArray e (0, 0))) (hp : post.length + n = c) (hb : base ≤ g) (hc : c ≤ maxLen) (hl : l.length = n) : w.ownsRow base e 1 (.slice (some ⟨g, 0, none⟩) n c) n (bv l) := by
  refine ⟨by rw [length_bv, hl, Nat.mul_one], .inr ⟨g, c, _, rfl, hb, hh, by omega, hc, ?_, ?_⟩⟩
  · rw [List.size_toArray, List.length_append, length_bv, hl]
    omega
  · rw [Nat.mul_one, List.take_left' (by rw [length_bv, hl])]
set_option maxRecDepth 100000 in
theorem fitsBlock_any (A : Option Addr) (m c : Nat) (w : World) (h1 : 32 ≤ m) (h2 : m ≤ 4096) :
    Calls Try.prog 54 #[.slice A m c] w (fun e w' => e = .returned (.bool true) ∧ w' = w) := by
  have e1 : decide ((m : Int) ≥ 32) = true := by rw [decide_eq_true_eq]; omega
  have e2 : decide ((m : Int) ≤ 4096) = true := by rw [decide_eq_true_eq]; omega
  go_enter Try.func54, Try.ntmps54
  go_wp2_with fail
  go_ret
  exact ⟨rfl, rfl⟩
set_option maxRecDepth 100000 in
theorem fits_any (A : Option Addr) (c : Nat) (A' : Option Addr) (m c' : Nat) (w : World) (h1 : 32 ≤ m) (h2 : m ≤ 4096) :
    Calls Try.prog 52 #[.slice A 32 c, .slice A' m c'] w (fun e w' => e = .returned (.bool true) ∧ w' = w) := by
  go_enter Try.func52, Try.ntmps52
  go_wp2_with fail
  refine (fitsBlock_any _ _ _ w h1 h2).mono ?_
  rintro e w1 ⟨rfl, rfl⟩
  go_wp2_with fail
  go_ret
  exact ⟨rfl, rfl⟩
theorem names_lit (w : World) (cs : List Value) (h : cs = wideNames.map Value.string) (g : Nat) (hg : w.heap.size = g) : Reads (w.alloc (.cells cs.toArray 9)) (g + 1) 1 (some ⟨g, 0, none⟩) 4 (wideNames.map Value.string) := by
  subst h
  exact Reads.lit w _ _ 4 1 rfl g hg
set_option maxRecDepth 100000 in
theorem keys_part (key : List UInt8) (z : Int) (h1 : 1 ≤ z) (h4 : z ≤ 4) : ∀ j v, (bv (wkey key z))[j]? = some v → (bv (keysF key wideNames))[(z - 1).toNat * 32 + j]? = some v := by
  have hl : ∀ s, (keyOf key s).length = 32 := fun s => length_expB _ _
  obtain rfl | rfl | rfl | rfl : z = 1 ∨ z = 2 ∨ z = 3 ∨ z = 4 := by omega
  all_goals
    intro j v hv
    have hj : j < 32 := by have := (List.getElem?_eq_some_iff.1 hv).1; rwa [length_bv, length_wkey] at this
    unfold keysF wideNames
    simp only [List.map_cons, List.map_nil, List.flatten_cons, List.flatten_nil, bv_append]
    unfold wkey wideNames at hv
    simp at hv ⊢
    first
      | (rw [List.getElem?_append_left (by rw [length_bv, hl]; omega)]; exact hv)
      | (rw [List.getElem?_append_right (by rw [length_bv, hl]; omega), length_bv, hl]
         first
           | (rw [List.getElem?_append_left (by rw [length_bv, hl]; omega)]; exact (by rw [show 32 + j - 32 = j by omega]; exact hv))
           | (rw [List.getElem?_append_right (by rw [length_bv, hl]; omega), length_bv, hl]
              first
                | (rw [List.getElem?_append_left (by rw [length_bv, hl]; omega)]; exact (by rw [show 64 + j - 32 - 32 = j by omega]; exact hv))
                | (rw [List.getElem?_append_right (by rw [length_bv, hl]; omega), length_bv, hl]; exact (by rw [show 96 + j - 32 - 32 - 32 = j by omega]; simpa [bv] using hv))))

set_option maxRecDepth 100000 in
set_option maxHeartbeats 2000000 in
theorem Rounds_any (A : Option Addr) (c : Nat) (key : List UInt8) (A' : Option Addr) (m c' : Nat) (l : List UInt8) (A2 : Option Addr) (q c2 : Nat) (zs : List Int) (w : World) (B B' B2 : Nat)
    (hk : RB w B A 32 key) (hB : B ≤ w.heap.size) (hc : 32 ≤ c) (hr : RB w B' A' m l) (hB' : B' ≤ w.heap.size) (hc' : m ≤ c') (h32 : 32 ≤ m) (h4 : m ≤ 4096) (hz : RI w B2 A2 q zs) (hB2 : B2 ≤ w.heap.size) (hq : q ≤ 1000) (hzr : ∀ z ∈ zs, 1 ≤ z ∧ z ≤ 4) :
    Calls Try.prog 39 #[.slice A 32 c, .slice A' m c', .slice A2 q c2] w (RetBE w (roundsF key zs l) 0) := by
  have HK := Lib.hid hk
  have HR := Lib.hid hr
  have HRL := Lib.hid hr.len
  have HZ := Lib.hid hz
  have HZL := Lib.hid hz.len
  have HZR := Lib.hid hzr
  clear hk hr hz hzr
  go_enter Try.func39, Try.ntmps39
  go_wp2_with fail
  go_loopw [9, 16] (fun _ i wr => ∃ k : Nat, k ≤ q ∧ i = .int .i64 k ∧ wr = w) (fun _ i _ => q - (intOf i).toNat)
  case atStart => exact ⟨0, Nat.zero_le _, rfl, rfl⟩
  case round =>
    obtain ⟨k, hk, rfl, rfl⟩ := hrel
    by_cases hlt : k < q
    · have hd : decide ((k : Int) < (q : Int)) = true := by rw [decide_eq_true_eq]; omega
      obtain ⟨ad, hA, hadB, hcell, -, -⟩ := HZ.out.at_ hlt
      subst hA
      obtain ⟨hz1, hz4⟩ := HZR.out _ (it_mem (zs := zs) (k := k) (by rw [HZL.out]; exact hlt))
      have e1 : decide (it zs k < 1) = false := by rw [decide_eq_false_iff_not]; omega
      have e2 : decide (it zs k > 4) = false := by rw [decide_eq_false_iff_not]; omega
      go_wp2_with fail
      exact ⟨⟨k + 1, by omega, rfl, trivial⟩, by simp only [intOf]; omega⟩
    · obtain rfl : k = q := by omega
      have hd : decide ((k : Int) < (k : Int)) = false := by rw [decide_eq_false_iff_not]; omega
      go_wp2_with fail
      refine (fits_any _ _ _ _ _ _ h32 h4).mono ?_
      rintro e w1 ⟨rfl, rfl⟩
      have hln := names_lit w1 [.string ⟨#[119, 105, 100, 101, 49]⟩, .string ⟨#[119, 105, 100, 101, 50]⟩, .string ⟨#[119, 105, 100, 101, 51]⟩, .string ⟨#[119, 105, 100, 101, 52]⟩] rfl w1.heap.size rfl
      have hb2 := (Below.refl w1.heap.size w1).alloc (Nat.le_refl _) (.cells #[.string ⟨#[119, 105, 100, 101, 49]⟩, .string ⟨#[119, 105, 100, 101, 50]⟩, .string ⟨#[119, 105, 100, 101, 51]⟩, .string ⟨#[119, 105, 100, 101, 52]⟩] 9)
      have hz2 : (w1.alloc (.cells #[.string ⟨#[119, 105, 100, 101, 49]⟩, .string ⟨#[119, 105, 100, 101, 50]⟩, .string ⟨#[119, 105, 100, 101, 51]⟩, .string ⟨#[119, 105, 100, 101, 52]⟩] 9)).heap.size = w1.heap.size + 1 := by simp
      have HLN := Lib.hid hln
      have HB2 := Lib.hid hb2
      have HK2 := Lib.hid (HK.out.below (hb2.mono hB))
      clear hln hb2
      go_wp2_with fail
      generalize w1.alloc (.cells #[.string ⟨#[119, 105, 100, 101, 49]⟩, .string ⟨#[119, 105, 100, 101, 50]⟩, .string ⟨#[119, 105, 100, 101, 51]⟩, .string ⟨#[119, 105, 100, 101, 52]⟩] 9) = w2 at *
      refine (Derive_any A 32 c key _ 4 4 wideNames w2 B (w1.heap.size + 1) HK2.out (by omega) (by decide) hc HLN.out (by omega) (by decide) (by decide) (by decide)).mono ?_
      rintro e w3 ⟨gk, rfl, hgk, hkeys, hb⟩
      have hz3 := hb.size
      have HB3 := Lib.hid (HB2.out.trans (hb.mono (by omega)))
      have HKY := Lib.hid hkeys
      have hgk3 : gk < w3.heap.size := (Array.getElem?_eq_some_iff.1 hkeys).1
      have hr4 := rbb_one (HR.out.below (HB3.out.mono hB')) hc' (show B' ≤ w3.heap.size by omega) 22
      have hb4 := (Below.refl w3.heap.size w3).alloc (Nat.le_refl _) (.cells #[.slice A' m c'] 22)
      have hz4 : (w3.alloc (.cells #[.slice A' m c'] 22)).heap.size = w3.heap.size + 1 := by simp
      have HR4 := Lib.hid hr4
      have HB4 := Lib.hid (HB3.out.trans (hb4.mono (by omega)))
      have HKY4 := Lib.hid ((hb4.block gk hgk3).trans hkeys)
      clear hb hkeys hr4 hb4 HB2 HB3 HKY HLN HK2
      go_wp2_with fail
      generalize w3.alloc (.cells #[.slice A' m c'] 22) = w4 at *
      refine (Join_any _ 1 1 [l] w4 _ HR4.out (by omega) (by decide) (by simp only [List.flatten_cons, List.flatten_nil, List.append_nil]; rw [HRL.out]; omega)).mono ?_
      rw [show ([l] : List (List UInt8)).flatten = l by simp]
      rintro e w5 ⟨g, n5, c5, rfl, hn5, hown, hb⟩
      obtain rfl : m = n5 := by rw [← hn5]; exact HRL.out.symm
      obtain ⟨post, hbg, hpl, hgb, hcm, -⟩ := own_opened hown
      have hz5 := hb.size
      have HB5 := Lib.hid (HB4.out.trans (hb.mono (by omega)))
      have HKY5 := Lib.hid ((hb.block gk (by omega)).trans HKY4.out)
      have HBG := Lib.hid hbg
      have hg5 : g < w5.heap.size := (Array.getElem?_eq_some_iff.1 hbg).1
      clear hn5 hown hb hbg HB4 HKY4 HR4
      go_wp2_with fail
      go_loopw [13, 39] (fun _ i wr => ∃ j : Nat, j ≤ k ∧ i = .int .i64 j ∧ wr.heap[g]? = some (.cells (bv (roundsF key (zs.take j) l) ++ post).toArray 5 (0, 0)) ∧ w5.grownBy wr (some g)) (fun _ i _ => k - (intOf i).toNat)
      case atStart => exact ⟨0, Nat.zero_le _, rfl, HBG.out, ⟨rfl, rfl, rfl, Nat.le_refl _, fun _ _ _ => rfl⟩⟩
      case round =>
        obtain ⟨j, hj, rfl, hbj, hgj⟩ := hrel
        have HG := Lib.hid hgj
        have HBJ := Lib.hid hbj
        clear hbj
        by_cases hlt2 : j < k
        · have hd2 : decide ((j : Int) < (k : Int)) = true := by rw [decide_eq_true_eq]; omega
          obtain ⟨ad, hA, hadB, hcell, hlo, hhi⟩ := HZ.out.at_ hlt2
          subst hA
          obtain ⟨hz1, hz4'⟩ := HZR.out _ (it_mem (zs := zs) (k := j) (by rw [HZL.out]; exact hlt2))
          have hsu := roundsF_succ key zs l j (by rw [HZL.out]; exact hlt2)
          have hcr : w5.cell? (ad.add j) = some (.int .i64 (it zs j)) := by
            rw [(HB5.out).cell (by rw [block_of_add]; omega)]
            exact hcell
          have hcr2 : wr.cell? (ad.add j) = some (.int .i64 (it zs j)) := by
            rw [hgj.cell_far _ (by rw [block_of_add]; omega) (by rw [block_of_add]; intro h; injection h with h; omega)]
            exact hcr
          have hkr : wr.heap[gk]? = some (.cells (bv (keysF key wideNames)).toArray 29 (0, 0)) := (hgj.block gk (by omega) (by intro h; injection h with h; omega)).trans HKY5.out
          have HSU := Lib.hid hsu
          have hrg : wr.rangeAt gk ((it zs j - 1).toNat * 32) (bv (wkey key (it zs j))) := fun i v hv => by
            rw [blk_cell hkr, List.getElem?_toArray]
            exact keys_part key _ hz1 hz4' i v hv
          have HRG := Lib.hid hrg
          have HI := Lib.hid (show (Try.prog.info? 29).map (·.size) = some (bv (wkey key (it zs j))).length by rw [length_bv, length_wkey]; exact info32b)
          have HWL := Lib.hid (length_wkey key (it zs j))
          have hlr : (roundsF key (zs.take j) l).length = m := by rw [length_roundsF]; exact HRL.out
          clear hsu hrg hkr hcr hcell hgj
          obtain ⟨z, hz⟩ : ∃ z, it zs j = z := ⟨_, rfl⟩
          obtain ⟨kk, hkk⟩ : ∃ kk, wkey key z = kk := ⟨_, rfl⟩
          rw [hz] at hcr2 HSU HRG HI HWL hz1 hz4'
          rw [hkk] at HSU HRG HI HWL
          clear hz hkk hlo hhi
          obtain ⟨X, hX⟩ : ∃ X, (bv kk).toArray = X := ⟨_, rfl⟩
          have HX := Lib.hid hX
          clear hX
          have hlo1 : ∀ a : Nat, ((a : Int) - 1).toNat = a - 1 := fun a => by omega
          obtain rfl | rfl | rfl | rfl : z = 1 ∨ z = 2 ∨ z = 3 ∨ z = 4 := by omega
          all_goals
            as_aux_lemma =>
            go_wp2_with (refine wl_load_mid (by rfl) 29 (.tmp 47) rfl gk _ rfl (bv kk) _ HRG.out Try.underlying29 rfl HI.out ?_; rw [HX.out])
            rw [← HX.out]
            refine (turn_any g m c5 (roundsF key (zs.take j) l) post 5 kk _ wr HBJ.out hlr h32 h4 (by omega) HWL.out (by decide) (by decide)).mono ?_
            rintro e w6 ⟨rfl, hbl, hgr⟩
            rw [← HSU.out] at hbl
            have HBL6 := Lib.hid hbl
            have HG6 := Lib.hid (HG.out.trans hgr)
            clear hbl hgr HG HBJ
            go_wp2_with fail
            exact ⟨⟨j + 1, by omega, rfl, HBL6.out, HG6.out⟩, by simp only [intOf]; omega⟩
        · obtain rfl : j = k := by omega
          have hd2 : decide ((j : Int) < (j : Int)) = false := by rw [decide_eq_false_iff_not]; omega
          have HTK := Lib.hid (show zs.take j = zs from List.take_of_length_le (by rw [HZL.out]; exact Nat.le_refl _))
          clear hgj
          go_wp2_with fail
          go_ret2
          refine ⟨_, _, _, rfl, by rw [length_roundsF]; exact HRL.out, own_closed (post := post) (by rw [← HTK.out]; exact HBJ.out) hpl (by omega) hcm (by rw [length_roundsF]; exact HRL.out), HB5.out.grown HG.out (by omega) (fun j hj => by injection hj with hj; omega)⟩
end Go.Proofs.Ytkaakgabhhkggaa
