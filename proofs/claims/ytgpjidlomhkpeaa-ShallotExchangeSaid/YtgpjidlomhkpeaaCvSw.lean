/-
  Contracts of shallottop.few, shallottop.place and shallottop.swapped. Conditions: the sizes that slices can have.
-/
import Derived.Test.YtgpjidlomhkpeaaCvLo
import Derived.Test.YtgpjidlomhkpeaaLists
import Derived.Test.YtgpjidlomhkpeaaUntil
namespace Go.Proofs.Ytgpjidlomhkpeaa
open Go Go.RowKit Go.Sh

/-- a swap's two places -/
def plA (k : Nat) (z : Int) (m : Nat) : Nat := if z < 0 then 0 else k % m
def plB (z : Int) (m : Nat) : Nat := if z < 0 then 0 else z.toNat % m
theorem plA_lt (k : Nat) (z : Int) {m : Nat} (h : 0 < m) : plA k z m < m := by
  unfold plA
  split
  · exact h
  · exact Nat.mod_lt _ h
theorem plB_lt (z : Int) {m : Nat} (h : 0 < m) : plB z m < m := by
  unfold plB
  split
  · exact h
  · exact Nat.mod_lt _ h
set_option maxRecDepth 100000 in
theorem place_any (k : Nat) (z : Int) (m : Nat) (w : World) (hm : 0 < m) (hk : k ≤ 140737488355328) (hm2 : m ≤ 140737488355328) :
    Calls Try.prog 12 #[.int .i64 (k : Int), .int .i64 z, .int .i64 (m : Int)] w (fun e w' => e = .returned (.tuple #[.int .i64 (plA k z m : Nat), .int .i64 (plB z m : Nat)]) ∧ ∃ d, w' = w.drewN d) := by
  by_cases hz : z < 0
  · have e1 : plA k z m = 0 := by rw [plA, if_pos hz]
    have e2 : plB z m = 0 := by rw [plB, if_pos hz]
    rw [e1, e2]
    go_enter Try.func12, Try.ntmps12
    go_wp2_with fail
    go_ret2
    exact ⟨rfl, 0, rfl⟩
  · have hra : (k : Int).tmod (m : Int) = ((plA k z m : Nat) : Int) := by rw [plA, if_neg hz, Int.tmod_eq_emod_of_nonneg (by omega)]; simp
    have hrb : z.tmod (m : Int) = ((plB z m : Nat) : Int) := by rw [plB, if_neg hz, Int.tmod_eq_emod_of_nonneg (by omega), Int.natCast_emod, Int.toNat_of_nonneg (by omega)]
    have hm0 : ¬ (m : Int) = 0 := by omega
    have ha := plA_lt k z hm
    have hb := plB_lt z hm
    generalize plA k z m = a at *
    generalize plB z m = b at *
    have wa : IntKind.i64.wrap (a : Int) = (a : Int) := by rw [IntKind.wrap_i64]; omega
    have wb : IntKind.i64.wrap (b : Int) = (b : Int) := by rw [IntKind.wrap_i64]; omega
    go_enter Try.func12, Try.ntmps12
    go_wp2_with fail
    go_quiet (fail)
    go_wp2_with fail
    go_ret2
    exact ⟨rfl, nq, rfl⟩


/-- a row of the call's own of slices that read as the lists ls below block B -/
def OHB (w : World) (B base : Nat) (v : Value) (m : Nat) (ls : List (List UInt8)) : Prop :=
  ls.length = m ∧ ∃ vs, w.ownsRow base 22 1 v m vs ∧ ∀ i, i < m → ∃ Ai ni ci, vs[i]? = some (.slice Ai ni ci) ∧ ni ≤ ci ∧ RB w B Ai ni (lat ls i)
theorem OHB.rbb {w : World} {B base m c : Nat} {A : Option Addr} {ls : List (List UInt8)} (h : OHB w B base (.slice A m c) m ls) (hB : B ≤ w.heap.size) : RBB w w.heap.size A m ls := by
  obtain ⟨h1, vs, ho, hi⟩ := h
  refine ⟨h1, vs, Reads.of_own ho, fun i hin => ?_⟩
  obtain ⟨Ai, ni, ci, hv, hle, hr⟩ := hi i hin
  exact ⟨Ai, ni, ci, hv, hle, hr.more hB⟩
theorem OHB.later {w w' : World} {B base m : Nat} {v : Value} {ls : List (List UInt8)} (h : OHB w B base v m ls) (hb : Below w.heap.size w w') (hB : B ≤ w.heap.size) : OHB w' B base v m ls := by
  obtain ⟨h1, vs, ho, hi⟩ := h
  refine ⟨h1, vs, own_later ho hb, fun i hin => ?_⟩
  obtain ⟨Ai, ni, ci, hv, hle, hr⟩ := hi i hin
  exact ⟨Ai, ni, ci, hv, hle, hr.below (hb.mono hB)⟩
theorem slices_one {w : World} {B m : Nat} {vs : List Value} {ls : List (List UInt8)} (hl : vs.length = m) (hi : ∀ i, i < m → ∃ Ai ni ci, vs[i]? = some (.slice Ai ni ci) ∧ ni ≤ ci ∧ RB w B Ai ni (lat ls i)) : ∀ u ∈ vs, u.oneCell' = true := by
  intro u hu
  obtain ⟨i, hlt, rfl⟩ := List.getElem_of_mem hu
  obtain ⟨Ai, ni, ci, hv, _⟩ := hi i (by omega)
  rw [List.getElem?_eq_getElem hlt] at hv
  rw [Option.some.inj hv]
  rfl
set_option maxHeartbeats 1000000 in
set_option maxRecDepth 100000 in
/-- shallottop.few: the first of them, in a row of the call's own -/
theorem few_any (A : Option Addr) (m c k : Nat) (ls : List (List UInt8)) (w : World) (B : Nat) (hr : RBB w B A m ls) (hB : B ≤ w.heap.size) (hc : m ≤ c) (hk : k ≤ 1000000) (hm : m ≤ 140737488355328) :
    Calls Try.prog 5 #[.slice A m c, .int .i64 (k : Int)] w fun e w' => ∃ A' c', e = .returned (.slice A' (Nat.min k m) c') ∧ OHB w' B w.heap.size (.slice A' (Nat.min k m) c') (Nat.min k m) (ls.take k) ∧ Below w.heap.size w w' := by
  obtain ⟨hl, vs, hv, hi⟩ := hr
  have hvl : vs.length = m := by have := hv.1; omega
  by_cases hlt : k < m
  · have hmin : Nat.min k m = k := Nat.min_eq_left (by omega)
    rw [hmin]
    have hik : (k : Int) < (m : Int) := by omega
    have hsl : ∀ W, (Instr.slice 23 (.slice A m c) none (some (.int .i64 (k : Int))) none).run Try.prog W = .ok (.slice A k c) W := fun W => run_sl_hi TBB W A m c .i64 k (by omega)
    have hvt : Reads w B 1 A k (vs.take k) := by
      have h := hv.take (k := k) (by omega)
      rw [Nat.mul_one] at h
      exact h
    have hit : ∀ i, i < k → ∃ Ai ni ci, (vs.take k)[i]? = some (.slice Ai ni ci) ∧ ni ≤ ci ∧ RB w B Ai ni (lat (ls.take k) i) := fun i hin => by
      obtain ⟨Ai, ni, ci, h1, h2, h3⟩ := hi i (by omega)
      have e : lat (ls.take k) i = lat ls i := by
        rw [lat, lat, List.getD_eq_getElem?_getD, List.getD_eq_getElem?_getD, List.getElem?_take, if_pos hin]
      exact ⟨Ai, ni, ci, by rw [List.getElem?_take, if_pos hin]; exact h1, h2, by rw [e]; exact h3⟩
    have hone := slices_one (by rw [List.length_take]; omega) hit
    have hkl : (ls.take k).length = k := by rw [List.length_take]; omega
    have HT := Lib.hid hvt
    have HI := Lib.hid hit
    have HO := Lib.hid hone
    have HL := Lib.hid hkl
    clear hv hi hvl hl hvt hit hone hkl
    generalize vs.take k = vt at *
    generalize ls.take k = lt at *
    go_enter Try.func5, Try.ntmps5
    go_wp2_with (at_builtin; refine wl_app TBB rfl (.tmp 12) (.tmp 13) rfl (.slice (some ⟨w.heap.size, 0, none⟩) 0 0) rfl A k c rfl w.heap.size 0 [] ?h1 B vt ?h2 HO.out (by omega) (by omega) (by simp) ?h6)
    case h1 => exact World.ownsRow_lit w #[] 0 (Nat.le_refl _) (by simp) rfl
    case h2 => exact HT.out.alloc hB _
    case h6 =>
      intro A1 c1 w1 hown hg _
      try simp only [Nat.zero_add, List.nil_append] at hown ⊢
      have hb1 := ((Below.refl w.heap.size w).alloc (Nat.le_refl _) (.cells #[] 22)).grown hg (by simp) (by simp [Value.ownBlock])
      go_wp2_with fail
      go_ret
      refine ⟨_, _, rfl, ⟨HL.out, vt, hown, fun i hin => ?_⟩, hb1⟩
      obtain ⟨Ai, ni, ci, h1, h2, h3⟩ := HI.out i hin
      exact ⟨Ai, ni, ci, h1, h2, h3.below (hb1.mono hB)⟩
  · have hmin : Nat.min k m = m := Nat.min_eq_right (by omega)
    rw [hmin, List.take_of_length_le (by omega)]
    have hik : ¬ (k : Int) < (m : Int) := by omega
    have hone := slices_one hvl hi
    have hmb : (0 + m) * 24 ≤ 140737488355328 := by omega
    have HT := Lib.hid hv
    have HI := Lib.hid hi
    have HO := Lib.hid hone
    have HL := Lib.hid hl
    clear hv hi hvl hl hone
    go_enter Try.func5, Try.ntmps5
    go_wp2_with (at_builtin; refine wl_app TBB rfl (.tmp 12) (.tmp 13) rfl (.slice (some ⟨w.heap.size, 0, none⟩) 0 0) rfl A m c rfl w.heap.size 0 [] ?h1 B vs ?h2 HO.out hmb (by omega) (by simp) ?h6)
    case h1 => exact World.ownsRow_lit w #[] 0 (Nat.le_refl _) (by simp) rfl
    case h2 => exact HT.out.alloc hB _
    case h6 =>
      intro A1 c1 w1 hown hg _
      try simp only [Nat.zero_add, List.nil_append] at hown ⊢
      have hb1 := ((Below.refl w.heap.size w).alloc (Nat.le_refl _) (.cells #[] 22)).grown hg (by simp) (by simp [Value.ownBlock])
      go_wp2_with fail
      go_ret
      refine ⟨_, _, rfl, ⟨HL.out, vs, hown, fun i hin => ?_⟩, hb1⟩
      obtain ⟨Ai, ni, ci, h1, h2, h3⟩ := HI.out i hin
      exact ⟨Ai, ni, ci, h1, h2, h3.below (hb1.mono hB)⟩
theorem own_blkH {w : World} {base e n c g : Nat} {xs : List Value} (h : w.ownsRow base e 1 (.slice (some ⟨g, 0, none⟩) n c) n xs) :
    ∃ cur : Array Value, w.heap[g]? = some (.cells cur e (0, 0)) ∧ base ≤ g ∧ n ≤ c ∧ c ≤ maxLen ∧ cur.size = c ∧ cur.toList.take n = xs := by
  rcases h.2 with ⟨h', _⟩ | ⟨g', cap, cur, h', hb, hg, hn, hm, hs, ht⟩
  · cases h'
  · injection h' with h1 _ h2
    injection h1 with h1
    injection h1 with h1
    subst h1 h2
    rw [Nat.mul_one] at hs ht
    exact ⟨cur, hg, hb, hn, hm, hs, ht⟩
theorem own_setH {w : World} {base e n c g : Nat} {xs : List Value} (h : w.ownsRow base e 1 (.slice (some ⟨g, 0, none⟩) n c) n xs) (k : Nat) (v : Value) :
    (w.setCell ⟨g, k, none⟩ v).ownsRow base e 1 (.slice (some ⟨g, 0, none⟩) n c) n (xs.set k v) := by
  obtain ⟨cur, h1, h2, h3, h4, h5, h6⟩ := own_blkH h
  refine ⟨by rw [List.length_set]; exact h.1, .inr ⟨g, c, cur.setIfInBounds k v, rfl, h2, blk_set h1 v, h3, h4, by simp [h5], ?_⟩⟩
  rw [Nat.mul_one, Array.toList_setIfInBounds, List.take_set, h6]
theorem own_cellH {w : World} {base e n c g : Nat} {xs : List Value} (h : w.ownsRow base e 1 (.slice (some ⟨g, 0, none⟩) n c) n xs) {k : Nat} {v : Value} (hk : xs[k]? = some v) : w.cell? ⟨g, k, none⟩ = some v ∧ ∀ i, w.frozen? ⟨g, i, none⟩ = false := by
  obtain ⟨cur, h1, h2, h3, h4, h5, h6⟩ := own_blkH h
  refine ⟨?_, fun i => frozen_of_row _ _ i _ _ h1⟩
  rw [blk_cell h1, ← Array.getElem?_toList]
  rw [← h6, List.getElem?_take] at hk
  split at hk
  · exact hk
  · cases hk
theorem bl_drewN {B : Nat} {a w : World} (h : Below B a w) (k : Nat) : Below B a (w.drewN k) := ⟨h.os, h.tape, h.output, h.size, h.block⟩
set_option maxRecDepth 100000 in
theorem swap_perm {α : Type} (ls : List α) {a b : Nat} (ha : a < ls.length) (hb : b < ls.length) : ((ls.set a ls[b]).set b ls[a]).Perm ls := by
  have h := Array.swap_perm (xs := ls.toArray) (i := a) (j := b) (by simpa using ha) (by simpa using hb)
  rw [Array.perm_iff_toList_perm] at h
  simpa [Array.swap] using h
set_option maxHeartbeats 4000000 in
set_option maxRecDepth 100000 in
/-- shallottop.swapped: the same lists in another order -/
theorem swapped_any (A : Option Addr) (m c : Nat) (ls0 : List (List UInt8)) (A2 : Option Addr) (n2 c2 : Nat) (zz : List Int) (w : World) (base BL B : Nat) (ho : OHB w BL base (.slice A m c) m ls0) (hz : RI w B A2 n2 zz)
    (hbase : base ≤ w.heap.size) (hBL : BL ≤ base) (hB : B ≤ w.heap.size) (hm2 : m ≤ 16) (hn2 : n2 ≤ 140737488355328) :
    Calls Try.prog 6 #[.slice A m c, .slice A2 n2 c2] w (fun e w' => ∃ A' c' ls, e = .returned (.slice A' m c') ∧ ls.Perm ls0 ∧ OHB w' BL w.heap.size (.slice A' m c') m ls ∧ Below w.heap.size w w') := by
  obtain ⟨hl0, vs0, hv0, hi0⟩ := ho
  have hone := slices_one (by have := hv0.1; omega) hi0
  have HV0 := Lib.hid hv0
  have HI0 := Lib.hid hi0
  have HL0 := Lib.hid hl0
  have HO := Lib.hid hone
  have HZ := Lib.hid hz
  have HR0 := Lib.hid (Reads.of_own hv0)
  clear hv0 hi0 hl0 hone hz
  generalize hgw : w.heap.size = g0 at *
  have HG := Lib.hid hgw
  clear hgw
  go_enter Try.func6, Try.ntmps6
  go_wp2_with (at_builtin; refine wl_app TBB rfl (.tmp 10) (.tmp 11) rfl (.slice (some ⟨w.heap.size, 0, none⟩) 0 0) rfl A m c rfl g0 0 [] ?h1 g0 vs0 ?h2 HO.out (by omega) (by omega) ?h5 ?h6)
  case h1 => exact World.ownsRow_lit w #[] 0 (by rw [HG.out]; exact Nat.le_refl _) (by simp) rfl
  case h2 => exact HR0.out.alloc (by rw [HG.out]; exact Nat.le_refl _) _
  case h5 => simp; have := HG.out; omega
  case h6 =>
    intro A1 c1 w1 hown hg hat
    try simp only [Nat.zero_add, List.nil_append] at hown hg hat ⊢
    have hbw : Below g0 w w1 := ((Below.refl g0 w).alloc (by rw [HG.out]; exact Nat.le_refl _) _).grown hg (by simp; have := HG.out; omega) (fun q hq => by simp [Value.ownBlock, HG.out] at hq; omega)
    have HV1 := Lib.hid hown
    have HB1 := Lib.hid hbw
    clear hown hg hat hbw HR0 HO
    go_wp2_with fail
    go_loopw [15] (fun i wr => ∃ (k : Nat) (ls : List (List UInt8)) (vs : List Value), k ≤ n2 ∧ i = .int .i64 (k : Int) ∧ ls.Perm ls0 ∧ ls.length = m ∧ wr.ownsRow g0 22 1 (.slice A1 m c1) m vs ∧ (∀ i, i < m → ∃ Ai ni ci, vs[i]? = some (.slice Ai ni ci) ∧ ni ≤ ci ∧ RB w BL Ai ni (lat ls i)) ∧ Below g0 w wr) (fun i _ => n2 - (intOf i).toNat)
    case atStart => exact ⟨0, ls0, vs0, by omega, rfl, List.Perm.refl _, HL0.out, HV1.out, HI0.out, HB1.out⟩
    case round =>
      obtain ⟨k, ls, vs, hk, rfl, hp, hll, hv, hi, hb⟩ := hrel
      have HP := Lib.hid hp
      have HL := Lib.hid hll
      have HV := Lib.hid hv
      have HI := Lib.hid hi
      have HB := Lib.hid hb
      have hzr := hb.size
      clear hp hv hi hb hll HV1 HB1
      by_cases hlt : k < n2
      · obtain ⟨ad2, rfl, hab2, hzc, hz1', hz2'⟩ := (RI.below HZ.out (HB.out.mono hB)).at_ hlt
        generalize it zz k = z at *
        by_cases hm : 0 < m
        · have dm0 : (0 : Int) < (m : Int) := by omega
          have hpl := place_any k z m wr hm (by omega) (by omega)
          have ha := plA_lt k z hm
          have hb := plB_lt z hm
          generalize plA k z m = a at *
          generalize plB z m = b at *
          have HPL := Lib.hid hpl
          clear hpl
          go_wp2_with fail
          refine HPL.out.mono ?_
          rintro e w5 ⟨rfl, d5, rfl⟩
          have hv5 : (wr.drewN d5).ownsRow g0 22 1 (.slice A1 m c1) m vs := own_later HV.out (bl_drewN (Below.refl _ _) d5)
          have HB5 := Lib.hid (bl_drewN HB.out d5)
          clear HB HPL hzc HV
          generalize wr.drewN d5 = w5 at *
          obtain ⟨g1, rfl⟩ : ∃ g1, A1 = some ⟨g1, 0, none⟩ := by
            rcases hv5.2 with ⟨_, h⟩ | ⟨g, cap, cur, h, _⟩
            · omega
            · injection h with h; exact ⟨g, h⟩
          have hg1 : g0 ≤ g1 := (hv5.lt g1 rfl).1
          obtain ⟨Aa, na, ca, ea, la, ra⟩ := HI.out a ha
          obtain ⟨Ab, nb, cb, eb, lb, rb⟩ := HI.out b hb
          have hvl : vs.length = m := by have := hv5.1; omega
          have h5 : w5.ownsRow g0 22 1 (.slice (some ⟨g1, 0, none⟩) m c1) m vs := hv5
          have h6 := own_setH h5 a (.slice Ab nb cb)
          have h7 := own_setH h6 b (.slice Aa na ca)
          have HCA := Lib.hid (own_cellH h5 ea).1
          have HFA := Lib.hid (own_cellH h5 ea).2
          have HCB0 := Lib.hid (own_cellH h5 eb).1
          have ebs : ∃ y, (vs.set a (.slice Ab nb cb))[b]? = some y := ⟨_, List.getElem?_eq_getElem (by rw [List.length_set]; omega)⟩
          obtain ⟨y, ebs⟩ := ebs
          have HCB := Lib.hid (own_cellH h6 ebs).1
          have HFB := Lib.hid (own_cellH h6 ebs).2
          have HV7 := Lib.hid h7
          have HB7 := Lib.hid ((HB5.out.setCell (p := ⟨g1, a, none⟩) hg1 (.slice Ab nb cb)).setCell (p := ⟨g1, b, none⟩) hg1 (.slice Aa na ca))
          have hia : (a : Int) < (m : Int) := by omega
          have hib : (b : Int) < (m : Int) := by omega
          have hla : a < ls.length := by have := HL.out; omega
          have hlb : b < ls.length := by have := HL.out; omega
          have HPS := Lib.hid ((swap_perm ls hla hlb).trans HP.out)
          have HLS := Lib.hid (show ((ls.set a ls[b]).set b ls[a]).length = m by rw [List.length_set, List.length_set]; exact HL.out)
          have HIS := Lib.hid (show ∀ i, i < m → ∃ Ai ni ci, ((vs.set a (.slice Ab nb cb)).set b (.slice Aa na ca))[i]? = some (.slice Ai ni ci) ∧ ni ≤ ci ∧ RB w BL Ai ni (lat ((ls.set a ls[b]).set b ls[a]) i) from by
            intro i hin
            by_cases e1 : i = b
            · subst e1
              refine ⟨Aa, na, ca, by rw [List.getElem?_set_self (by rw [List.length_set]; omega)], la, ?_⟩
              have : lat ((ls.set a ls[i]).set i ls[a]) i = lat ls a := by
                rw [lat, lat, List.getD_eq_getElem?_getD, List.getD_eq_getElem?_getD, List.getElem?_set_self (by rw [List.length_set]; omega), List.getElem?_eq_getElem hla]
              rw [this]; exact ra
            · by_cases e2 : i = a
              · subst e2
                refine ⟨Ab, nb, cb, by rw [List.getElem?_set_ne (Ne.symm e1), List.getElem?_set_self (by omega)], lb, ?_⟩
                have : lat ((ls.set i ls[b]).set b ls[i]) i = lat ls b := by
                  rw [lat, lat, List.getD_eq_getElem?_getD, List.getD_eq_getElem?_getD, List.getElem?_set_ne (Ne.symm e1), List.getElem?_set_self (by omega), List.getElem?_eq_getElem hlb]
                rw [this]; exact rb
              · obtain ⟨Ai, ni, ci, q1, q2, q3⟩ := HI.out i hin
                refine ⟨Ai, ni, ci, by rw [List.getElem?_set_ne (Ne.symm e1), List.getElem?_set_ne (Ne.symm e2)]; exact q1, q2, ?_⟩
                have : lat ((ls.set a ls[b]).set b ls[a]) i = lat ls i := by
                  rw [lat, lat, List.getD_eq_getElem?_getD, List.getD_eq_getElem?_getD, List.getElem?_set_ne (Ne.symm e1), List.getElem?_set_ne (Ne.symm e2)]
                rw [this]; exact q3)
          clear ea eb hv5 h5 h6 h7 ebs la lb ra rb HP HI HL
          generalize (ls.set a ls[b]).set b ls[a] = ls1 at *
          generalize (vs.set a (.slice Ab nb cb)).set b (.slice Aa na ca) = vs1 at *
          go_wp2_with fail
          refine wp_region_noPanic ?_
          refine wp_region_until (S := (fun w' => w'.cell? ⟨g1, a, none⟩ = some (.slice Aa na ca) ∧ w'.cell? ⟨g1, b, none⟩ = some (.slice Ab nb cb))) 13 (by kernel_rfl) ?_ (fun hHeld => ?_)
          · (try dsimp only)
            exact ⟨HCA.out, HCB0.out⟩
          refine wpAnyU_takeY (i := 0) (v := ?v1) rfl (by kernel_rfl) (fun _ _ _ h => h) (Or.inl ⟨by rfl, ?y1⟩) (by assumption) ?r1
          case y1 => (intro W; first | (go_simp; done) | (go_simp; with_reducible rfl))
          (try simp only [List.getElem_toArray, List.getElem_cons_zero, Act.put, List.setIfInBounds_toArray, List.set_cons_zero, List.set_cons_succ])
          refine wpAnyU_takeY (i := 1) (v := ?v2) rfl (by kernel_rfl) (fun _ _ _ h => h) (Or.inl ⟨by rfl, ?y2⟩) (by assumption) ?r2
          case y2 => (intro W; first | (go_simp; done) | (go_simp; with_reducible rfl))
          (try simp only [List.getElem_toArray, List.getElem_cons_zero, List.getElem_cons_succ, Act.put, List.setIfInBounds_toArray, List.set_cons_zero, List.set_cons_succ])
          refine wpAnyU_takeY (i := 2) (v := ?v3) rfl (by kernel_rfl) (fun _ _ _ h => h) (Or.inl ⟨by rfl, ?y3⟩) (by assumption) ?r3
          case y3 => (intro W; first | (go_simp; done) | (go_simp; with_reducible rfl))
          (try simp only [List.getElem_toArray, List.getElem_cons_zero, List.getElem_cons_succ, Act.put, List.setIfInBounds_toArray, List.set_cons_zero, List.set_cons_succ])
          refine wpAnyU_takeY (i := 3) (v := ?v4) rfl (by kernel_rfl) (fun _ _ _ h => h) (Or.inl ⟨by rfl, ?y4⟩) (by assumption) ?r4
          case y4 => (intro W; first | (go_simp; done) | (go_simp; with_reducible rfl))
          (try simp only [List.getElem_toArray, List.getElem_cons_zero, List.getElem_cons_succ, Act.put, List.setIfInBounds_toArray, List.set_cons_zero, List.set_cons_succ])
          refine wpAnyU_takeY (i := 4) (v := ?v5) rfl (by kernel_rfl) (fun _ _ _ h => h) (Or.inl ⟨by rfl, ?y5⟩) (by assumption) ?r5
          case y5 => (intro W; first | (go_simp; done) | (go_simp; with_reducible rfl))
          (try simp only [List.getElem_toArray, List.getElem_cons_zero, List.getElem_cons_succ, Act.put, List.setIfInBounds_toArray, List.set_cons_zero, List.set_cons_succ])
          refine wpAnyU_takeY (i := 5) (v := ?v6) rfl (by kernel_rfl) (fun _ _ _ h => h) (Or.inl ⟨by rfl, ?y6⟩) (by assumption) ?r6
          case y6 => (intro W; first | (go_simp; done) | (go_simp; with_reducible rfl))
          (try simp only [List.getElem_toArray, List.getElem_cons_zero, List.getElem_cons_succ, Act.put, List.setIfInBounds_toArray, List.set_cons_zero, List.set_cons_succ])
          refine wpAnyU_takeY (i := 6) (v := ?v7) rfl (by kernel_rfl) (fun _ _ _ h => h) (Or.inl ⟨by rfl, ?y7⟩) (by assumption) ?r7
          case y7 => (intro W; first | (go_simp; done) | (go_simp; with_reducible rfl))
          (try simp only [List.getElem_toArray, List.getElem_cons_zero, List.getElem_cons_succ, Act.put, List.setIfInBounds_toArray, List.set_cons_zero, List.set_cons_succ])
          refine wpAnyU_takeW (i := 7) (v := ?v8) rfl (by kernel_rfl) (fun _ _ _ h => h) (Or.inl ⟨by rfl, ?y8⟩) (by assumption) ?r8
          case y8 => (intro W hSW; (try dsimp only at hSW); first | (go_simp; done) | (go_simp; with_reducible rfl))
          (try simp only [List.getElem_toArray, List.getElem_cons_zero, List.getElem_cons_succ, Act.put, List.setIfInBounds_toArray, List.set_cons_zero, List.set_cons_succ])
          refine wpAnyU_takeY (i := 8) (v := ?v9) rfl (by kernel_rfl) (fun _ _ _ h => h) (Or.inl ⟨by rfl, ?y9⟩) (by assumption) ?r9
          case y9 => (intro W; first | (go_simp; done) | (go_simp; with_reducible rfl))
          (try simp only [List.getElem_toArray, List.getElem_cons_zero, List.getElem_cons_succ, Act.put, List.setIfInBounds_toArray, List.set_cons_zero, List.set_cons_succ])
          refine wpAnyU_takeY (i := 9) (v := ?v10) rfl (by kernel_rfl) (fun _ _ _ h => h) (Or.inl ⟨by rfl, ?y10⟩) (by assumption) ?r10
          case y10 => (intro W; first | (go_simp; done) | (go_simp; with_reducible rfl))
          (try simp only [List.getElem_toArray, List.getElem_cons_zero, List.getElem_cons_succ, Act.put, List.setIfInBounds_toArray, List.set_cons_zero, List.set_cons_succ])
          refine wpAnyU_takeY (i := 10) (v := ?v11) rfl (by kernel_rfl) (fun _ _ _ h => h) (Or.inl ⟨by rfl, ?y11⟩) (by assumption) ?r11
          case y11 => (intro W; first | (go_simp; done) | (go_simp; with_reducible rfl))
          (try simp only [List.getElem_toArray, List.getElem_cons_zero, List.getElem_cons_succ, Act.put, List.setIfInBounds_toArray, List.set_cons_zero, List.set_cons_succ])
          refine wpAnyU_takeW (i := 11) (v := ?v12) rfl (by kernel_rfl) (fun _ _ _ h => h) (Or.inl ⟨by rfl, ?y12⟩) (by assumption) ?r12
          case y12 => (intro W hSW; (try dsimp only at hSW); first | (go_simp; done) | (go_simp; with_reducible rfl))
          (try simp only [List.getElem_toArray, List.getElem_cons_zero, List.getElem_cons_succ, Act.put, List.setIfInBounds_toArray, List.set_cons_zero, List.set_cons_succ])
          refine wpAnyU_takeY (i := 12) (v := ?v13) rfl (by kernel_rfl) (fun _ _ _ h => h) (Or.inl ⟨by rfl, ?y13⟩) (by assumption) ?r13
          case y13 => (intro W; first | (go_simp; done) | (go_simp; with_reducible rfl))
          (try simp only [List.getElem_toArray, List.getElem_cons_zero, List.getElem_cons_succ, Act.put, List.setIfInBounds_toArray, List.set_cons_zero, List.set_cons_succ])
          refine wpAnyU_at (c := 13) rfl (by kernel_rfl) (by rfl) (fun K hK => ?_)
          have HK := Lib.hid hK
          clear hK
          have hc13 := HCA.out
          have hf13 := HFA.out a
          go_simp
          refine HK.out _ _ ?_
          clear HK K
          clear hc13 hf13
          generalize w5.setCell ⟨g1, a, none⟩ (.slice Ab nb cb) = w6 at *
          (try simp only [List.getElem_toArray, List.getElem_cons_zero, List.getElem_cons_succ, Act.put, List.setIfInBounds_toArray, List.set_cons_zero, List.set_cons_succ])
          refine wpAny_takeY (i := 14) (v := ?v15) rfl (by kernel_rfl) (fun _ _ _ h => h) (Or.inl ⟨by rfl, ?y15⟩) ?r15
          case y15 => (intro W; first | (go_simp; done) | (go_simp; with_reducible rfl))
          (try simp only [List.getElem_toArray, List.getElem_cons_zero, List.getElem_cons_succ, Act.put, List.setIfInBounds_toArray, List.set_cons_zero, List.set_cons_succ])
          refine wpAny_at (c := 15) rfl (by kernel_rfl) (by rfl) (fun K hK => ?_)
          have HK := Lib.hid hK
          clear hK
          have hc15 := HCB.out
          have hf15 := HFB.out b
          go_simp
          refine HK.out _ _ ?_
          clear HK K
          (try simp only [List.getElem_toArray, List.getElem_cons_zero, List.getElem_cons_succ, Act.put, List.setIfInBounds_toArray, List.set_cons_zero, List.set_cons_succ])
          refine wpAny_done (by kernel_rfl) ?_ _
          refine NoPanic.normal ?_
          go_wp2_with fail
          exact ⟨⟨k + 1, ls1, vs1, by omega, by go_num, HPS.out, HLS.out, HV7.out, HIS.out, HB7.out.drew⟩, by simp [intOf]; omega⟩
        · obtain rfl : m = 0 := by omega
          go_wp2_with fail
          exact ⟨⟨k + 1, ls, vs, by omega, by go_num, HP.out, HL.out, HV.out, HI.out, HB.out⟩, by simp [intOf]; omega⟩
      · obtain rfl : k = n2 := by omega
        go_wp2_with fail
        go_ret
        refine ⟨_, c1, ls, rfl, HP.out, ⟨HL.out, vs, HV.out, fun i hin => ?_⟩, HB.out⟩
        obtain ⟨Ai, ni, ci, q1, q2, q3⟩ := HI.out i hin
        exact ⟨Ai, ni, ci, q1, q2, q3.below (HB.out.mono (by omega))⟩
end Go.Proofs.Ytgpjidlomhkpeaa
