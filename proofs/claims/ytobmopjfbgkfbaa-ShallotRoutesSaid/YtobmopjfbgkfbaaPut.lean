/-
  Contracts of codec.Put, shallotref01.Put and shallotlaw01.awake: both puts write a number as the same bytes, or give the same error's number; awake is true.
-/
import Derived.Test.YtobmopjfbgkfbaaGet
import Derived.Test.YtobmopjfbgkfbaaLists
namespace Go.Proofs.Ytobmopjfbgkfbaa
open Go Go.RowKit Go.Sh

/-- d bytes by a rule -/
def rowf (d : Nat) (f : Nat → UInt8) : List UInt8 := (List.range d).map f
theorem length_rowf (d : Nat) (f : Nat → UInt8) : (rowf d f).length = d := by simp [rowf]
set_option maxRecDepth 100000 in
theorem rowf_congr {d : Nat} {f g : Nat → UInt8} (h : ∀ i, i < d → f i = g i) : rowf d f = rowf d g := List.map_congr_left fun i hi => h i (by simpa using hi)
theorem rowf_zs (d : Nat) : zs d = rowf d (fun _ => 0) := by
  apply List.ext_getElem
  · simp [zs, rowf]
  · intro i h1 h2
    simp [zs, rowf]
theorem rowf_set (d : Nat) (f : Nat → UInt8) (i : Nat) (x : UInt8) : (rowf d f).set i x = rowf d (fun j => if j = i then x else f j) := by
  apply List.ext_getElem
  · simp [rowf]
  · intro j h1 h2
    simp only [rowf, List.getElem_set, List.getElem_map, List.getElem_range]
    by_cases h : i = j
    · simp [h]
    · rw [if_neg h, if_neg (fun e => h e.symm)]
theorem by8_rowf {d i : Nat} (f : Nat → UInt8) (h : i < d) : by8 (rowf d f) i = (f i).toNat := by
  simp [by8, rowf, h]
theorem bv_store (l : List UInt8) (i : Nat) (x : UInt8) : (bv l).set i (.int .u8 (x.toNat : Int)) = bv (l.set i x) := by simp [bv, List.map_set]

/-- byte j of the number v -/
def pc (v j : Nat) : UInt8 := UInt8.ofNat (v / 256 ^ j)
theorem pc_nat (v j : Nat) : (pc v j).toNat = v / 256 ^ j % 256 := by simp [pc]
/-- the bytes of v -/
def putB (o : Int) (d v : Nat) : List UInt8 := if o = 2 then rowf d (fun i => pc v (d - 1 - i)) else rowf d (fun i => pc v i)
def putE (o d : Int) (v : Nat) : Int := if okW o d = false then 1 else if 256 ^ d.toNat ≤ v then 2 else 0
def putL (o d : Int) (v : Nat) : List UInt8 := if putE o d v = 0 then putB o d.toNat v else []
theorem length_putB (o : Int) (d v : Nat) : (putB o d v).length = d := by
  unfold putB
  split <;> rw [length_rowf]

theorem piece_wrap (v k : Nat) : (v : Int) / 2 ^ (8 * k) % 256 = ((pc v k).toNat : Int) := by
  have hp : (2 : Int) ^ (8 * k) = ((256 ^ k : Nat) : Int) := by
    have : (2 : Nat) ^ (8 * k) = 256 ^ k := by rw [Nat.pow_mul]
    rw [← this]
    simp
  rw [hp, pc_nat]
  have e : (v : Int) / ((256 ^ k : Nat) : Int) = ((v / 256 ^ k : Nat) : Int) := by simp
  rw [e]
  omega
theorem shr_zero (v k : Nat) (h : v < 256 ^ k) : (((v : Int) / 2 ^ (8 * k)) != 0) = false := by
  have hp : (2 : Int) ^ (8 * k) = ((256 ^ k : Nat) : Int) := by
    have : (2 : Nat) ^ (8 * k) = 256 ^ k := by rw [Nat.pow_mul]
    rw [← this]
    simp
  have e : (v : Int) / ((256 ^ k : Nat) : Int) = ((v / 256 ^ k : Nat) : Int) := by simp
  rw [hp, e, Nat.div_eq_of_lt h]
  rfl
theorem shr_not_zero (v k : Nat) (h : 256 ^ k ≤ v) : (((v : Int) / 2 ^ (8 * k)) != 0) = true := by
  have hp : (2 : Int) ^ (8 * k) = ((256 ^ k : Nat) : Int) := by
    have : (2 : Nat) ^ (8 * k) = 256 ^ k := by rw [Nat.pow_mul]
    rw [← this]
    simp
  have e : (v : Int) / ((256 ^ k : Nat) : Int) = ((v / 256 ^ k : Nat) : Int) := by simp
  have h1 : 0 < v / 256 ^ k := Nat.div_pos h (Nat.pow_pos (by decide))
  rw [hp, e, bne_iff_ne]
  omega

set_option maxRecDepth 100000 in
theorem Put_any (o d : Int) (v : Nat) (w : World) (hv : v < 18446744073709551616) :
    Calls Try.prog 63 #[.int .i64 o, .int .i64 d, .int .u64 (v : Int)] w (RetBE w (putL o d v) (putE o d v)) := by
  rcases Bool.eq_false_or_eq_true (okW o d) with hok | hok
  · obtain ⟨ho, d1, d2⟩ := okW_yes hok
    obtain ⟨dn, rfl⟩ := Int.eq_ofNat_of_zero_le (show 0 ≤ d by omega)
    by_cases hbig : 256 ^ dn ≤ v
    · have e2 : putE o dn v = 2 := by simp [putE, hok, hbig]
      have e1 : putL o dn v = [] := by simp [putL, e2]
      have hd8 : dn < 8 := by
        rcases Nat.lt_or_ge dn 8 with h | h
        · exact h
        · obtain rfl : dn = 8 := by omega
          have : (256 : Nat) ^ 8 = 18446744073709551616 := by decide
          omega
      have hz := shr_not_zero v dn hbig
      rw [e1, e2]
      clear e1 e2 hbig hv
      go_enter Try.func63, Try.ntmps63
      go_wp2_with fail
      refine (valid_any _ _ _).mono ?_
      rintro e w' ⟨rfl, rfl⟩
      rw [hok]
      clear hok
      go_wp2
      go_ret2
      exact RetBE.nil w 2
    · have e2 : putE o dn v = 0 := by simp [putE, hok]; omega
      have e1 : putL o dn v = putB o dn v := by simp [putL, e2]
      rw [e1, e2]
      have hz := shr_zero v dn (by omega)
      clear e1 e2 hbig hv
      have hlast : (dn < 8 ∨ 8 ≤ dn) := by omega
      rcases ho with rfl | rfl
      · all_goals rcases hlast with h8 | h8
        all_goals
          go_enter Try.func63, Try.ntmps63
          go_wp2_with fail
          refine (valid_any _ _ _).mono ?_
          rintro e w' ⟨rfl, rfl⟩
          rw [hok]
          clear hok
          go_wp2_with (at_make; refine wl_makeB TB rfl (.tmp 25) (.tmp 25) rfl .i64 .i64 _ _ rfl rfl dn ?_ ?_ ?_ w.heap.size (Nat.le_refl _) ?_)
          · rfl
          · rfl
          · omega
          · intro w1 hown hg _
            rw [rowf_zs] at hown
            have HO1 := Lib.hid hown
            have HB1 := Lib.hid (show Below w.heap.size w w1 from (Below.refl _ _).grown hg (Nat.le_refl _) (by simp))
            clear hown hg
            generalize hgg : w.heap.size = g0 at *
            have HG := Lib.hid hgg
            clear hgg hz
            go_wp2
            go_loopw [9, 10, 29] (fun _ _ i wr => ∃ k : Nat, k ≤ dn ∧ i = .int .i64 k ∧ wr.ownsRow g0 5 1 (.slice (some ⟨g0, 0, none⟩) dn dn) dn (bv (rowf dn (fun j => if j < k then pc v j else 0))) ∧ Below g0 w wr) (fun _ _ i _ => dn - (intOf i).toNat)
            case atStart => exact ⟨0, by omega, rfl, by rw [show rowf dn (fun j => if j < 0 then pc v j else 0) = rowf dn (fun _ => 0) from rowf_congr (fun j _ => by simp)]; exact HO1.out, HB1.out⟩
            case round =>
              obtain ⟨k, hk, rfl, hown, hb⟩ := hrel
              have HO := Lib.hid hown
              have HB := Lib.hid hb
              clear hown hb
              by_cases hlt : k < dn
              · have hfr := HO.out.frozenAt (k)
                have hcr := HO.out.cellAt (k) (by omega)
                rw [bv_at _ _ (by rw [length_rowf]; omega)] at hcr
                go_wp2
                refine ⟨⟨k + 1, by omega, by go_num, ?_, HB.out.setCell (Nat.le_refl _) _⟩, by simp [intOf]; omega⟩
                rw [piece_wrap]
                have h := (HO.out.stored (k) (.int .u8 ((pc v k).toNat : Int))).1
                rw [bv_store, rowf_set] at h
                rw [show rowf dn (fun j => if j < k + 1 then pc v j else 0) = rowf dn (fun j => if j = k then pc v k else if j < k then pc v j else 0) from rowf_congr (fun j hj => by
                  by_cases hjk : j = k
                  · subst hjk
                    first | (simp; done) | (rw [if_pos rfl, show dn - 1 - (dn - 1 - k) = k by omega, if_pos (by omega)])
                  · rw [if_neg hjk]
                    split <;> split <;> first | rfl | omega)]
                exact h
              · obtain rfl : k = dn := by omega
                go_wp2
                go_ret2
                refine ⟨_, k, k, rfl, length_putB _ _ _, ?_, ?_⟩
                · rw [HG.out]
                  have h := HO.out
                  rw [show rowf k (fun j => if j < k then pc v j else 0) = putB 1 k v from by
                    simp only [putB]
                    exact rowf_congr (fun j hj => by rw [if_pos (by omega)])] at h
                  exact h
                · rw [HG.out]; exact HB.out
      · all_goals rcases hlast with h8 | h8
        all_goals
          go_enter Try.func63, Try.ntmps63
          go_wp2_with fail
          refine (valid_any _ _ _).mono ?_
          rintro e w' ⟨rfl, rfl⟩
          rw [hok]
          clear hok
          go_wp2_with (at_make; refine wl_makeB TB rfl (.tmp 25) (.tmp 25) rfl .i64 .i64 _ _ rfl rfl dn ?_ ?_ ?_ w.heap.size (Nat.le_refl _) ?_)
          · rfl
          · rfl
          · omega
          · intro w1 hown hg _
            rw [rowf_zs] at hown
            have HO1 := Lib.hid hown
            have HB1 := Lib.hid (show Below w.heap.size w w1 from (Below.refl _ _).grown hg (Nat.le_refl _) (by simp))
            clear hown hg
            generalize hgg : w.heap.size = g0 at *
            have HG := Lib.hid hgg
            clear hgg hz
            go_wp2
            go_loopw [9, 10, 29] (fun _ _ i wr => ∃ k : Nat, k ≤ dn ∧ i = .int .i64 k ∧ wr.ownsRow g0 5 1 (.slice (some ⟨g0, 0, none⟩) dn dn) dn (bv (rowf dn (fun j => if dn - 1 - j < k then pc v (dn - 1 - j) else 0))) ∧ Below g0 w wr) (fun _ _ i _ => dn - (intOf i).toNat)
            case atStart => exact ⟨0, by omega, rfl, by rw [show rowf dn (fun j => if dn - 1 - j < 0 then pc v (dn - 1 - j) else 0) = rowf dn (fun _ => 0) from rowf_congr (fun j _ => by simp)]; exact HO1.out, HB1.out⟩
            case round =>
              obtain ⟨k, hk, rfl, hown, hb⟩ := hrel
              have HO := Lib.hid hown
              have HB := Lib.hid hb
              clear hown hb
              by_cases hlt : k < dn
              · have hfr := HO.out.frozenAt (dn - 1 - k)
                have hcr := HO.out.cellAt (dn - 1 - k) (by omega)
                rw [bv_at _ _ (by rw [length_rowf]; omega)] at hcr
                go_wp2
                refine ⟨⟨k + 1, by omega, by go_num, ?_, HB.out.setCell (Nat.le_refl _) _⟩, by simp [intOf]; omega⟩
                rw [piece_wrap]
                have h := (HO.out.stored (dn - 1 - k) (.int .u8 ((pc v k).toNat : Int))).1
                rw [bv_store, rowf_set] at h
                rw [show rowf dn (fun j => if dn - 1 - j < k + 1 then pc v (dn - 1 - j) else 0) = rowf dn (fun j => if j = dn - 1 - k then pc v k else if dn - 1 - j < k then pc v (dn - 1 - j) else 0) from rowf_congr (fun j hj => by
                  by_cases hjk : j = dn - 1 - k
                  · subst hjk
                    first | (simp; done) | (rw [if_pos rfl, show dn - 1 - (dn - 1 - k) = k by omega, if_pos (by omega)])
                  · rw [if_neg hjk]
                    split <;> split <;> first | rfl | omega)]
                exact h
              · obtain rfl : k = dn := by omega
                go_wp2
                go_ret2
                refine ⟨_, k, k, rfl, length_putB _ _ _, ?_, ?_⟩
                · rw [HG.out]
                  have h := HO.out
                  rw [show rowf k (fun j => if k - 1 - j < k then pc v (k - 1 - j) else 0) = putB 2 k v from by
                    simp only [putB]
                    exact rowf_congr (fun j hj => by rw [if_pos (by omega)])] at h
                  exact h
                · rw [HG.out]; exact HB.out
  · have e2 : putE o d v = 1 := by simp [putE, hok]
    have e1 : putL o d v = [] := by simp [putL, e2]
    rw [e1, e2]
    clear e1 e2
    go_enter Try.func63, Try.ntmps63
    go_wp2_with fail
    refine (valid_any _ _ _).mono ?_
    rintro e w' ⟨rfl, rfl⟩
    rw [hok]
    clear hok
    go_wp2
    go_ret2
    exact RetBE.nil w 1

end Go.Proofs.Ytobmopjfbgkfbaa
