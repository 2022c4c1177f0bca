/-
  Contracts of codec.Put, shallotref01.Put and shallotlaw01.awake: both puts write a number as the same bytes, or give the same error's number; awake is true.
-/
import Derived.Test.YtkaakgabhhkggaaGet
import Derived.Test.YtkaakgabhhkggaaLists
namespace Go.Proofs.Ytkaakgabhhkggaa
open Go Go.RowKit Go.Sh

/-- d bytes by a rule -/
def rowf (d : Nat) (f : Nat → UInt8) : List UInt8 := (List.range d).map f
theorem length_rowf (d : Nat) (f : Nat → UInt8) : (rowf d f).length = d := by simp [rowf]
set_option maxRecDepth 100000 in
theorem rowf_congr {d : Nat} {f g : Nat → UInt8} (h : ∀ i, i < d → f i = g i) : rowf d f = rowf d g := List.map_congr_left fun i hi => h i (by simpa using hi)
theorem rowf_zs (d : Nat) : zs d = rowf d (fun _ => 0) := by
  apply List.ext_getElem
  · simp [zs, rowf]
  · intro i h1 h2
    simp [zs, rowf]
theorem rowf_set (d : Nat) (f : Nat → UInt8) (i : Nat) (x : UInt8) : (rowf d f).set i x = rowf d (fun j => if j = i then x else f j) := by
  apply List.ext_getElem
  · simp [rowf]
  · intro j h1 h2
    simp only [rowf, List.getElem_set, List.getElem_map, List.getElem_range]
    by_cases h : i = j
    · simp [h]
    · rw [if_neg h, if_neg (fun e => h e.symm)]
theorem by8_rowf {d i : Nat} (f : Nat → UInt8) (h : i < d) : by8 (rowf d f) i = (f i).toNat := by
  simp [by8, rowf, h]
theorem bv_store (l : List UInt8) (i : Nat) (x : UInt8) : (bv l).set i (.int .u8 (x.toNat : Int)) = bv (l.set i x) := by simp [bv, List.map_set]

/-- byte j of the number v -/
def pc (v j : Nat) : UInt8 := UInt8.ofNat (v / 256 ^ j)
theorem pc_nat (v j : Nat) : (pc v j).toNat = v / 256 ^ j % 256 := by simp [pc]
/-- the bytes of v -/
def putB (o : Int) (d v : Nat) : List UInt8 := if o = 2 then rowf d (fun i => pc v (d - 1 - i)) else rowf d (fun i => pc v i)
def putE (o d : Int) (v : Nat) : Int := if okW o d = false then 1 else if 256 ^ d.toNat ≤ v then 2 else 0
def putL (o d : Int) (v : Nat) : List UInt8 := if putE o d v = 0 then putB o d.toNat v else []
theorem length_putB (o : Int) (d v : Nat) : (putB o d v).length = d := by
  unfold putB
  split <;> rw [length_rowf]

theorem piece_wrap (v k : Nat) : (v : Int) / 2 ^ (8 * k) % 256 = ((pc v k).toNat : Int) := by
  have hp : (2 : Int) ^ (8 * k) = ((256 ^ k : Nat) : Int) := by
    have : (2 : Nat) ^ (8 * k) = 256 ^ k := by rw [Nat.pow_mul]
    rw [← this]
    simp
  rw [hp, pc_nat]
  have e : (v : Int) / ((256 ^ k : Nat) : Int) = ((v / 256 ^ k : Nat) : Int) := by simp
  rw [e]
  omega
theorem shr_zero (v k : Nat) (h : v < 256 ^ k) : (((v : Int) / 2 ^ (8 * k)) != 0) = false := by
  have hp : (2 : Int) ^ (8 * k) = ((256 ^ k : Nat) : Int) := by
    have : (2 : Nat) ^ (8 * k) = 256 ^ k := by rw [Nat.pow_mul]
    rw [← this]
    simp
  have e : (v : Int) / ((256 ^ k : Nat) : Int) = ((v / 256 ^ k : Nat) : Int) := by simp
  rw [hp, e, Nat.div_eq_of_lt h]
  rfl
theorem shr_not_zero (v k : Nat) (h : 256 ^ k ≤ v) : (((v : Int) / 2 ^ (8 * k)) != 0) = true := by
  have hp : (2 : Int) ^ (8 * k) = ((256 ^ k : Nat) : Int) := by
    have : (2 : Nat) ^ (8 * k) = 256 ^ k := by rw [Nat.pow_mul]
    rw [← this]
    simp
  have e : (v : Int) / ((256 ^ k : Nat) : Int) = ((v / 256 ^ k : Nat) : Int) := by simp
  have h1 : 0 < v / 256 ^ k := Nat.div_pos h (Nat.pow_pos (by decide))
  rw [hp, e, bne_iff_ne]
  omega

set_option maxRecDepth 100000 in
theorem RefPut_any (o d : Int) (v : Nat) (w : World) (hv : v < 18446744073709551616) :
    Calls Try.prog 69 #[.int .i64 o, .int .i64 d, .int .u64 (v : Int)] w (RetBE w (putL o d v) (putE o d v)) := by
  have HV := Lib.hid hv
  clear hv
  rcases Bool.eq_false_or_eq_true (okW o d) with hok | hok
  · obtain ⟨ho, d1, d2⟩ := okW_yes hok
    obtain ⟨dn, rfl⟩ := Int.eq_ofNat_of_zero_le (show 0 ≤ d by omega)
    have HOK := Lib.hid hok
    · rcases ho with rfl | rfl
      · go_enter Try.func69, Try.ntmps69
        go_wp2_with fail
        refine (shape_any _ _ _).mono ?_
        rintro e w' ⟨rfl, rfl⟩
        rw [hok]
        clear hok
        go_wp2_with (at_make; refine wl_makeB TB rfl (.tmp 15) (.tmp 15) rfl .i64 .i64 _ _ rfl rfl dn ?_ ?_ ?_ w.heap.size (Nat.le_refl _) ?_)
        · rfl
        · rfl
        · omega
        · intro w1 hown hg _
          rw [rowf_zs] at hown
          have HO1 := Lib.hid hown
          have HB1 := Lib.hid (show Below w.heap.size w w1 from (Below.refl _ _).grown hg (Nat.le_refl _) (by simp))
          clear hown hg
          generalize hgg : w.heap.size = g0 at *
          have HG := Lib.hid hgg
          clear hgg
          go_wp2
          go_loopw [2, 9, 10] (fun x i _ wr => ∃ k : Nat, k ≤ dn ∧ i = .int .i64 k ∧ x = .int .u64 ((v / 256 ^ k : Nat) : Int) ∧ wr.ownsRow g0 5 1 (.slice (some ⟨g0, 0, none⟩) dn dn) dn (bv (rowf dn (fun j => if j < k then pc v j else 0))) ∧ Below g0 w wr) (fun _ i _ _ => dn - (intOf i).toNat)
          case atStart => exact ⟨0, by omega, rfl, by simp, by rw [show rowf dn (fun j => if j < 0 then pc v j else 0) = rowf dn (fun _ => 0) from rowf_congr (fun j _ => by simp)]; exact HO1.out, HB1.out⟩
          case round =>
            obtain ⟨k, hk, rfl, rfl, hown, hb⟩ := hrel
            have HO := Lib.hid hown
            have HB := Lib.hid hb
            clear hown hb
            have HD := Lib.hid (show v / 256 ^ (k + 1) = v / 256 ^ k / 256 by rw [Nat.pow_succ, Nat.div_div_eq_div_mul])
            have HP := Lib.hid (pc_nat v k)
            have hvk : v / 256 ^ k < 18446744073709551616 := Nat.lt_of_le_of_lt (Nat.div_le_self _ _) HV.out
            by_cases hlt : k < dn
            · have hfr := HO.out.frozenAt (k)
              have hcr := HO.out.cellAt (k) (by omega)
              rw [bv_at _ _ (by rw [length_rowf]; omega)] at hcr
              generalize v / 256 ^ k = q at *
              go_wp2
              refine ⟨⟨k + 1, by omega, by go_num, by rw [HD.out]; go_num, ?_, HB.out.setCell (Nat.le_refl _) _⟩, by simp [intOf]; omega⟩
              have h := (HO.out.stored (k) (.int .u8 ((pc v k).toNat : Int))).1
              rw [bv_store, rowf_set] at h
              rw [show rowf dn (fun j => if j < k + 1 then pc v j else 0) = rowf dn (fun j => if j = k then pc v k else if j < k then pc v j else 0) from rowf_congr (fun j hj => by
                by_cases hjk : j = k
                · subst hjk
                  first | (simp; done) | (rw [if_pos rfl, show dn - 1 - (dn - 1 - k) = k by omega, if_pos (by omega)])
                · rw [if_neg hjk]
                  split <;> split <;> first | rfl | omega)]
              rw [HP.out] at h
              simpa using h
            · obtain rfl : k = dn := by omega
              by_cases hbig : 256 ^ k ≤ v
              · have hne : (((v / 256 ^ k : Nat) : Int) != 0) = true := by
                  have := Nat.div_pos hbig (Nat.pow_pos (by decide))
                  rw [bne_iff_ne]; omega
                have e2 : putE 1 k v = 2 := by
                  unfold putE
                  rw [if_neg (by rw [HOK.out]; decide), if_pos (by simpa using hbig)]
                have e1 : putL 1 k v = [] := by simp [putL, e2]
                have E1 := Lib.hid e1
                have E2 := Lib.hid e2
                clear e1 e2 hbig
                generalize v / 256 ^ k = q at *
                go_wp2
                go_ret2
                rw [E1.out, E2.out]
                refine ⟨none, 0, 0, rfl, rfl, World.ownsRow_nil _ _ _ _, ?_⟩
                rw [HG.out]; exact HB.out
              · have hne : (((v / 256 ^ k : Nat) : Int) != 0) = false := by
                  rw [Nat.div_eq_of_lt (by omega)]
                  rfl
                have e2 : putE 1 k v = 0 := by
                  unfold putE
                  rw [if_neg (by rw [HOK.out]; decide), if_neg (by simpa using hbig)]
                have e1 : putL 1 k v = putB 1 k v := by simp [putL, e2]
                have E1 := Lib.hid e1
                have E2 := Lib.hid e2
                clear e1 e2 hbig
                generalize v / 256 ^ k = q at *
                go_wp2
                go_ret2
                rw [E1.out, E2.out]
                refine ⟨_, k, k, rfl, length_putB _ _ _, ?_, ?_⟩
                · rw [HG.out]
                  have h := HO.out
                  rw [show rowf k (fun j => if j < k then pc v j else 0) = putB 1 k v from by
                    simp only [putB]
                    exact rowf_congr (fun j hj => by rw [if_pos (by omega)])] at h
                  exact h
                · rw [HG.out]; exact HB.out
      · go_enter Try.func69, Try.ntmps69
        go_wp2_with fail
        refine (shape_any _ _ _).mono ?_
        rintro e w' ⟨rfl, rfl⟩
        rw [hok]
        clear hok
        go_wp2_with (at_make; refine wl_makeB TB rfl (.tmp 15) (.tmp 15) rfl .i64 .i64 _ _ rfl rfl dn ?_ ?_ ?_ w.heap.size (Nat.le_refl _) ?_)
        · rfl
        · rfl
        · omega
        · intro w1 hown hg _
          rw [rowf_zs] at hown
          have HO1 := Lib.hid hown
          have HB1 := Lib.hid (show Below w.heap.size w w1 from (Below.refl _ _).grown hg (Nat.le_refl _) (by simp))
          clear hown hg
          generalize hgg : w.heap.size = g0 at *
          have HG := Lib.hid hgg
          clear hgg
          go_wp2
          go_loopw [2, 9, 10] (fun x i _ wr => ∃ k : Nat, k ≤ dn ∧ i = .int .i64 k ∧ x = .int .u64 ((v / 256 ^ k : Nat) : Int) ∧ wr.ownsRow g0 5 1 (.slice (some ⟨g0, 0, none⟩) dn dn) dn (bv (rowf dn (fun j => if dn - 1 - j < k then pc v (dn - 1 - j) else 0))) ∧ Below g0 w wr) (fun _ i _ _ => dn - (intOf i).toNat)
          case atStart => exact ⟨0, by omega, rfl, by simp, by rw [show rowf dn (fun j => if dn - 1 - j < 0 then pc v (dn - 1 - j) else 0) = rowf dn (fun _ => 0) from rowf_congr (fun j _ => by simp)]; exact HO1.out, HB1.out⟩
          case round =>
            obtain ⟨k, hk, rfl, rfl, hown, hb⟩ := hrel
            have HO := Lib.hid hown
            have HB := Lib.hid hb
            clear hown hb
            have HD := Lib.hid (show v / 256 ^ (k + 1) = v / 256 ^ k / 256 by rw [Nat.pow_succ, Nat.div_div_eq_div_mul])
            have HP := Lib.hid (pc_nat v k)
            have hvk : v / 256 ^ k < 18446744073709551616 := Nat.lt_of_le_of_lt (Nat.div_le_self _ _) HV.out
            by_cases hlt : k < dn
            · have hfr := HO.out.frozenAt (dn - 1 - k)
              have hcr := HO.out.cellAt (dn - 1 - k) (by omega)
              rw [bv_at _ _ (by rw [length_rowf]; omega)] at hcr
              generalize v / 256 ^ k = q at *
              go_wp2
              refine ⟨⟨k + 1, by omega, by go_num, by rw [HD.out]; go_num, ?_, HB.out.setCell (Nat.le_refl _) _⟩, by simp [intOf]; omega⟩
              have h := (HO.out.stored (dn - 1 - k) (.int .u8 ((pc v k).toNat : Int))).1
              rw [bv_store, rowf_set] at h
              rw [show rowf dn (fun j => if dn - 1 - j < k + 1 then pc v (dn - 1 - j) else 0) = rowf dn (fun j => if j = dn - 1 - k then pc v k else if dn - 1 - j < k then pc v (dn - 1 - j) else 0) from rowf_congr (fun j hj => by
                by_cases hjk : j = dn - 1 - k
                · subst hjk
                  first | (simp; done) | (rw [if_pos rfl, show dn - 1 - (dn - 1 - k) = k by omega, if_pos (by omega)])
                · rw [if_neg hjk]
                  split <;> split <;> first | rfl | omega)]
              rw [HP.out] at h
              simpa using h
            · obtain rfl : k = dn := by omega
              by_cases hbig : 256 ^ k ≤ v
              · have hne : (((v / 256 ^ k : Nat) : Int) != 0) = true := by
                  have := Nat.div_pos hbig (Nat.pow_pos (by decide))
                  rw [bne_iff_ne]; omega
                have e2 : putE 2 k v = 2 := by
                  unfold putE
                  rw [if_neg (by rw [HOK.out]; decide), if_pos (by simpa using hbig)]
                have e1 : putL 2 k v = [] := by simp [putL, e2]
                have E1 := Lib.hid e1
                have E2 := Lib.hid e2
                clear e1 e2 hbig
                generalize v / 256 ^ k = q at *
                go_wp2
                go_ret2
                rw [E1.out, E2.out]
                refine ⟨none, 0, 0, rfl, rfl, World.ownsRow_nil _ _ _ _, ?_⟩
                rw [HG.out]; exact HB.out
              · have hne : (((v / 256 ^ k : Nat) : Int) != 0) = false := by
                  rw [Nat.div_eq_of_lt (by omega)]
                  rfl
                have e2 : putE 2 k v = 0 := by
                  unfold putE
                  rw [if_neg (by rw [HOK.out]; decide), if_neg (by simpa using hbig)]
                have e1 : putL 2 k v = putB 2 k v := by simp [putL, e2]
                have E1 := Lib.hid e1
                have E2 := Lib.hid e2
                clear e1 e2 hbig
                generalize v / 256 ^ k = q at *
                go_wp2
                go_ret2
                rw [E1.out, E2.out]
                refine ⟨_, k, k, rfl, length_putB _ _ _, ?_, ?_⟩
                · rw [HG.out]
                  have h := HO.out
                  rw [show rowf k (fun j => if k - 1 - j < k then pc v (k - 1 - j) else 0) = putB 2 k v from by
                    simp only [putB]
                    exact rowf_congr (fun j hj => by rw [if_pos (by omega)])] at h
                  exact h
                · rw [HG.out]; exact HB.out
  · have e2 : putE o d v = 1 := by simp [putE, hok]
    have e1 : putL o d v = [] := by simp [putL, e2]
    rw [e1, e2]
    clear e1 e2
    go_enter Try.func69, Try.ntmps69
    go_wp2_with fail
    refine (shape_any _ _ _).mono ?_
    rintro e w' ⟨rfl, rfl⟩
    rw [hok]
    clear hok
    go_wp2
    go_ret2
    exact RetBE.nil w 1
end Go.Proofs.Ytkaakgabhhkggaa
