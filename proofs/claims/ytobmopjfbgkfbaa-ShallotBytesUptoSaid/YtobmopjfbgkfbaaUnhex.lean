/-
  Contracts of codec.digit, codec.Unhex and shallotref01.Unhex: both give the bytes that hexadecimal digits write, or the same error's number.
-/
import Derived.Test.YtobmopjfbgkfbaaHex
namespace Go.Proofs.Ytobmopjfbgkfbaa
open Go Go.RowKit Go.Sh

/-- is it a digit, and what it is worth -/
def dgB (c : Nat) : Bool := decide ((48 ≤ c ∧ c ≤ 57) ∨ (97 ≤ c ∧ c ≤ 102))
def dgN (c : Nat) : Nat := if 48 ≤ c ∧ c ≤ 57 then c - 48 else if 97 ≤ c ∧ c ≤ 102 then c - 87 else 0
theorem dgN_lt (c : Nat) : dgN c < 16 := by
  unfold dgN
  split
  · omega
  · split <;> omega

set_option maxRecDepth 100000 in
theorem digit_any (x : Int) (w : World) (h0 : 0 ≤ x) (h1 : x ≤ 255) :
    Calls Try.prog 56 #[.int .u8 x] w (fun e w' => e = .returned (.tuple #[.int .u8 (dgN x.toNat : Int), .bool (dgB x.toNat)]) ∧ w = w') := by
  obtain ⟨n, rfl⟩ := Int.eq_ofNat_of_zero_le h0
  rw [Int.toNat_natCast]
  have key : (48 ≤ n ∧ n ≤ 57) ∨ (97 ≤ n ∧ n ≤ 102) ∨ n < 48 ∨ (57 < n ∧ n < 97) ∨ 102 < n := by omega
  have H : Hid (dgN n = dgN n ∧ dgB n = dgB n) := ⟨rfl, rfl⟩
  rcases key with ⟨a, b⟩ | ⟨a, b⟩ | a | ⟨a, b⟩ | a
  · have E1 := Lib.hid (show (dgN n : Int) = (n : Int) - 48 by simp [dgN, a, b]; omega)
    have E2 := Lib.hid (show dgB n = true by simp [dgB]; omega)
    go_enter Try.func56, Try.ntmps56
    go_wp2
    go_ret2
    exact ⟨by rw [E1.out, E2.out]; simp, rfl⟩
  · have E1 := Lib.hid (show (dgN n : Int) = (n : Int) - 97 + 10 by rw [dgN, if_neg (by omega), if_pos ⟨a, b⟩]; omega)
    have E2 := Lib.hid (show dgB n = true by simp [dgB]; omega)
    go_enter Try.func56, Try.ntmps56
    go_wp2
    go_ret2
    exact ⟨by rw [E1.out, E2.out]; simp, rfl⟩
  all_goals
    have E1 := Lib.hid (show dgN n = 0 by rw [dgN, if_neg (by omega), if_neg (by omega)])
    have E2 := Lib.hid (show dgB n = false by simp [dgB]; omega)
    go_enter Try.func56, Try.ntmps56
    go_wp2
    go_ret2
    exact ⟨by rw [E1.out, E2.out]; simp, rfl⟩

set_option maxRecDepth 100000 in
/-- a string asked at a place -/
theorem index_str (l : List UInt8) (i : Nat) (hi : i < l.length) (W : World) : (Instr.index 9 (.string ⟨l.toArray⟩) (.int .i64 (i : Int))).run Try.prog W = .ok (.int .u8 (bt l i)) W := by
  have hs : i < (⟨l.toArray⟩ : ByteArray).size := by
    show i < l.toArray.size
    simpa using hi
  have hg : (⟨l.toArray⟩ : ByteArray)[i]? = some l[i] := by
    exact getElem?_pos (⟨l.toArray⟩ : ByteArray) i hs
  have hb : bt l i = (l[i].toNat : Int) := by simp [bt, hi]
  rw [hb]
  simp [Instr.index, run_underlying Try.underlying9, asIntOf, hg]

/-- byte i of l -/
def b8 (l : List UInt8) (i : Nat) : Nat := (l.getD i 0).toNat
theorem bt_b8 (l : List UInt8) (i : Nat) : bt l i = (b8 l i : Int) := rfl
theorem b8_lt (l : List UInt8) (i : Nat) : b8 l i < 256 := (l.getD i 0).toNat_lt
/-- the first k bytes that the digits write -/
def unh (l : List UInt8) (k : Nat) : List UInt8 := (List.range k).map fun i => UInt8.ofNat (16 * dgN (b8 l (2 * i)) + dgN (b8 l (2 * i + 1)))
theorem unh_succ (l : List UInt8) (k : Nat) : unh l (k + 1) = unh l k ++ [UInt8.ofNat (16 * dgN (b8 l (2 * k)) + dgN (b8 l (2 * k + 1)))] := by simp [unh, List.range_succ]
theorem length_unh (l : List UInt8) (k : Nat) : (unh l k).length = k := by simp [unh]
/-- are all digits? -/
def dgAll (l : List UInt8) : Bool := l.all fun x => dgB x.toNat
theorem dgAll_no {l : List UInt8} {i : Nat} (hi : i < l.length) (h : dgB (b8 l i) = false) : dgAll l = false := by
  rw [dgAll, List.all_eq_false]
  refine ⟨l[i], List.getElem_mem hi, ?_⟩
  have : b8 l i = l[i].toNat := by simp [b8, hi]
  rw [← this, h]
  simp
set_option maxRecDepth 100000 in
theorem dgAll_yes {l : List UInt8} (h : ∀ i, i < l.length → dgB (b8 l i) = true) : dgAll l = true := by
  rw [dgAll, List.all_eq_true]
  intro x hx
  obtain ⟨i, hi, rfl⟩ := List.getElem_of_mem hx
  have := h i hi
  simpa [b8, hi] using this
def unhE (l : List UInt8) : Int := if l.length % 2 = 1 then 2 else if dgAll l = true then 0 else 3
def unhL (l : List UInt8) : List UInt8 := if unhE l = 0 then unh l (l.length / 2) else []
theorem join_digits (h d : Nat) (hh : h < 16) (hd : d < 16) : bits BinOp.or IntKind.u8 ((h : Int) * 16) (d : Int) = ((UInt8.ofNat (16 * h + d)).toNat : Int) := by
  have := bits_join .u8 8 (by decide) wraps_u8 4 ((h : Int) * 16) (d : Int) (by omega) (by omega) (by omega) (by omega) (by omega) (by omega)
  rw [this]
  simp
  omega

set_option maxRecDepth 100000 in
theorem Unhex_any (l : List UInt8) (n : Nat) (w : World) (hl : l.length = n) (hn : n ≤ 140737488355328) :
    Calls Try.prog 10 #[.string ⟨l.toArray⟩] w (RetBE w (unhL l) (unhE l)) := by
  have HL := Lib.hid hl
  have hsz : (⟨l.toArray⟩ : ByteArray).size = n := by
    show l.toArray.size = n
    simpa using hl
  by_cases hodd : n % 2 = 1
  · have E2 := Lib.hid (show unhE l = 2 by simp [unhE, hl, hodd])
    have E1 := Lib.hid (show unhL l = [] by simp [unhL, E2.out])
    have ht : (((n : Int) % 2) != 0) = true := by rw [bne_iff_ne]; omega
    clear hl hodd
    go_enter Try.func10, Try.ntmps10
    go_wp2
    go_ret2
    rw [E1.out, E2.out]
    exact RetBE.nil w 2
  · have ht : (((n : Int) % 2) != 0) = false := by rw [bne_eq_false_iff_eq]; omega
    obtain ⟨h2, hh2⟩ : ∃ h2, h2 = n / 2 := ⟨_, rfl⟩
    have hn2 : n = 2 * h2 := by omega
    subst hn2
    have hod : ¬ (l.length % 2 = 1) := by rw [hl]; omega
    have HOD := Lib.hid hod
    have hq : (2 * (h2 : Int)) / 2 = (h2 : Int) := by omega
    clear hl hodd hh2 hod
    go_enter Try.func10, Try.ntmps10
    go_wp2_with (at_make; refine wl_make0 TB rfl (.const (.int .i64 0)) (.tmp 15) rfl .i64 .i64 _ rfl rfl h2 ?m1 ?m2 ?m3 w.heap.size (Nat.le_refl _) ?m4)
    case m1 => first | rfl | omega
    case m2 => omega
    case m3 => omega
    case m4 =>
      intro w1 hown hg _
      have HO1 := Lib.hid hown
      have HB1 := Lib.hid (show Below w.heap.size w w1 from (Below.refl _ _).grown hg (Nat.le_refl _) (by simp))
      clear hown hg hq
      go_wp2
      go_loopw [4, 5, 6, 7, 8] (fun v i _ _ _ wr => ∃ (k g c' : Nat), k ≤ h2 ∧ i = .int .i64 (2 * (k : Int)) ∧ v = .slice (some ⟨g, 0, none⟩) k c' ∧ wr.ownsRow w.heap.size 5 1 (.slice (some ⟨g, 0, none⟩) k c') k (bv (unh l k)) ∧ Below w.heap.size w wr ∧ ∀ j, j < 2 * k → dgB (b8 l j) = true) (fun _ i _ _ _ _ => 2 * h2 - (intOf i).toNat)
      case atStart => exact ⟨0, _, _, by omega, rfl, rfl, HO1.out, HB1.out, fun j hj => absurd hj (by omega)⟩
      case round =>
        obtain ⟨k, g, c', hk, rfl, rfl, hown, hb, hall⟩ := hrel
        have HO := Lib.hid hown
        have HB := Lib.hid hb
        have HA := Lib.hid hall
        clear hown hb hall
        by_cases hlt : k < h2
        · have i1 := index_str l (2 * k) (by rw [HL.out]; omega)
          have i2 := index_str l (2 * k + 1) (by rw [HL.out]; omega)
          rw [bt_b8, show ((2 * k : Nat) : Int) = 2 * (k : Int) by omega] at i1
          rw [bt_b8, show ((2 * k + 1 : Nat) : Int) = 2 * (k : Int) + 1 by omega] at i2
          have q1 := b8_lt l (2 * k)
          have q2 := b8_lt l (2 * k + 1)
          have hz := HB.out.size
          go_wp2_with fail
          refine (digit_any _ _ (by omega) (by omega)).mono ?_
          rintro e w' ⟨rfl, rfl⟩
          rw [Int.toNat_natCast]
          have d1 := dgN_lt (b8 l (2 * k))
          rcases Bool.eq_false_or_eq_true (dgB (b8 l (2 * k))) with hd | hd
          · have HD1 := Lib.hid hd
            rw [hd]
            clear hd i1
            go_wp2_with fail
            refine (digit_any _ _ (by omega) (by omega)).mono ?_
            rintro e w' ⟨rfl, rfl⟩
            rw [Int.toNat_natCast]
            have d2 := dgN_lt (b8 l (2 * k + 1))
            rcases Bool.eq_false_or_eq_true (dgB (b8 l (2 * k + 1))) with hd | hd
            · have HD2 := Lib.hid hd
              rw [hd]
              have HU := Lib.hid (unh_succ l k)
              clear hd i2
              generalize dgN (b8 l (2 * k)) = x1 at *
              generalize dgN (b8 l (2 * k + 1)) = x2 at *
              go_wp2_with (at_builtin; refine wl_app TB rfl (.tmp 42) (.tmp 47) rfl (.slice (some ⟨g, 0, none⟩) k c') rfl (some ⟨wr.heap.size, 0, none⟩) 1 1 rfl w.heap.size k _ (HO.out.alloc _) (wr.heap.size + 1) [.int .u8 ((UInt8.ofNat (16 * x1 + x2)).toNat : Int)] ?c1 ?c2 ?c3 ?c4 ?c5 ?c6)
              case c1 => rw [← join_digits x1 x2 d1 d2]; exact Reads.lit wr _ [_] 1 1 rfl _ rfl
              case c2 => simp [Value.oneCell']
              case c3 => omega
              case c4 => omega
              case c5 => simp; omega
              case c6 =>
                intro A2 c2 w2 hown2 hg2 hat2
                have hA : ∃ g, A2 = some ⟨g, 0, none⟩ := by
                  rcases hat2 with h | h <;> exact ⟨_, own_some hown2 (h.trans rfl)⟩
                obtain ⟨g2, rfl⟩ := hA
                have HO2 := Lib.hid hown2
                have HB2 := Lib.hid ((HB.out.alloc HB.out.size _).grown hg2 (by simp; omega) (own_drop HO.out))
                clear hown2 hg2 hat2
                go_wp2
                refine ⟨⟨k + 1, g2, c2, by omega, by go_num, rfl, ?_, HB2.out, fun j hj => ?_⟩, by simp [intOf]; omega⟩
                · rw [HU.out, bv_append]
                  exact HO2.out
                · by_cases hj1 : j < 2 * k
                  · exact HA.out j hj1
                  · by_cases hj2 : j = 2 * k
                    · subst hj2; exact HD1.out
                    · obtain rfl : j = 2 * k + 1 := by omega
                      exact HD2.out
            · have hno := dgAll_no (by rw [HL.out]; omega) hd
              have E2 := Lib.hid (show unhE l = 3 by simp only [unhE]; rw [if_neg HOD.out, if_neg (by rw [hno]; decide)])
              have E1 := Lib.hid (show unhL l = [] by simp [unhL, E2.out])
              rw [hd]
              clear hd hno
              go_wp2
              go_ret2
              rw [E1.out, E2.out]
              exact ⟨none, 0, 0, rfl, rfl, World.ownsRow_nil _ _ _ _, HB.out⟩
          · have hno := dgAll_no (by rw [HL.out]; omega) hd
            have E2 := Lib.hid (show unhE l = 3 by simp only [unhE]; rw [if_neg HOD.out, if_neg (by rw [hno]; decide)])
            have E1 := Lib.hid (show unhL l = [] by simp [unhL, E2.out])
            rw [hd]
            clear hd hno
            go_wp2
            go_ret2
            rw [E1.out, E2.out]
            exact ⟨none, 0, 0, rfl, rfl, World.ownsRow_nil _ _ _ _, HB.out⟩
        · obtain rfl : k = h2 := by omega
          have hyes : dgAll l = true := dgAll_yes fun i hi => HA.out i (by rw [← HL.out]; exact hi)
          have E2 := Lib.hid (show unhE l = 0 by simp only [unhE]; rw [if_neg HOD.out, if_pos hyes])
          have E1 := Lib.hid (show unhL l = unh l k by simp only [unhL]; rw [if_pos E2.out, HL.out, Nat.mul_div_cancel_left _ (by decide)])
          clear hyes
          go_wp2
          go_ret2
          rw [E1.out, E2.out]
          exact ⟨_, k, c', rfl, length_unh l k, HO.out, HB.out⟩

/-- which number's digit it is -/
theorem hxd_dg {q : Nat} (h : q < 16) : dgB (hxd q).toNat = true ∧ dgN (hxd q).toNat = q := by
  have : q = 0 ∨ q = 1 ∨ q = 2 ∨ q = 3 ∨ q = 4 ∨ q = 5 ∨ q = 6 ∨ q = 7 ∨ q = 8 ∨ q = 9 ∨ q = 10 ∨ q = 11 ∨ q = 12 ∨ q = 13 ∨ q = 14 ∨ q = 15 := by omega
  rcases this with rfl | rfl | rfl | rfl | rfl | rfl | rfl | rfl | rfl | rfl | rfl | rfl | rfl | rfl | rfl | rfl <;> decide
set_option maxRecDepth 100000 in
theorem dg_hxd {c : Nat} (h : dgB c = true) : (hxd (dgN c)).toNat = c := by
  have hc : (48 ≤ c ∧ c ≤ 57) ∨ (97 ≤ c ∧ c ≤ 102) := by simpa [dgB] using h
  rcases hc with ⟨a, b⟩ | ⟨a, b⟩
  · have e : dgN c = c - 48 := by rw [dgN, if_pos ⟨a, b⟩]
    have := hxd_lo (n := dgN c) (by omega)
    omega
  · have e : dgN c = c - 87 := by rw [dgN, if_neg (by omega), if_pos ⟨a, b⟩]
    have := hxd_hi (n := dgN c) (by omega) (by omega)
    omega

end Go.Proofs.Ytobmopjfbgkfbaa
