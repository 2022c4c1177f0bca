/-
  Contracts of codec.Hex, codec.Unhex, shallotref01.Hex, shallotref01.Unhex and their helpers.
-/
import Derived.Test.YtobmopjfbgkfbaaCopy
import Derived.StillTailTactics
import Derived.Deep.RegionHeld3
namespace Go.Proofs.Ytobmopjfbgkfbaa
open Go Go.RowKit Go.Sh

/-- the digit of a number below 16 -/
def hxd (n : Nat) : UInt8 := if n < 10 then UInt8.ofNat (48 + n) else UInt8.ofNat (87 + n)
/-- two digits a byte -/
def hexL (l : List UInt8) : List UInt8 := l.flatMap fun b => [hxd (b.toNat / 16), hxd (b.toNat % 16)]

theorem hexL_succ {l : List UInt8} {k : Nat} (h : k < l.length) : hexL (l.take (k + 1)) = hexL (l.take k) ++ [hxd ((l.getD k 0).toNat / 16), hxd ((l.getD k 0).toNat % 16)] := by
  rw [List.take_succ_eq_append_getElem h, hexL, List.flatMap_append]
  simp [hexL, h]
theorem length_hexL (l : List UInt8) : (hexL l).length = 2 * l.length := by
  induction l with
  | nil => rfl
  | cons x l ih =>
    have : hexL (x :: l) = [hxd (x.toNat / 16), hxd (x.toNat % 16)] ++ hexL l := by simp [hexL]
    rw [this, List.length_append, ih]
    simp
    omega

set_option maxRecDepth 100000 in
/-- the table of digits, asked at a number below 16 -/
theorem digit_at (m : Nat) (hm : m < 16) (W : World) : (Instr.index 9 (.string { data := #[48, 49, 50, 51, 52, 53, 54, 55, 56, 57, 97, 98, 99, 100, 101, 102] }) (.int .u8 (m : Int))).run Try.prog W = .ok (.int .u8 ((hxd m).toNat : Int)) W := by
  have h : m = 0 ∨ m = 1 ∨ m = 2 ∨ m = 3 ∨ m = 4 ∨ m = 5 ∨ m = 6 ∨ m = 7 ∨ m = 8 ∨ m = 9 ∨ m = 10 ∨ m = 11 ∨ m = 12 ∨ m = 13 ∨ m = 14 ∨ m = 15 := by omega
  rcases h with rfl | rfl | rfl | rfl | rfl | rfl | rfl | rfl | rfl | rfl | rfl | rfl | rfl | rfl | rfl | rfl
  all_goals (show Sem.run _ _ _ = _; kernel_rfl)

set_option maxRecDepth 100000 in
theorem Hex_any (A : Option Addr) (n c : Nat) (l : List UInt8) (w : World) (B : Nat) (hr : RB w B A n l) (hB : B ≤ w.heap.size) (hn : n ≤ 1048576) :
    Calls Try.prog 11 #[.slice A n c] w (fun e w' => e = .returned (.string ⟨(hexL l).toArray⟩) ∧ Below w.heap.size w w') := by
  have HL := Lib.hid hr.len
  have HR := Lib.hid hr
  clear hr
  go_enter Try.func11, Try.ntmps11
  go_wp2_with (at_make; refine wl_make0 TB rfl (.const (.int .i64 0)) (.tmp 8) rfl .i64 .i64 _ rfl rfl (2 * n) ?m1 ?m2 ?m3 w.heap.size (Nat.le_refl _) ?m4)
  case m1 => omega
  case m2 => omega
  case m3 => omega
  case m4 =>
    intro w1 hown hg _
    have HO1 := Lib.hid hown
    have HB1 := Lib.hid (show Below w.heap.size w w1 from (Below.refl _ _).grown hg (Nat.le_refl _) (by simp))
    clear hown hg
    go_wp2
    go_loopw [3, 5, 12] (fun v _ i wr => ∃ (k g c' : Nat), k ≤ n ∧ i = .int .i64 k ∧ v = .slice (some ⟨g, 0, none⟩) (2 * k) c' ∧ wr.ownsRow w.heap.size 5 1 (.slice (some ⟨g, 0, none⟩) (2 * k) c') (2 * k) (bv (hexL (l.take k))) ∧ Below w.heap.size w wr) (fun _ _ i _ => n - (intOf i).toNat)
    case atStart => exact ⟨0, _, _, by omega, rfl, rfl, HO1.out, HB1.out⟩
    case round =>
      obtain ⟨k, g, c', hk, rfl, rfl, hown, hb⟩ := hrel
      have HO := Lib.hid hown
      have HB := Lib.hid hb
      clear hown hb
      by_cases hlt : k < n
      · obtain ⟨ad, rfl, hab, hc⟩ := HR.out.at_ hlt
        have hcw := (HB.out.cell (p := ad.add k) (by rw [block_of_add]; omega)).trans hc
        have hz := HB.out.size
        have b1 := bt_lo l k
        have b2 := bt_hi l k
        clear hc
        generalize hx : bt l k = x at *
        obtain ⟨xn, rfl⟩ := Int.eq_ofNat_of_zero_le b1
        have i1 : ∀ W, (Instr.index 9 (.string { data := #[48, 49, 50, 51, 52, 53, 54, 55, 56, 57, 97, 98, 99, 100, 101, 102] }) (.int .u8 ((xn : Int) / 16))).run Try.prog W = .ok (.int .u8 ((hxd (xn / 16)).toNat : Int)) W := fun W => by
          have := digit_at (xn / 16) (by omega) W
          rwa [show ((xn / 16 : Nat) : Int) = (xn : Int) / 16 by omega] at this
        have i2 : ∀ W, (Instr.index 9 (.string { data := #[48, 49, 50, 51, 52, 53, 54, 55, 56, 57, 97, 98, 99, 100, 101, 102] }) (.int .u8 (bits BinOp.and IntKind.u8 (xn : Int) 15))).run Try.prog W = .ok (.int .u8 ((hxd (xn % 16)).toNat : Int)) W := fun W => by
          rw [u8_and15 _ (by omega) (by omega)]
          have := digit_at (xn % 16) (by omega) W
          rwa [show ((xn % 16 : Nat) : Int) = (xn : Int) % 16 by omega] at this
        have hxb : (l.getD k 0).toNat = xn := by
          unfold bt at hx
          omega
        obtain ⟨h1, hh1⟩ : ∃ h1, h1 = hxd (xn / 16) := ⟨_, rfl⟩
        obtain ⟨h2, hh2⟩ : ∃ h2, h2 = hxd (xn % 16) := ⟨_, rfl⟩
        rw [← hh1] at i1
        rw [← hh2] at i2
        have HX1 := Lib.hid (show hxd ((l.getD k 0).toNat / 16) = h1 by rw [hxb, hh1])
        have HX2 := Lib.hid (show hxd ((l.getD k 0).toNat % 16) = h2 by rw [hxb, hh2])
        clear hxb hh1 hh2 hx
        go_wp2
        go_region_held3 (fun _ => True) (trivial) ((refine step_app TB (by rfl) (.tmp 16) (.tmp 23) (by rfl) (.slice (some ⟨g, 0, none⟩) (2 * k) c') (by rfl) (some ⟨wr.heap.size, 0, none⟩) 2 2 (by rfl) w.heap.size (2 * k) _ (by exact HO.out.alloc _) (wr.heap.size + 1) [.int .u8 (h1.toNat : Int), .int .u8 (h2.toNat : Int)] (by exact Reads.lit wr _ [.int .u8 (h1.toNat : Int), .int .u8 (h2.toNat : Int)] 2 1 rfl _ rfl) (by simp [Value.oneCell']) (by omega) (by omega) (by simp; omega) ?_; intro A2 c2 w2 hown2 hg2 hat2))
        all_goals
          have hA : ∃ g, A2 = some ⟨g, 0, none⟩ := by
            rcases hat2 with h | h <;> exact ⟨_, own_some hown2 (h.trans rfl)⟩
          obtain ⟨g2, rfl⟩ := hA
          have HO2 := Lib.hid hown2
          have HB2 := Lib.hid ((HB.out.alloc HB.out.size _).drew.grown hg2 (by simp; omega) (own_drop HO.out))
          clear hown2 hg2 hat2 i1 i2
          go_wp2
          refine ⟨⟨k + 1, g2, c2, by omega, by go_num, rfl, ?_, HB2.out⟩, by simp [intOf]; omega⟩
          rw [hexL_succ (by rw [HL.out]; exact hlt), bv_append, HX1.out, HX2.out]
          exact HO2.out
      · obtain rfl : k = n := by omega
        have hfin := HO.out
        rw [List.take_of_length_le (by rw [HL.out]; exact Nat.le_refl _)] at hfin
        have HF := Lib.hid hfin
        clear hfin
        go_wp2_with (with_reducible refine wl_str Try.underlying26 Try.underlying5 Try.underlying9 rfl (.tmp 26) rfl (some ⟨g, 0, none⟩) (2 * k) c' rfl wr.heap.size (hexL l) (RB.of_own HF.out) ?_)
        go_ret
        exact ⟨rfl, HB.out⟩

theorem hxd_lo {n : Nat} (h : n < 10) : ((hxd n).toNat : Int) = 48 + (n : Int) := by
  unfold hxd
  rw [if_pos h]
  simp
  omega
theorem hxd_hi {n : Nat} (h : ¬ n < 10) (h2 : n < 16) : ((hxd n).toNat : Int) = 87 + (n : Int) := by
  unfold hxd
  rw [if_neg h]
  simp
  omega

end Go.Proofs.Ytobmopjfbgkfbaa
