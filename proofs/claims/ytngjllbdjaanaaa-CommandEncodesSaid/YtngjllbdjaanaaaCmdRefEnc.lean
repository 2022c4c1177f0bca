/-
  Contract of shallotref10.Encode: the bytes of a command in form, or the error of Check. Conditions: the fields fit their types.
-/
import Derived.Test.YtngjllbdjaanaaaCmdRef
namespace Go.Proofs.Ytngjllbdjaanaaa
open Go Go.RowKit Go.Sh

theorem putB_big (d v : Nat) : putB 2 d v = rowf d (fun i => pc v (d - 1 - i)) := by simp [putB]
theorem rowf_take (d k : Nat) (f : Nat → UInt8) (h : k < d) : (rowf d f).take (k + 1) = (rowf d f).take k ++ [f k] := by
  rw [List.take_succ_eq_append_getElem (by rw [length_rowf]; exact h)]
  simp [rowf]
theorem putB_next (d v p : Nat) (h : p < d) : (putB 2 d v).take (d - p) = (putB 2 d v).take (d - (p + 1)) ++ [pc v p] := by
  rw [putB_big, show d - p = (d - (p + 1)) + 1 by omega, rowf_take _ _ _ (by omega), show d - 1 - (d - (p + 1)) = p by omega]

set_option maxHeartbeats 1000000 in
theorem RefEncode_any (c : Cmd) (w : World) (hc : c.OK) : Calls Try.prog 17 #[c.v] w (RetBE w (encE c) (checkN c)) := by
  have HS := Lib.hid (fun W => RefCheck_any c W hc)
  have HN := Lib.hid (cmd_new w c 28)
  have HZ := Lib.hid hc.size
  have HC := Lib.hid hc
  unfold encE
  generalize checkN c = n at HS ⊢
  generalize hm : (if n = 0 then encL c else []) = m
  unfold Cmd.v at HS ⊢
  generalize hcs : c.cells.toArray = cs at *
  have HR := Lib.hid HN.out.r
  have hi : (Try.prog.info? 28).map (·.size) = some c.cells.length := by rw [HZ.out]; kernel_rfl
  have HI := Lib.hid hi
  clear hi hc
  go_enter Try.func17, Try.ntmps17
  go_wp2_with (refine wpList_load_mid rfl 28 _ rfl w.heap.size 0 rfl c.cells _ HR.out Try.underlying28 rfl HI.out ?_; rw [hcs])
  refine (HS.out _).mono ?_
  rintro e w1 ⟨rfl, hb⟩
  have HA := Lib.hid (HN.out.below hb (by simp))
  have HB := Lib.hid (((Below.refl w.heap.size w).alloc (Nat.le_refl _) _).trans (hb.mono (by simp)))
  have hsz : w.heap.size + 1 ≤ w1.heap.size := by simpa using hb.size
  clear hb HN HR HS
  by_cases h0 : n = 0
  · subst h0
    rw [if_pos rfl] at hm
    have HM := Lib.hid hm
    clear hm
    have hd := HC.out.d
    have hx := HC.out.x
    have a0 := HA.out.k
    have a1 := HA.out.f
    obtain ⟨dn, hdn⟩ := Int.eq_ofNat_of_zero_le hd.1
    obtain ⟨xn, hxn⟩ := Int.eq_ofNat_of_zero_le hx.1
    have HA' := Lib.hid (show w1.cell? ⟨w.heap.size, 2, none⟩ = some (.int .u32 (dn : Int)) by rw [← hdn]; exact HA.out.d)
    have HA'' := Lib.hid (show w1.cell? ⟨w.heap.size, 3, none⟩ = some (.int .u64 (xn : Int)) by rw [← hxn]; exact HA.out.x)
    rw [hdn] at hd
    rw [hxn] at hx
    have HD := Lib.hid hdn
    have HX := Lib.hid hxn
    have HH := Lib.hid (head_reads w1 c HC.out _ rfl)
    have HHO := Lib.hid (show (w1.alloc (.cells #[.int .u8 c.k, .int .u8 c.f] 5)).ownsRow w1.heap.size 5 1 (.slice (some ⟨w1.heap.size, 0, none⟩) 2 2) 2 (bv [byI c.k, byI c.f]) by
      have h := World.ownsRow_lit (base := w1.heap.size) (e := 5) (size := 1) w1 #[.int .u8 c.k, .int .u8 c.f] 2 (Nat.le_refl _) (by decide) rfl
      have e : bv [byI c.k, byI c.f] = [.int .u8 c.k, .int .u8 c.f] := by
        have h := HC.out.k
        have h' := HC.out.f
        simp [bv, byI]
        omega
      rw [e]
      exact h)
    clear hdn hxn
    generalize hh : [byI c.k, byI c.f] = hd2 at *
    have HHD := Lib.hid hh
    have HHL := Lib.hid (show hd2.length = 2 by rw [← hh]; rfl)
    clear hh
    go_wp2_with fail
    generalize hb0 : w.heap.size = b0 at *
    have HB0 := Lib.hid hb0
    generalize hW : w1.alloc (.cells #[.int .u8 c.k, .int .u8 c.f] 5) = W1 at *
    generalize hg1 : w1.heap.size = g1 at *
    have hz1 : W1.heap.size = g1 + 1 := by rw [← hW, ← hg1]; simp
    have HBW := Lib.hid (show Below g1 w1 W1 by rw [← hW, ← hg1]; exact (Below.refl _ _).alloc (Nat.le_refl _) _)
    clear hb0 hW a0 a1
    go_loopw [5, 6] (fun v i wr => ∃ (q n : Nat) (Ao : Option Addr) (c' : Nat), q ≤ 4 ∧ n + q ≤ 6 ∧ i = .int .i64 ((q : Int) - 1) ∧ v = .slice Ao n c' ∧ wr.ownsRow g1 5 1 (.slice Ao n c') n (bv (hd2 ++ (putB 2 4 dn).take (4 - q))) ∧ Below g1 w1 wr) (fun _ i _ => ((intOf i) + 1).toNat)
    case atStart => exact ⟨4, 2, _, 2, by omega, by omega, rfl, rfl, by rw [Nat.sub_self, List.take_zero, List.append_nil]; exact HHO.out, HBW.out⟩
    case round =>
      obtain ⟨q, n, Ao, c', hq, hn, rfl, rfl, hown, hb⟩ := hrel
      have HO := Lib.hid hown
      have HBr := Lib.hid hb
      have hzr := hb.size
      have a2 := (HBr.out.cell (p := ⟨b0, 2, none⟩) (by show b0 < g1; omega)).trans HA'.out
      clear hown hb
      rcases q with _ | p
      · rw [show (((0 : Nat) : Int) - 1) = -1 from rfl]
        have HO1 := Lib.hid (show wr.ownsRow g1 5 1 (.slice Ao n c') n (bv (hd2 ++ putB 2 4 dn)) by
          have h := HO.out
          rw [Nat.sub_zero, List.take_of_length_le (by rw [length_putB]; omega)] at h
          exact h)
        clear HO
        go_wp2_with fail
        clear a2
        go_loopw [5, 7] (fun v i ws => ∃ (q n : Nat) (Ao : Option Addr) (c' : Nat), q ≤ 8 ∧ n + q ≤ 14 ∧ i = .int .i64 ((q : Int) - 1) ∧ v = .slice Ao n c' ∧ ws.ownsRow g1 5 1 (.slice Ao n c') n (bv ((hd2 ++ putB 2 4 dn) ++ (putB 2 8 xn).take (8 - q))) ∧ Below g1 w1 ws) (fun _ i _ => ((intOf i) + 1).toNat)
        case atStart => exact ⟨8, n, _, c', by omega, by omega, rfl, rfl, by rw [Nat.sub_self, List.take_zero, List.append_nil]; exact HO1.out, HBr.out⟩
        case round =>
          clear HO1 HBr hn hzr hq
          obtain ⟨q, n, Ao, c', hq, hn, rfl, rfl, hown, hb⟩ := hrel
          have HO := Lib.hid hown
          have HBr := Lib.hid hb
          have hzr := hb.size
          have a2 := (HBr.out.cell (p := ⟨b0, 3, none⟩) (by show b0 < g1; omega)).trans HA''.out
          clear hown hb
          rcases q with _ | p
          · rw [show (((0 : Nat) : Int) - 1) = -1 from rfl]
            have HO1 := Lib.hid (show wr.ownsRow g1 5 1 (.slice Ao n c') n (bv ((hd2 ++ putB 2 4 dn) ++ putB 2 8 xn)) by
              have h := HO.out
              rw [Nat.sub_zero, List.take_of_length_le (by rw [length_putB]; omega)] at h
              exact h)
            clear HO a2
            have HMK := Lib.hid (mark_reads HC.out (HA.out.below HBr.out (by omega)) g1 (by omega))
            go_wp2_with (at_builtin; refine wl_app TB rfl (.tmp 44) (.tmp 46) rfl _ rfl (some ⟨b0, 4, none⟩) 16 16 rfl g1 n _ HO1.out g1 _ HMK.out (bv_one _) (by omega) (by omega) (by omega) ?h7)
            intro A2 c2 w2 hown2 hg2 hat2
            rw [← bv_append] at hown2
            have HO2 := Lib.hid hown2
            have HB2 := Lib.hid (HBr.out.grown hg2 (by omega) (own_drop HO1.out))
            have hz2 := hg2.size
            clear hown2 hg2 hat2
            go_wp2_with (at_builtin; refine wl_app TB rfl (.tmp 48) (.tmp 49) rfl _ rfl (some ⟨w2.heap.size, 0, none⟩) 2 2 rfl g1 (n + 16) _ (HO2.out.alloc _) (w2.heap.size + 1) _ (Reads.lit w2 _ [.int .u8 0, .int .u8 0] 2 1 rfl _ rfl) (by simp [Value.oneCell']) (by omega) (by omega) (by simp; omega) ?h8)
            intro A3 c3 w3 hown3 hg3 hat3
            rw [show ([.int .u8 0, .int .u8 0] : List Value) = bv [0, 0] from rfl, ← bv_append] at hown3
            have HB3 := Lib.hid ((HB2.out.alloc (by omega) _).grown hg3 (by simp; omega) (own_drop HO2.out))
            have e : hd2 ++ (putB 2 4 dn ++ (putB 2 8 xn ++ c.m.map byI)) ++ [0, 0] = m := by
              rw [← HM.out, ← HHD.out]
              unfold encL
              rw [HD.out, HX.out, Int.toNat_natCast, Int.toNat_natCast]
              simp
            rw [e] at hown3
            have HO3 := Lib.hid hown3
            clear hown3 hg3 hat3 e
            go_wp2_with fail
            go_ret2
            refine ⟨A3, n + 16 + 2, c3, rfl, ?_, ?_, ?_⟩
            · have h := HO3.out.1
              rw [length_bv] at h
              omega
            · rw [HB0.out]
              exact own_base HO3.out (by omega)
            · rw [HB0.out]
              exact HB.out.trans (HB3.out.mono (by omega))
          · rw [show (((p + 1 : Nat) : Int) - 1) = (p : Int) by omega]
            have hp : p ≤ 7 := by omega
            go_wp2_with (at_builtin; refine wl_app TB rfl (.tmp 35) (.tmp 42) rfl _ rfl (some ⟨wr.heap.size, 0, none⟩) 1 1 rfl g1 n _ (HO.out.alloc _) (wr.heap.size + 1) _ (Reads.lit wr _ [.int .u8 ((xn : Int) / 2 ^ (8 * p) % 256)] 1 1 rfl _ rfl) (by simp [Value.oneCell']) (by omega) (by omega) (by simp; omega) ?h6)
            intro A2 c2 w2 hown2 hg2 hat2
            have HO2 := Lib.hid hown2
            have HB2 := Lib.hid ((HBr.out.alloc (by omega) _).grown hg2 (by simp; omega) (own_drop HO.out))
            clear hown2 hg2 hat2 a2
            go_wp2_with fail
            refine ⟨⟨p, n + 1, A2, c2, by omega, by omega, by go_num, rfl, ?_, HB2.out⟩, by simp [intOf]⟩
            rw [putB_next 8 xn p (by omega), ← List.append_assoc, bv_append, List.append_assoc, show 8 - (p + 1) = 7 - p by omega]
            have h := HO2.out
            rw [piece_wrap] at h
            exact h
      · rw [show (((p + 1 : Nat) : Int) - 1) = (p : Int) by omega]
        have hp : p ≤ 3 := by omega
        go_wp2_with (at_builtin; refine wl_app TB rfl (.tmp 22) (.tmp 29) rfl _ rfl (some ⟨wr.heap.size, 0, none⟩) 1 1 rfl g1 n _ (HO.out.alloc _) (wr.heap.size + 1) _ (Reads.lit wr _ [.int .u8 ((dn : Int) / 2 ^ (8 * p) % 256)] 1 1 rfl _ rfl) (by simp [Value.oneCell']) (by omega) (by omega) (by simp; omega) ?h9)
        intro A2 c2 w2 hown2 hg2 hat2
        have HO2 := Lib.hid hown2
        have HB2 := Lib.hid ((HBr.out.alloc (by omega) _).grown hg2 (by simp; omega) (own_drop HO.out))
        clear hown2 hg2 hat2 a2
        go_wp2_with fail
        refine ⟨⟨p, n + 1, A2, c2, by omega, by omega, by go_num, rfl, ?_, HB2.out⟩, by simp [intOf]⟩
        rw [putB_next 4 dn p (by omega), ← List.append_assoc, bv_append, show 4 - (p + 1) = 3 - p by omega]
        have h := HO2.out
        rw [piece_wrap] at h
        exact h
  · rw [if_neg h0] at hm
    subst hm
    go_wp2_with fail
    go_ret2
    exact ⟨none, 0, 0, by simp, rfl, World.ownsRow_nil _ _ _ _, HB.out⟩
end Go.Proofs.Ytngjllbdjaanaaa
