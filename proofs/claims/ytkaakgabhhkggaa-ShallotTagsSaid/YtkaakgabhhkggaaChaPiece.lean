/-
  Contracts of chacha.piece and chacha.Stream: the stream's bytes in new memory. Conditions of piece: a key of 32 bytes, a place and a length within the longest stream.
-/
import Derived.Test.YtkaakgabhhkggaaChaBlk
namespace Go.Proofs.Ytkaakgabhhkggaa
open Go Go.RowKit Go.Sh

theorem sbytes_add (key : List UInt8) (a k m : Nat) (hm : m ≤ 64 - (a + k) % 64) : sbytes key a (k + m) = sbytes key a k ++ ((blk key (zs 12) (((a + k) / 64 : Nat) : Int)).drop ((a + k) % 64)).take m := by
  have hb := length_blk key (zs 12) (((a + k) / 64 : Nat) : Int)
  apply List.ext_getElem
  · simp only [List.length_append, length_sbytes, List.length_take, List.length_drop, hb]
    omega
  · intro i h1 h2
    rw [length_sbytes] at h1
    by_cases hi : i < k
    · rw [List.getElem_append_left (by rw [length_sbytes]; exact hi)]
      simp [sbytes, rowf]
    · rw [List.getElem_append_right (by rw [length_sbytes]; omega)]
      simp only [sbytes, rowf, List.getElem_map, List.getElem_range, List.getElem_take, List.getElem_drop, List.length_map, List.length_range]
      unfold strm
      have e1 : (a + i) / 64 = (a + k) / 64 := by omega
      have e2 : (a + i) % 64 = (a + k) % 64 + (i - k) := by omega
      rw [e1, e2]
      have hl : (a + k) % 64 + (i - k) < (blk key (zs 12) (((a + k) / 64 : Nat) : Int)).length := by rw [hb]; omega
      simp only [List.getD_eq_getElem?_getD, List.getElem?_eq_getElem hl, Option.getD_some]

set_option maxRecDepth 100000 in
set_option maxHeartbeats 2000000 in
theorem piece_any (A : Option Addr) (c : Nat) (key : List UInt8) (a n : Nat) (w : World) (B : Nat) (hk : RB w B A 32 key) (hB : B ≤ w.heap.size) (han : a + n ≤ 65536) :
    Calls Try.prog 46 #[.slice A 32 c, .int .i64 (a : Int), .int .i64 (n : Int)] w (RetB w n (sbytes key a n)) := by
  have HK := Lib.hid hk
  clear hk
  go_enter Try.func46, Try.ntmps46
  go_wp2_with (at_make; refine wl_makeB TB rfl (.const (.int .i64 12)) (.const (.int .i64 12)) rfl .i64 .i64 _ _ rfl rfl 12 rfl rfl (by omega) w.heap.size (Nat.le_refl _) ?m5)
  case m5 =>
    intro w1 hown hg hlt
    have HN := Lib.hid (RB.of_own hown)
    have HB1 := Lib.hid (show Below w.heap.size w w1 from (Below.refl _ _).grown hg (Nat.le_refl _) (by simp))
    clear hown hg
    go_wp2_with (at_make; refine wl_make0 TB rfl (.const (.int .i64 0)) (.tmp 12) rfl .i64 .i64 _ rfl rfl n rfl (by omega) (by omega) w1.heap.size (Nat.le_refl _) ?m6)
    case m6 =>
      intro w2 hown hg hlt2
      have HO := Lib.hid hown
      have HN2 := Lib.hid (HN.out.below ((Below.refl _ _).grown hg (Nat.le_refl _) (by simp)))
      have HB2 := Lib.hid (HB1.out.grown hg (Nat.le_of_lt hlt) (by simp))
      clear hown hg HN HB1
      obtain ⟨g1, hg1⟩ : ∃ g1, w1.heap.size = g1 := ⟨_, rfl⟩
      rw [hg1] at HO HN2 hlt2 hlt ⊢
      generalize hgw : w.heap.size = g at *
      have HG := Lib.hid hgw
      clear hgw hg1
      go_wp2_with fail
      go_loopw [1, 8] (fun p v wr => ∃ (k : Nat) (g2 : Nat) (c2 : Nat), k ≤ n ∧ p = .int .i64 ((a + k : Nat) : Int) ∧ v = .slice (some ⟨g2, 0, none⟩) k c2 ∧ wr.ownsRow g1 5 1 (.slice (some ⟨g2, 0, none⟩) k c2) k (bv (sbytes key a k)) ∧ RB wr g1 (some ⟨g, 0, none⟩) 12 (zs 12) ∧ Below g w wr ∧ g1 ≤ wr.heap.size) (fun p _ _ => a + n - (intOf p).toNat)
      case atStart => exact ⟨0, g1, n, by omega, rfl, rfl, HO.out, HN2.out, HB2.out, by omega⟩
      case round =>
        obtain ⟨k, g2, c2, hk, rfl, rfl, o, r, b, hsz⟩ := hrel
        have O := Lib.hid o
        have R := Lib.hid r
        have B2 := Lib.hid b
        clear o r b HO HN2 HB2
        by_cases hlt3 : k < n
        · obtain ⟨p, hp⟩ : ∃ p, a + k = p := ⟨_, rfl⟩
          have HP := Lib.hid hp
          rw [hp]
          obtain ⟨q, hq⟩ : ∃ q, p / 64 = q := ⟨_, rfl⟩
          obtain ⟨m, hm⟩ : ∃ m, p % 64 = m := ⟨_, rfl⟩
          have hm64 : m < 64 := by omega
          have hq32 : q ≤ 1024 := by omega
          have hdiv : (p : Int).tdiv 64 = (q : Int) := by rw [Int.tdiv_eq_ediv_of_nonneg (by omega)]; omega
          have hmod : (p : Int).tmod 64 = (m : Int) := by rw [Int.tmod_eq_emod_of_nonneg (by omega)]; omega
          have HADD := Lib.hid (fun x (hx : x ≤ 64 - m) => sbytes_add key a k x (by rw [hp, hm]; exact hx))
          rw [hp, hm, hq] at HADD
          clear hp
          go_wp2_with fail
          refine (Block_ok A (some ⟨g, 0, none⟩) c 12 key (zs 12) (q : Int) wr g1 (HK.out.below (B2.out.mono (by omega)) |>.more (by omega)) R.out hsz ⟨by omega, by omega⟩).mono ?_
          rintro e w3 ⟨Ab, nb, cb, rfl, hnb, hob, hbb⟩
          rw [length_blk] at hnb
          subst hnb
          obtain ⟨A1, hA1⟩ : ∃ A1, (if cb = m then Ab else Ab.map (·.add (m * 1))) = A1 := ⟨_, rfl⟩
          have hcb := own_cap hob
          have hrb := Reads.cut (RB.of_own hob) (k := m) (cap := cb) (by omega) hcb
          rw [hA1] at hrb
          have hrun1 : ∀ W, (Instr.slice 22 (.slice Ab 64 cb) (some (.int .i64 (m : Int))) none none).run Try.prog W = .ok (.slice A1 (64 - m) (cb - m)) W := fun W => by rw [run_sl_lo TB W Ab 64 cb .i64 m (by omega), hA1]
          have hrun2 : n - k ≤ cb - m → ∀ W, (Instr.slice 22 (.slice A1 (64 - m) (cb - m)) none (some (.int .i64 ((n : Int) - (k : Int)))) none).run Try.prog W = .ok (.slice A1 (n - k) (cb - m)) W := fun h W => by
            have := run_sl_hi TB W A1 (64 - m) (cb - m) .i64 (n - k) h
            rw [show ((n - k : Nat) : Int) = (n : Int) - (k : Int) by omega] at this
            exact this
          have O3 := Lib.hid (own_later O.out hbb)
          have R3n := Lib.hid (R.out.below (hbb.mono hsz))
          have B3 := Lib.hid (B2.out.trans (hbb.mono (by omega)))
          have hsz3 : g1 ≤ w3.heap.size := Nat.le_trans hsz hbb.size
          have RC := Lib.hid (show RB w3 w3.heap.size A1 (64 - m) ((blk key (zs 12) (q : Int)).drop m) by
            have h := hrb
            rw [Nat.mul_one] at h
            unfold RB bv
            rw [List.map_drop]
            exact h)
          clear hA1 hrb hob hbb O R B2
          have h64 : ((64 - m : Nat) : Int) = 64 - (m : Int) := by omega
          by_cases hcut : n - k < 64 - m
          · have hcut' : (n : Int) - (k : Int) < 64 - (m : Int) := by omega
            have hr2 := hrun2 (by omega)
            have R3 := Lib.hid (RC.out.take (k := n - k) (by omega))
            clear hrun2
            go_wp2_with (at_builtin; refine wl_app TB rfl (.tmp 44) (.tmp 45) rfl _ rfl A1 (n - k) _ rfl g1 k _ O3.out w3.heap.size (bv (((blk key (zs 12) (q : Int)).drop m).take (n - k))) R3.out (bv_one _) (by omega) (by omega) hsz3 ?q6)
            case q6 =>
              intro A4 c4 w4 hown hgr hat
              rw [← bv_append, ← HADD.out (n - k) (by omega)] at hown
              have ekn : k + (n - k) = n := by omega
              simp only [ekn] at hown ⊢
              have hA : ∃ g4, A4 = some ⟨g4, 0, none⟩ := by
                rcases hat with h | h <;> exact ⟨_, own_some hown (h.trans rfl)⟩
              obtain ⟨g4, rfl⟩ := hA
              have O4 := Lib.hid hown
              have N4 := Lib.hid (R3n.out.below ((Below.refl g1 w3).grown hgr hsz3 (own_drop O3.out)))
              have B4 := Lib.hid (B3.out.grown hgr (by omega) (fun x hx => by have := own_drop O3.out x hx; omega))
              have hsz4 : g1 ≤ w4.heap.size := Nat.le_trans hsz3 hgr.size
              clear hown hgr hat
              go_wp2_with fail
              have hpk : p + (n - k) = a + n := by have := HP.out; omega
              refine ⟨⟨n, g4, c4, by omega, ?_, rfl, O4.out, N4.out, B4.out, hsz4⟩, ?_⟩
              · rw [← hpk]
                go_num
              · have := HP.out
                simp [intOf]
                omega
          · have hcut' : ¬ ((n : Int) - (k : Int) < 64 - (m : Int)) := by omega
            have R3 := Lib.hid (show RB w3 w3.heap.size A1 (64 - m) (((blk key (zs 12) (q : Int)).drop m).take (64 - m)) by
              rw [List.take_of_length_le (by rw [List.length_drop, length_blk]; omega)]
              exact RC.out)
            clear hrun2
            go_wp2_with (at_builtin; refine wl_app TB rfl (.tmp 44) (.tmp 45) rfl _ rfl A1 (64 - m) _ rfl g1 k _ O3.out w3.heap.size (bv (((blk key (zs 12) (q : Int)).drop m).take (64 - m))) R3.out (bv_one _) (by omega) (by omega) hsz3 ?q6)
            case q6 =>
              intro A4 c4 w4 hown hgr hat
              rw [← bv_append, ← HADD.out (64 - m) (by omega)] at hown
              have hA : ∃ g4, A4 = some ⟨g4, 0, none⟩ := by
                rcases hat with h | h <;> exact ⟨_, own_some hown (h.trans rfl)⟩
              obtain ⟨g4, rfl⟩ := hA
              have O4 := Lib.hid hown
              have N4 := Lib.hid (R3n.out.below ((Below.refl g1 w3).grown hgr hsz3 (own_drop O3.out)))
              have B4 := Lib.hid (B3.out.grown hgr (by omega) (fun x hx => by have := own_drop O3.out x hx; omega))
              have hsz4 : g1 ≤ w4.heap.size := Nat.le_trans hsz3 hgr.size
              clear hown hgr hat
              go_wp2_with fail
              have hpk : p + (64 - m) = a + (k + (64 - m)) := by have := HP.out; omega
              refine ⟨⟨k + (64 - m), g4, c4, by omega, ?_, rfl, O4.out, N4.out, B4.out, hsz4⟩, ?_⟩
              · rw [← hpk]
                go_num
              · have := HP.out
                simp [intOf]
                omega
        · obtain rfl : k = n := by omega
          have hlt3' : ¬ (k : Int) < (k : Int) := by omega
          go_wp2_with fail
          go_ret
          refine ⟨g2, c2, rfl, ?_, ?_⟩
          · rw [HG.out]
            exact own_base O.out (by omega)
          · rw [HG.out]
            exact B2.out

def strE (kl : Nat) (n : Int) : Int := if n < 0 ∨ 65536 < n then 1 else if kl = 32 then 0 else 2
def strL (key : List UInt8) (kl : Nat) (n : Int) : List UInt8 := if strE kl n = 0 then sbytes key 0 n.toNat else []
set_option maxRecDepth 100000 in
theorem Stream_any (A : Option Addr) (kl c : Nat) (key : List UInt8) (n : Int) (w : World) (B : Nat) (hk : RB w B A kl key) (hB : B ≤ w.heap.size) :
    Calls Try.prog 65 #[.slice A kl c, .int .i64 n] w (RetBE w (strL key kl n) (strE kl n)) := by
  have HK := Lib.hid hk
  clear hk
  by_cases h1 : n < 0 ∨ 65536 < n
  · have e1 : strE kl n = 1 := by unfold strE; rw [if_pos h1]
    have e2 : strL key kl n = [] := by unfold strL; rw [e1]; rfl
    rw [e1, e2]
    have h1' : n < 0 ∨ (¬ n < 0 ∧ 65536 < n) := by omega
    rcases h1' with h | ⟨h, h'⟩
    · go_enter Try.func65, Try.ntmps65
      go_wp2
      go_ret2
      exact RetBE.nil w 1
    · go_enter Try.func65, Try.ntmps65
      go_wp2
      go_ret2
      exact RetBE.nil w 1
  · have h2 : 0 ≤ n := by omega
    have h3 : n ≤ 65536 := by omega
    by_cases h4 : kl = 32
    · have e1 : strE kl n = 0 := by unfold strE; rw [if_neg h1, if_pos h4]
      have e2 : strL key kl n = sbytes key 0 n.toNat := by unfold strL; rw [e1]; rfl
      rw [e1, e2]
      subst h4
      obtain ⟨m, rfl⟩ := Int.eq_ofNat_of_zero_le h2
      clear h1 e1 e2
      rw [Int.toNat_natCast]
      go_enter Try.func65, Try.ntmps65
      go_wp2_with fail
      refine (piece_any A c key 0 m w B HK.out hB (by omega)).mono ?_
      rintro e w1 ⟨g, c1, rfl, ho, hb⟩
      have HO := Lib.hid ho
      have HB := Lib.hid hb
      clear ho hb
      go_wp2_with fail
      go_ret2
      exact ⟨_, m, c1, rfl, length_sbytes _ _ _, HO.out, HB.out⟩
    · have e1 : strE kl n = 2 := by unfold strE; rw [if_neg h1, if_neg h4]
      have e2 : strL key kl n = [] := by unfold strL; rw [e1]; rfl
      rw [e1, e2]
      have h5 : ((kl : Int) != 32) = true := by rw [bne_iff_ne]; omega
      have h6 : ¬ n < 0 := by omega
      have h7 : ¬ 65536 < n := by omega
      clear h1 e1 e2
      go_enter Try.func65, Try.ntmps65
      go_wp2
      go_ret2
      exact RetBE.nil w 2
end Go.Proofs.Ytkaakgabhhkggaa
