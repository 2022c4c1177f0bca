/-
  Contracts of shallotref04.Bytes and shallotref04.Stream. Conditions of Bytes: a key of 32 bytes, a place and a length within the longest stream.
-/
import Derived.Test.YtbnlpahgpphpjaaChaPiece
import Derived.Test.YtbnlpahgpphpjaaChaRef
namespace Go.Proofs.Ytbnlpahgpphpjaa
open Go Go.RowKit Go.Sh

theorem sbytes_block (key : List UInt8) (q k : Nat) : sbytes key (64 * q) (64 * (k + 1)) = sbytes key (64 * q) (64 * k) ++ blk key (zs 12) ((q + k : Nat) : Int) := by
  have h := sbytes_add key (64 * q) (64 * k) 64 (by omega)
  have e1 : (64 * q + 64 * k) / 64 = q + k := by omega
  have e2 : (64 * q + 64 * k) % 64 = 0 := by omega
  rw [e1, e2, List.drop_zero, List.take_of_length_le (by rw [length_blk]; exact Nat.le_refl _)] at h
  exact h
theorem sbytes_cut (key : List UInt8) (a' m n t : Nat) (h : m + n ≤ t) : ((sbytes key a' t).drop m).take n = sbytes key (a' + m) n := by
  apply List.ext_getElem
  · simp only [List.length_take, List.length_drop, length_sbytes]
    omega
  · intro i h1 h2
    simp only [sbytes, rowf, List.getElem_take, List.getElem_drop, List.getElem_map, List.getElem_range]
    rw [Nat.add_assoc]

set_option maxHeartbeats 1000000 in
theorem RefBytes_any (A : Option Addr) (c : Nat) (key : List UInt8) (a n : Nat) (w : World) (B : Nat) (hk : RB w B A 32 key) (hB : B ≤ w.heap.size) (han : a + n ≤ 65536) :
    Calls Try.prog 30 #[.slice A 32 c, .int .i64 (a : Int), .int .i64 (n : Int)] w (RetB w n (sbytes key a n)) := by
  have HK := Lib.hid hk
  clear hk
  obtain ⟨q, hq⟩ : ∃ q, a / 64 = q := ⟨_, rfl⟩
  obtain ⟨m, hm⟩ : ∃ m, a % 64 = m := ⟨_, rfl⟩
  have hm64 : m < 64 := by omega
  have hq32 : q ≤ 1024 := by omega
  have hdiv : (a : Int).tdiv 64 = (q : Int) := by rw [Int.tdiv_eq_ediv_of_nonneg (by omega)]; omega
  have hmod : (a : Int).tmod 64 = (m : Int) := by rw [Int.tmod_eq_emod_of_nonneg (by omega)]; omega
  have HA := Lib.hid (show a = 64 * q + m by omega)
  clear hq hm
  go_enter Try.func30, Try.ntmps30
  go_wp2_with fail
  go_loopw [7, 8] (fun v i wr => ∃ (k : Nat) (A2 : Option Addr) (c2 : Nat), 64 * k ≤ n + m + 64 ∧ i = .int .i64 ((q + k : Nat) : Int) ∧ v = .slice A2 (64 * k) c2 ∧ wr.ownsRow w.heap.size 5 1 (.slice A2 (64 * k) c2) (64 * k) (bv (sbytes key (64 * q) (64 * k))) ∧ Below w.heap.size w wr) (fun _ i _ => n + m + 64 + 64 * q - 64 * (intOf i).toNat)
  case atStart => exact ⟨0, none, 0, by omega, rfl, rfl, World.ownsRow_nil _ _ _ _, Below.refl _ _⟩
  case round =>
    obtain ⟨k, A2, c2, hk, rfl, rfl, o, b⟩ := hrel
    have O := Lib.hid o
    have HB := Lib.hid b
    have hz := b.size
    clear o b
    obtain ⟨t, ht⟩ : ∃ t, 64 * k = t := ⟨_, rfl⟩
    obtain ⟨p, hp⟩ : ∃ p, q + k = p := ⟨_, rfl⟩
    have HT := Lib.hid ht
    have HP := Lib.hid hp
    rw [ht] at O hk ⊢
    rw [hp]
    have hp32 : p ≤ 4096 := by omega
    clear ht hp
    by_cases hlt : t < n + m
    · have hlt' : (t : Int) < (n : Int) + (m : Int) := by omega
      go_wp2_with (at_make; refine wl_makeB TB rfl (.const (.int .i64 12)) (.const (.int .i64 12)) rfl .i64 .i64 _ _ rfl rfl 12 rfl rfl (by omega) w.heap.size hz ?m5)
      case m5 =>
        intro w1 hown hg hlt1
        have hb1 : Below wr.heap.size wr w1 := (Below.refl _ _).grown hg (Nat.le_refl _) (by simp)
        have HN := Lib.hid (RB.of_own hown)
        have HB1 := Lib.hid (HB.out.trans (hb1.mono hz))
        have O1 := Lib.hid (own_later O.out hb1)
        clear hown hg hb1 O HB
        go_wp2_with fail
        refine (RefBlock_any A _ c 12 key (zs 12) (p : Int) w1 w1.heap.size ((HK.out.below (HB1.out.mono hB)).more (by omega)) HN.out (Nat.le_refl _) ⟨by omega, by omega⟩).mono ?_
        rintro e w3 ⟨g3, c3, rfl, ho3, hb3⟩
        have O3 := Lib.hid (own_later O1.out hb3)
        have R3 := Lib.hid (RB.of_own ho3)
        have B3 := Lib.hid (HB1.out.trans (hb3.mono (by omega)))
        have hz3 := B3.out.size
        clear ho3 hb3 O1 HB1 HN
        go_wp2_with (at_builtin; refine wl_app TB rfl (.tmp 20) (.tmp 25) rfl _ rfl _ 64 c3 rfl w.heap.size t _ O3.out w3.heap.size (bv (blk key (zs 12) (p : Int))) R3.out (bv_one _) (by omega) (by omega) hz3 ?q6)
        case q6 =>
          intro A4 c4 w4 hown hgr hat
          have e1 : t + 64 = 64 * (k + 1) := by have := HT.out; omega
          rw [← bv_append, ← HP.out, ← HT.out, ← sbytes_block, HT.out, e1] at hown
          rw [e1]
          have O4 := Lib.hid hown
          have B4 := Lib.hid (B3.out.grown hgr hz3 (own_drop O3.out))
          clear hown hgr hat e1
          go_wp2_with fail
          have ht2 := HT.out
          have hp2 := HP.out
          refine ⟨⟨k + 1, A4, c4, by omega, ?_, rfl, O4.out, B4.out⟩, by simp [intOf]; omega⟩
          rw [show q + (k + 1) = p + 1 by omega]
          go_num
    · have hlt' : ¬ (t : Int) < (n : Int) + (m : Int) := by omega
      have HMN := Lib.hid (show (m : Int) + (n : Int) = ((m + n : Nat) : Int) by omega)
      have hcap := own_cap O.out
      go_wp2_with (refine wl_sliceB TB rfl (.tmp 27) (.tmp 29) (.tmp 33) rfl A2 t c2 rfl .i64 .i64 _ _ rfl rfl m n rfl HMN.out wr.heap.size _ (RB.of_own O.out) (by omega) hcap ?_; intro A5 hr5)
      rw [sbytes_cut key (64 * q) m n t (by omega), ← HA.out] at hr5
      refine (Copy_any A5 n _ _ wr wr.heap.size hr5 (Nat.le_refl _) (by omega)).mono ?_
      rintro e w5 ⟨g5, c5, rfl, ho5, hb5⟩
      have O5 := Lib.hid (own_base ho5 hz)
      have B5 := Lib.hid (HB.out.trans (hb5.mono hz))
      clear ho5 hb5 hr5
      go_wp2_with fail
      go_ret
      exact ⟨g5, c5, rfl, O5.out, B5.out⟩

theorem RefStream_any (A : Option Addr) (kl c : Nat) (key : List UInt8) (n : Int) (w : World) (B : Nat) (hk : RB w B A kl key) (hB : B ≤ w.heap.size) :
    Calls Try.prog 17 #[.slice A kl c, .int .i64 n] w (RetBE w (strL key kl n) (strE kl n)) := by
  have HK := Lib.hid hk
  clear hk
  by_cases h1 : n < 0 ∨ 65536 < n
  · have e1 : strE kl n = 1 := by unfold strE; rw [if_pos h1]
    have e2 : strL key kl n = [] := by unfold strL; rw [e1]; rfl
    rw [e1, e2]
    have h1' : n < 0 ∨ (¬ n < 0 ∧ 65536 < n) := by omega
    rcases h1' with h | ⟨h, h'⟩
    · go_enter Try.func17, Try.ntmps17
      go_wp2
      go_ret2
      exact RetBE.nil w 1
    · go_enter Try.func17, Try.ntmps17
      go_wp2
      go_ret2
      exact RetBE.nil w 1
  · have h2 : 0 ≤ n := by omega
    have h3 : n ≤ 65536 := by omega
    by_cases h4 : kl = 32
    · have e1 : strE kl n = 0 := by unfold strE; rw [if_neg h1, if_pos h4]
      have e2 : strL key kl n = sbytes key 0 n.toNat := by unfold strL; rw [e1]; rfl
      rw [e1, e2]
      subst h4
      obtain ⟨m, rfl⟩ := Int.eq_ofNat_of_zero_le h2
      clear h1 e1 e2
      rw [Int.toNat_natCast]
      go_enter Try.func17, Try.ntmps17
      go_wp2_with fail
      refine (RefBytes_any A c key 0 m w B HK.out hB (by omega)).mono ?_
      rintro e w1 ⟨g, c1, rfl, ho, hb⟩
      have HO := Lib.hid ho
      have HB := Lib.hid hb
      clear ho hb
      go_wp2_with fail
      go_ret2
      exact ⟨_, m, c1, rfl, length_sbytes _ _ _, HO.out, HB.out⟩
    · have e1 : strE kl n = 2 := by unfold strE; rw [if_neg h1, if_neg h4]
      have e2 : strL key kl n = [] := by unfold strL; rw [e1]; rfl
      rw [e1, e2]
      have h5 : ((kl : Int) != 32) = true := by rw [bne_iff_ne]; omega
      have h6 : ¬ n < 0 := by omega
      have h7 : ¬ 65536 < n := by omega
      clear h1 e1 e2
      go_enter Try.func17, Try.ntmps17
      go_wp2
      go_ret2
      exact RetBE.nil w 2
end Go.Proofs.Ytbnlpahgpphpjaa
