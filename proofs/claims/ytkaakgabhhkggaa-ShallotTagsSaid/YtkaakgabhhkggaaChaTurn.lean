/-
  Contracts of chacha's Flow.Turn and Turn, and of shallotref04.Turn: bytes turned by the stream. No conditions but that a flow lies at the address, its place is within the longest stream, and the sizes that slices can have.
-/
import Derived.Test.YtkaakgabhhkggaaChaFlow
import Derived.Test.YtkaakgabhhkggaaChaRefStream
import Derived.Test.YtkaakgabhhkggaaXor
import Derived.StillTailTactics
namespace Go.Proofs.Ytkaakgabhhkggaa
open Go Go.RowKit Go.Sh

/-- what Turn says and leaves -/
def trnE (u t : Nat) : Int := if u + t ≤ 65536 then 0 else 11
def trnL (key : List UInt8) (u : Nat) (l : List UInt8) : List UInt8 := if u + l.length ≤ 65536 then xz l (sbytes key u l.length) else []
def trnU (u t : Nat) : Nat := if u + t ≤ 65536 then u + t else u
theorem xor_two {a b : List UInt8} (h : b.length = a.length) : xorL [a, b] = xz a b ∧ xorE [a, b] = 0 := by
  have hev : evenB [a, b] = true := by simp [evenB, lat, h]
  refine ⟨?_, by simp [xorE, hev]⟩
  rw [xorL, if_pos hev]
  show xz (xz (zs a.length) a) b = _
  rw [xz_zs rfl]
theorem grown_of_below {w w' : World} (h : Below w.heap.size w w') (row : Option Nat) : w.grownBy w' row := ⟨h.os, h.tape, h.output, h.size, fun k hk _ => h.block k hk⟩
theorem flat_mem {ls : List (List UInt8)} {l : List UInt8} (h : l ∈ ls) : l.length ≤ ls.flatten.length := by
  induction ls with
  | nil => cases h
  | cons a r ih =>
    rw [List.flatten_cons, List.length_append]
    rcases List.mem_cons.1 h with rfl | h
    · omega
    · have := ih h
      omega

set_option maxRecDepth 100000 in
set_option maxHeartbeats 1000000 in
theorem FTurn_any (ty : TypeId) (p : Nat) (rest : List Value) (key : List UInt8) (u : Nat) (A : Option Addr) (m c : Nat) (ls : List (List UInt8)) (w : World) (hf : FlowAt w ty p rest key u) (hu : u ≤ 65536)
    (hp : ∀ w', w.grownBy w' (some p) → RBB w' w'.heap.size A m ls) (hm : m ≤ 140737488355328) :
    Calls Try.prog 13 #[.pointer (some ⟨p, 0, none⟩), .slice A m c] w (FlowPost w ty p rest key (trnU u ls.flatten.length) (trnL key u ls.flatten) (trnE u ls.flatten.length)) := by
  have HF := Lib.hid hf
  have HP := Lib.hid hp
  have HR := Lib.hid (hp w (World.grownBy.refl w _))
  have HL := Lib.hid HR.out.len
  have hused := hf.used
  have hlt := hf.lt
  obtain ⟨t, ht⟩ : ∃ t, ls.flatten.length = t := ⟨_, rfl⟩
  rw [ht]
  have HT := Lib.hid ht
  clear hf hp ht
  go_enter Try.func13, Try.ntmps13
  go_wp2
  go_loop [6, 8, 13] (fun t _ i => ∃ (k n : Nat), k ≤ m ∧ i = .int .i64 k ∧ t = .int .i64 n ∧ ((ls.take k).flatten).length = n ∧ u + n ≤ 65536) (fun _ _ i => m - (intOf i).toNat)
  case atStart => exact ⟨0, 0, by omega, rfl, rfl, rfl, by omega⟩
  case round =>
    obtain ⟨k, n, hk, rfl, rfl, hn, hun⟩ := hrel
    have HN := Lib.hid hn
    clear hn
    by_cases hkm : k < m
    · obtain ⟨ad, Ai, ni, ci, rfl, hab, hc, _, hrb⟩ := HR.out.at_ hkm
      have hs1 := one_le_sum ls k (by rw [HL.out]; exact hkm)
      rw [HN.out, hrb.len] at hs1
      have HRB := Lib.hid hrb
      clear hrb
      by_cases hbig : u + n + ni ≤ 65536
      · have hb' : ¬ (65536 - (u : Int) - (n : Int) < (ni : Int)) := by omega
        clear hs1
        go_wp2
        refine ⟨⟨k + 1, n + ni, by omega, by go_num, by go_num, ?_, by omega⟩, by simp [intOf]; omega⟩
        rw [sum_take ls k (by rw [HL.out]; exact hkm), List.length_append, HN.out, HRB.out.len]
      · have hb' : (65536 - (u : Int) - (n : Int) < (ni : Int)) := by omega
        have hov : ¬ u + t ≤ 65536 := by rw [← HT.out]; omega
        have E1 := Lib.hid (show trnE u t = 11 by rw [trnE, if_neg hov])
        have E2 := Lib.hid (show trnL key u ls.flatten = [] by rw [trnL, HT.out, if_neg hov])
        have E3 := Lib.hid (show trnU u t = u by rw [trnU, if_neg hov])
        clear hov hs1 hbig
        go_wp2
        go_ret2
        rw [E1.out, E2.out, E3.out]
        exact ⟨none, 0, 0, rfl, rfl, World.ownsRow_nil _ _ _ _, HF.out, World.grownBy.refl _ _⟩
    · obtain rfl : k = m := by omega
      have e : ls.take k = ls := List.take_of_length_le (by rw [HL.out]; omega)
      have hn' : ls.flatten.length = n := by rw [← HN.out, e]
      obtain rfl : n = t := by rw [← hn', HT.out]
      have HN' := Lib.hid hn'
      have E1 := Lib.hid (show trnE u n = 0 by rw [trnE, if_pos hun])
      have E2 := Lib.hid (show trnL key u ls.flatten = xz ls.flatten (sbytes key u n) by rw [trnL, hn', if_pos hun])
      have E3 := Lib.hid (show trnU u n = u + n by rw [trnU, if_pos hun])
      have n1 : nxtE u (n : Int) = 0 := by unfold nxtE; rw [if_neg (by omega), if_neg (by omega)]
      have n2 : nxtL key u (n : Int) = sbytes key u n := by unfold nxtL; rw [n1]; rfl
      have n3 : nxtU u (n : Int) = u + n := by unfold nxtU; rw [n1]; rfl
      have HX := Lib.hid (xor_two (a := ls.flatten) (b := sbytes key u n) (by rw [length_sbytes, hn']))
      have hnxt := Next_any ty p rest key u (n : Int) w HF.out hu
      rw [n1, n2, n3] at hnxt
      have HNX := Lib.hid hnxt
      clear e hn' n1 n2 n3 hnxt hkm
      go_wp2_with fail
      refine HNX.out.mono ?_
      rintro e w1 ⟨A1, m1, c1, rfl, hl1, ho1, hf1, hg1⟩
      rw [length_sbytes] at hl1
      subst hl1
      have HO1 := Lib.hid ho1
      have HF1 := Lib.hid hf1
      have HG1 := Lib.hid hg1
      have hz1 := hg1.size
      clear ho1 hf1 hg1
      go_wp2_with fail
      refine (Join_any A k c ls w1 w1.heap.size (HP.out w1 HG1.out) (Nat.le_refl _) (by omega) (by rw [HN'.out]; omega)).mono ?_
      rintro e w2 ⟨g2, n2, c2, rfl, hl2, ho2, hb2⟩
      rw [HN'.out] at hl2
      subst hl2
      have HO2 := Lib.hid (RB.of_own ho2)
      have HC2 := Lib.hid (own_cap ho2)
      have HO1' := Lib.hid (RB.of_own (own_later HO1.out hb2))
      have HC1 := Lib.hid (own_cap HO1.out)
      have HB2 := Lib.hid hb2
      have hz2 := hb2.size
      clear ho2 hb2
      go_wp2_with fail
      refine (Xor_any _ 2 2 [ls.flatten, sbytes key u n] _ (w2.heap.size + 1) (RBB.of_list (Reads.lit _ _ [.slice (some ⟨g2, 0, none⟩) n c2, .slice A1 n c1] 2 1 rfl _ rfl) rfl (fun i hi => ?l1)) (by simp) (by omega) ?l2).mono ?_
      case l1 =>
        rcases (by omega : i = 0 ∨ i = 1) with rfl | rfl
        · exact ⟨_, n, c2, rfl, HC2.out, (HO2.out.alloc (Nat.le_refl _) _).more (by omega)⟩
        · exact ⟨_, n, c1, rfl, HC1.out, (HO1'.out.alloc (Nat.le_refl _) _).more (by omega)⟩
      case l2 =>
        intro l hl
        rcases List.mem_cons.1 hl with rfl | hl
        · rw [HN'.out]; omega
        · rw [List.mem_singleton] at hl
          rw [hl, length_sbytes]
          omega
      rw [HX.out.1, HX.out.2]
      rintro e w3 ⟨A3, n3, c3, rfl, hl3, ho3, hb3⟩
      have HB3 := Lib.hid (HB2.out.trans (((Below.refl _ _).alloc hz2 _).trans (hb3.mono (by simp; omega))))
      have HO3 := Lib.hid (own_base ho3 (show w.heap.size ≤ _ by simp; omega))
      have HL3 := Lib.hid hl3
      clear ho3 hb3 hl3
      go_wp2_with fail
      go_ret2
      rw [E1.out, E2.out, E3.out]
      exact ⟨_, n3, c3, rfl, HL3.out, HO3.out, HF1.out.below HB3.out (Nat.lt_of_lt_of_le hlt hz1), grown_trans HG1.out (grown_of_below HB3.out _)⟩

/-- what the two Turns of a key say -/
def cturnE (kl t : Nat) : Int := if kl = 32 then trnE 0 t else 2
def cturnL (key : List UInt8) (kl : Nat) (l : List UInt8) : List UInt8 := if kl = 32 then trnL key 0 l else []
theorem length_trnL (key : List UInt8) (u : Nat) (l : List UInt8) : (trnL key u l).length ≤ 65536 := by
  unfold trnL
  split
  · rw [length_xz rfl (length_sbytes _ _ _)]
    omega
  · simp
theorem length_cturnL (key : List UInt8) (kl : Nat) (l : List UInt8) : (cturnL key kl l).length ≤ 65536 := by
  unfold cturnL
  split
  · exact length_trnL _ _ _
  · simp

set_option maxRecDepth 100000 in
theorem ChaTurn_any (A : Option Addr) (kl c : Nat) (key : List UInt8) (A' : Option Addr) (m c' : Nat) (ls : List (List UInt8)) (w : World) (B B' : Nat) (hk : RB w B A kl key) (hB : B ≤ w.heap.size)
    (hl : RBB w B' A' m ls) (hB' : B' ≤ w.heap.size) (hm : m ≤ 140737488355328) :
    Calls Try.prog 7 #[.slice A kl c, .slice A' m c'] w (RetBE w (cturnL key kl ls.flatten) (cturnE kl ls.flatten.length)) := by
  have HK := Lib.hid hk
  have HL := Lib.hid hl
  obtain ⟨t, ht⟩ : ∃ t, ls.flatten.length = t := ⟨_, rfl⟩
  rw [ht]
  have HT := Lib.hid ht
  clear hk hl ht
  go_enter Try.func7, Try.ntmps7
  go_wp2_with fail
  refine (New_any A kl c key w B HK.out hB).mono ?_
  rintro e w1 (⟨h32, p, rfl, hp, hf, hb⟩ | ⟨h32, rfl, rfl⟩)
  · have E1 := Lib.hid (show cturnE kl t = trnE 0 t by rw [cturnE, if_pos h32])
    have E2 := Lib.hid (show cturnL key kl ls.flatten = trnL key 0 ls.flatten by rw [cturnL, if_pos h32])
    have HF := Lib.hid hf
    have HB1 := Lib.hid hb
    have hz1 := hb.size
    clear hf hb h32
    go_wp2_with fail
    have hft := FTurn_any _ p [] key 0 A' m c' ls w1 HF.out (by omega) (fun w' hg => (HL.out.below ((HB1.out.mono hB').grown hg (by omega) (by simp; omega))).more (Nat.le_trans hB' (Nat.le_trans hz1 hg.size))) hm
    rw [HT.out] at hft
    refine hft.mono ?_
    clear hft
    rintro e w2 ⟨A2, n2, c2, rfl, hl2, ho2, hf2, hg2⟩
    have HO2 := Lib.hid (own_base ho2 hz1)
    have HL2 := Lib.hid hl2
    have HB2 := Lib.hid (HB1.out.grown hg2 hz1 (by simp; omega))
    clear ho2 hf2 hg2 hl2
    go_wp2_with fail
    go_ret2
    rw [E1.out, E2.out]
    exact ⟨A2, n2, c2, rfl, HL2.out, HO2.out, HB2.out⟩
  · have E1 := Lib.hid (show cturnE kl t = 2 by rw [cturnE, if_neg h32])
    have E2 := Lib.hid (show cturnL key kl ls.flatten = [] by rw [cturnL, if_neg h32])
    clear h32
    go_wp2_with fail
    go_ret2
    rw [E1.out, E2.out]
    exact RetBE.nil w 2

theorem xz_comm (a b : List UInt8) : xz a b = xz b a := by
  unfold xz
  rw [List.zipWith_comm]
  congr 1
  funext x y
  exact UInt8.xor_comm _ _

end Go.Proofs.Ytkaakgabhhkggaa
