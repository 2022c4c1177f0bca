/-
  Contracts of shallotref03.block and Inside. Conditions: a key of at most 64 bytes; at most 2^45 bytes.
-/
import Derived.Test.YtkaakgabhhkggaaRefShaS
import Derived.Test.YtkaakgabhhkggaaMac5
namespace Go.Proofs.Ytkaakgabhhkggaa
open Go Go.RowKit Go.Sh

set_option maxRecDepth 100000 in
theorem rowf_self (k : List UInt8) {d : Nat} (h : k.length = d) : k = rowf d fun j => k.getD j 0 := by
  subst h
  refine List.ext_getElem? fun i => ?_
  unfold rowf
  rw [List.getElem?_map]
  by_cases h : i < k.length
  · rw [List.getElem?_range h, Option.map_some, List.getD_eq_getElem?_getD, List.getElem?_eq_getElem h]
    rfl
  · rw [List.getElem?_eq_none (by omega), List.getElem?_eq_none (by simpa using h)]
    rfl
theorem bv_zs_drop (n d : Nat) : (bv (zs d)).drop n = bv (zs (d - n)) := by
  unfold bv zs
  rw [← List.map_drop, List.drop_replicate]

set_option maxHeartbeats 2000000 in
set_option maxRecDepth 100000 in
theorem RefBlock_any (A : Option Addr) (n c : Nat) (key : List UInt8) (m : UInt8) (w : World) (B : Nat) (hk : RB w B A n key) (hB : B ≤ w.heap.size) (hn : n ≤ 64) :
    Calls Try.prog 49 #[.slice A n c, .int .u8 (m.toNat : Int)] w (fun e w' => ∃ g, e = .returned (.slice (some ⟨g, 0, none⟩) 64 64) ∧ w'.ownsRow w.heap.size 5 1 (.slice (some ⟨g, 0, none⟩) 64 64) 64 (bv (maskd (mblk key) m)) ∧ Below w.heap.size w w') := by
  have HKL := Lib.hid hk.len
  have HK := Lib.hid hk
  have HMB := Lib.hid (show mblk key = key ++ zs (64 - n) by unfold mblk; rw [hk.len, if_neg (by omega)])
  have HMR := Lib.hid (rowf_self (mblk key) (length_mblk key))
  clear hk
  go_enter Try.func49, Try.ntmps49
  go_wp2_with (at_make; refine wl_makeB TB rfl (.const (.int .i64 64)) (.const (.int .i64 64)) rfl .i64 .i64 _ _ rfl rfl 64 ?_ ?_ ?_ w.heap.size (Nat.le_refl _) ?_)
  · rfl
  · rfl
  · decide
  intro w1 hown hg _
  have HO1 := Lib.hid hown
  have HB1 := Lib.hid (show Below w.heap.size w w1 from (Below.refl _ _).grown hg (Nat.le_refl _) (by simp))
  clear hown hg
  generalize hgg : w.heap.size = g0 at *
  have HG := Lib.hid hgg
  clear hgg
  have hbig : ¬ (64 : Int) < (n : Int) := by omega
  go_wp2_with (with_reducible refine wl_copy TB rfl (.tmp 17) (.tmp 18) rfl _ 64 64 rfl A n c rfl g0 _ HO1.out B (bv key) ?c1 (bv_one key) ?c2)
  case c1 => exact HK.out.below (HB1.out.mono hB)
  case c2 =>
    intro w2 hown2 hg2
    have HO2 := Lib.hid (show w2.ownsRow g0 5 1 (.slice (some ⟨g0, 0, none⟩) 64 64) 64 (bv (mblk key)) by
      have h := hown2
      rw [List.take_of_length_le (by rw [length_bv, HKL.out]; exact hn)] at h
      rw [HMB.out, bv_append, ← bv_zs_drop]
      exact h)
    have HB2 := Lib.hid (HB1.out.grown hg2 (by have := HB1.out.size; rw [HG.out] at this; exact this) (by simp [Value.ownBlock]))
    clear hown2 hg2 HO1 HB1
    obtain ⟨k, hkk⟩ : ∃ k, mblk key = k := ⟨_, rfl⟩
    have HKM := Lib.hid hkk
    rw [hkk] at HMB HMR HO2
    clear hkk
    go_wp2_with fail
    go_loopw [7] (fun i wr => ∃ q : Nat, q ≤ 64 ∧ i = .int .i64 (q : Int) ∧ wr.ownsRow g0 5 1 (.slice (some ⟨g0, 0, none⟩) 64 64) 64 (bv (rowf 64 fun j => if j < q then k.getD j 0 ^^^ m else k.getD j 0)) ∧ Below g0 w wr) (fun i _ => 64 - (intOf i).toNat)
    case atStart => exact ⟨0, by omega, rfl, by rw [show (rowf 64 fun j => if j < 0 then k.getD j 0 ^^^ m else k.getD j 0) = k from HMR.out.symm]; exact HO2.out, HB2.out⟩
    case round =>
      obtain ⟨q, hq, rfl, hown, hb⟩ := hrel
      have HOi := Lib.hid hown
      have HBi := Lib.hid hb
      clear hown hb HO2 HB2
      by_cases hlt : q < 64
      · have dq : (q : Int) < 64 := by omega
        have hfr := HOi.out.frozenAt q
        have hcr := HOi.out.cellAt q (by omega)
        rw [bv_at _ _ (by rw [length_rowf]; exact hlt)] at hcr
        rw [show bt (rowf 64 fun j => if j < q then k.getD j 0 ^^^ m else k.getD j 0) q = ((k.getD q 0).toNat : Int) by
          unfold bt; rw [show (rowf 64 fun j => if j < q then k.getD j 0 ^^^ m else k.getD j 0).getD q 0 = k.getD q 0 by
            unfold rowf; rw [List.getD_eq_getElem?_getD, List.getElem?_map, List.getElem?_range hlt]; simp]] at hcr
        go_wp2
        rw [bits_u8_xor]
        refine ⟨⟨q + 1, by omega, by go_num, ?_, HBi.out.setCell (by simp only; omega) _⟩, by simp [intOf]; omega⟩
        have h := (HOi.out.stored q (.int .u8 ((k.getD q 0 ^^^ m).toNat : Int))).1
        rw [bv_store, rowf_set] at h
        rw [show (rowf 64 fun j => if j < q + 1 then k.getD j 0 ^^^ m else k.getD j 0) = rowf 64 (fun j => if j = q then k.getD q 0 ^^^ m else if j < q then k.getD j 0 ^^^ m else k.getD j 0) from rowf_congr fun j _ => by
          by_cases hj : j = q
          · subst hj
            rw [if_pos (by omega), if_pos rfl]
          · rw [if_neg hj]
            split <;> split <;> first | rfl | omega]
        exact h
      · obtain rfl : q = 64 := by omega
        have HF := Lib.hid (show (rowf 64 fun j => if j < 64 then k.getD j 0 ^^^ m else k.getD j 0) = maskd k m from rowf_congr fun j hj => by rw [if_pos hj])
        go_wp2_with fail
        go_ret
        refine ⟨g0, rfl, ?_, by rw [HG.out]; exact HBi.out⟩
        rw [HG.out, HKM.out, ← HF.out]
        exact HOi.out
end Go.Proofs.Ytkaakgabhhkggaa
