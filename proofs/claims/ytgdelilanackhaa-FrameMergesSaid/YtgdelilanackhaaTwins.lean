/-
  Contract of shallotref11.Twins: parts in new memory. Conditions: the sizes that slices can have.
-/
import Derived.Test.YtgdelilanackhaaParsed
namespace Go.Proofs.Ytgdelilanackhaa
open Go Go.RowKit Go.Sh

set_option maxHeartbeats 2000000 in
set_option maxRecDepth 100000 in
theorem Twins_any (A : Option Addr) (m c : Nat) (ps : List Pt) (w : World) (B : Nat) (hr : RP w B A m ps) (hB : B ≤ w.heap.size) (hm : m * 56 ≤ 140737488355328) (hd : ∀ p ∈ ps, p.d.length ≤ 140737488355328) :
    Calls Try.prog 17 #[.slice A m c] w (fun e w' => ∃ A' c' ss, e = .returned (.slice A' m c') ∧ OP w' w.heap.size (.slice A' m c') m ps ss ∧ Below w.heap.size w w') := by
  have HL := Lib.hid hr.len
  have HR := Lib.hid hr
  have HD := Lib.hid hd
  clear hr hd
  generalize hgw : w.heap.size = g at *
  have HG := Lib.hid hgw
  have HB1 := Lib.hid (show Below g w w from Below.refl _ _)
  clear hgw
  go_enter Try.func17, Try.ntmps17
  go_wp2_with fail
  go_loopw [3, 4] (fun v i wr => ∃ (k : Nat) (ss : List Value) (Ak : Option Addr) (ck : Nat), k ≤ m ∧ i = .int .i64 (k : Int) ∧ v = .slice Ak k ck ∧ OP wr g (.slice Ak k ck) k (ps.take k) ss ∧ Below g w wr) (fun _ i _ => m - (intOf i).toNat)
  case atStart => exact ⟨0, [], none, 0, by omega, rfl, rfl, OP.nil _ _, HB1.out⟩
  case round =>
    obtain ⟨k, ss, Ak, ck, hk, rfl, rfl, o, b⟩ := hrel
    have O := Lib.hid o
    have B2 := Lib.hid b
    have hsz := b.size
    rw [HG.out] at hsz
    clear o b HB1
    by_cases hlt : k < m
    · obtain ⟨ad, Ai, ni, ci, rfl, _, hc, _, hrk⟩ := (HR.out.below (B2.out.mono hB)).at_ (k := k) hlt
      have a0 := hc 0 _ rfl
      have a1 := hc 1 _ rfl
      have a2 := hc 2 _ rfl
      have a3 := hc 3 _ rfl
      have a4 := hc 4 _ rfl
      simp only [Nat.add_zero] at a0
      simp only [← add_of_add] at a1 a2 a3 a4
      have hni : ni ≤ 140737488355328 := by rw [← hrk.len]; exact HD.out _ (pat_mem (by rw [HL.out]; exact hlt))
      have HSN := Lib.hid (take_psnoc ps k (by rw [HL.out]; exact hlt))
      have HTW := Lib.hid (Twin_any (pat ps k) Ai ni ci wr B hrk (by omega) hni)
      clear hc hrk
      have a0' : wr.cell? (ad.add (k * 5)) = some (.int .u8 (pat ps k).k) := a0
      have a1' : wr.cell? ⟨(ad.add (k * 5)).block, (ad.add (k * 5)).off + 1, none⟩ = some (.int .u64 (pat ps k).id) := a1
      have a2' : wr.cell? ⟨(ad.add (k * 5)).block, (ad.add (k * 5)).off + 2, none⟩ = some (.int .i64 (pat ps k).ix) := a2
      have a3' : wr.cell? ⟨(ad.add (k * 5)).block, (ad.add (k * 5)).off + 3, none⟩ = some (.int .i64 (pat ps k).ct) := a3
      have a4' : wr.cell? ⟨(ad.add (k * 5)).block, (ad.add (k * 5)).off + 4, none⟩ = some (.slice Ai ni ci) := a4
      clear a0 a1 a2 a3 a4
      generalize pat ps k = p at *
      go_wp2_with fail
      refine HTW.out.mono ?_
      rintro e w2 ⟨g2, c2, rfl, ho2, hb2⟩
      have hb3 := (Below.refl w2.heap.size w2).alloc (Nat.le_refl _) (.cells (pcell p (.slice (some ⟨g2, 0, none⟩) ni c2)).toArray 47)
      have HX3 := Lib.hid (own_later (own_base ho2 hsz) hb3)
      have O3 := Lib.hid ((O.out.later hb2).later hb3)
      have hb4 := B2.out.trans (hb2.mono hsz)
      have hsz4 := hb4.size
      rw [HG.out] at hsz4
      have B4 := Lib.hid (hb4.trans (hb3.mono hsz4))
      clear ho2 hb2 O B2 HTW hb3 hb4 a0' a1' a2' a3' a4'
      go_wp2_with (at_builtin; refine wl_app TP rfl (.tmp 11) (.tmp 17) rfl (.slice Ak k ck) rfl (some ⟨w2.heap.size, 0, none⟩) 1 1 rfl g k _ O3.out.2.2.1 (w2.heap.size + 1) (pcell p (.slice (some ⟨g2, 0, none⟩) ni c2)) (Reads.lit w2 _ (pcell p (.slice (some ⟨g2, 0, none⟩) ni c2)) 1 5 rfl _ rfl) (pcell_one _ _ _ _) (by omega) (by omega) (by simp; omega) ?q6)
      case q6 =>
        intro A6 c7 w6 hown hgr hat
        have O6 := Lib.hid (O3.out.snoc HX3.out hgr hown)
        have hsz5 : g ≤ (w2.alloc (.cells (pcell p (.slice (some ⟨g2, 0, none⟩) ni c2)).toArray 47)).heap.size := by simp; omega
        have B6 := Lib.hid (B4.out.grown hgr hsz5 (own_drop O3.out.2.2.1))
        clear hown hgr hat O3 B4 HX3 hsz5
        go_wp2_with fail
        have h := O6.out
        rw [← HSN.out] at h
        exact ⟨⟨k + 1, _, A6, c7, by omega, by go_num, rfl, h, B6.out⟩, by simp [intOf]; omega⟩
    · obtain rfl : k = m := by omega
      have HQ := Lib.hid (show ps.take k = ps from List.take_of_length_le (by rw [HL.out]; exact Nat.le_refl _))
      go_wp2_with fail
      go_ret
      refine ⟨_, ck, ss, rfl, ?_, ?_⟩
      · have h := O.out
        rw [HQ.out] at h
        exact h
      · exact B2.out
end Go.Proofs.Ytgdelilanackhaa
