/-
  The walk of shallotlaw10.CommandKeeps: for every list of bytes and every command the law returns true and writes nothing that was there. Conditions: the sizes that slices can have; the fields fit their types.
-/
import Derived.Test.YtngjllbdjaanaaaCmdLaw
import Derived.Test.YtngjllbdjaanaaaCmdDec
import Derived.Test.YtngjllbdjaanaaaCmdEnc
import Derived.Test.YtngjllbdjaanaaaCmdAwake
import Derived.Test.YtngjllbdjaanaaaCmdOpen
import Derived.Test.YtngjllbdjaanaaaApart
import Derived.Test.YtngjllbdjaanaaaApartLit
namespace Go.Proofs.Ytngjllbdjaanaaa
open Go Go.RowKit Go.Sh

theorem range_belowK {w w' : World} {B b o : Nat} {cs : List Value} (h : w.rangeAt b o cs) (hb : Below B w w') (hl : b < B) : w'.rangeAt b o cs := fun j v hv => (hb.cell (p := ⟨b, o + j, none⟩) hl).trans (h j v hv)

set_option maxHeartbeats 1000000 in
theorem CommandKeeps_walk (A : Option Addr) (n cp : Nat) (l : List UInt8) (c : Cmd) (w : World) (hr : RB w w.heap.size A n l) (hn : n ≤ 140737488351232) (hc : c.OK) : Calls Try.prog 7 #[.slice A n cp, c.v] w (LawPost w) := by
  have HL := Lib.hid hr.len
  have HRB := Lib.hid hr
  have HR := Lib.hid (blk_range (cmd_new_blk w c))
  have HB1 := Lib.hid ((Below.refl w.heap.size w).alloc (Nat.le_refl _) (.cells c.cells.toArray 28))
  have HE := Lib.hid (fun W => Encode_any c W hc)
  have HI := Lib.hid (show (Try.prog.info? 28).map (·.size) = some c.cells.length by rw [hc.size]; kernel_rfl)
  have hln : (encE c).length ≤ 32 := by
    unfold encE
    split
    · rw [length_encL hc]; exact Nat.le_refl _
    · simp
  unfold Cmd.v at HE ⊢
  obtain ⟨cs, hcs⟩ : ∃ cs, c.cells.toArray = cs := ⟨_, rfl⟩
  rw [hcs] at HE HR HB1 ⊢
  have HCS := Lib.hid hcs
  have hss : cs.size = 20 := by rw [← hcs]; exact cmd_size hc
  clear hcs hc hr
  generalize checkN c = E at *
  generalize encE c = el at *
  have HLN := Lib.hid hln
  clear hln
  go_enter Try.func7, Try.ntmps7
  go_wp2_with fail
  have hz1 : w.heap.size < (w.alloc (.cells cs 28)).heap.size := by simp
  generalize w.alloc (.cells cs 28) = w1 at *
  refine (awake_any w1).mono ?_
  rintro e w2 ⟨rfl, hb⟩
  have HB2 := Lib.hid (HB1.out.trans (hb.mono (by omega)))
  have HR2 := Lib.hid (range_belowK HR.out hb hz1)
  have hz2 := hb.size
  clear hb HB1 HR
  go_wp2_with fail
  refine (Spare_any A n cp l w2 w.heap.size (HRB.out.below HB2.out) (by omega) (by omega)).mono ?_
  rintro e w3 ⟨g, rfl, ho3, hb⟩
  have HB3 := Lib.hid (HB2.out.trans (hb.mono (by omega)))
  have HR3 := Lib.hid (range_belowK HR2.out hb (by omega))
  have hz3 := hb.size
  have hg3 := ho3.lt g rfl
  have HO3 := Lib.hid ho3
  clear hb HB2 HR2 ho3
  have HX3 := Lib.hid (show RB w3 w3.heap.size (some ⟨g, 0, none⟩) n l from by
    have h := (RB.of_own HO3.out).take (k := n) (by omega)
    rw [show (spared l).take n = l by rw [← HL.out]; simp [spared]] at h
    exact h)
  go_wp2_with fail
  refine (Decode_any (some ⟨g, 0, none⟩) n (n + 40) l w3 w3.heap.size HX3.out (Nat.le_refl _) (by omega) (by omega)).mono ?_
  rintro e w4 ⟨rfl, hb⟩
  have HB4 := Lib.hid (HB3.out.trans (hb.mono (by omega)))
  have HR4 := Lib.hid (range_belowK HR3.out hb (by omega))
  have hz4 := hb.size
  have HO4 := Lib.hid (own_later HO3.out hb)
  clear hb HB3 HR3 HO3 HX3
  unfold Cmd.v
  generalize (decR l).cells.toArray = dc
  generalize decE l = de
  go_wp2_with (refine wpList_load_mid rfl 28 _ rfl w.heap.size 0 rfl c.cells _ HR4.out Try.underlying28 rfl HI.out ?_; rw [HCS.out])
  refine (HE.out w4).mono ?_
  rintro e w5 ⟨A5, n5, c5, rfl, hn5, ho5, hb⟩
  have HB5 := Lib.hid (HB4.out.trans (hb.mono (by omega)))
  have HR5 := Lib.hid (range_belowK HR4.out hb (by omega))
  have hz5 := hb.size
  have HO5 := Lib.hid (own_later HO4.out hb)
  have HP5 := Lib.hid ho5
  clear hb HB4 HR4 HO4 ho5
  go_wp2_with (refine wpList_load_mid rfl 28 _ rfl w.heap.size 0 rfl c.cells _ HR5.out Try.underlying28 rfl HI.out ?_; rw [HCS.out])
  refine (HE.out w5).mono ?_
  rintro e w6 ⟨A6, n6, c6, rfl, hn6, ho6, hb⟩
  obtain rfl : n5 = n6 := hn5.symm.trans hn6
  have HB6 := Lib.hid (HB5.out.trans (hb.mono (by omega)))
  have hz6 := hb.size
  have HO6 := Lib.hid (own_later HO5.out hb)
  have HP6 := Lib.hid (own_later HP5.out hb)
  have HS6 := Lib.hid ho6
  have HBD := Lib.hid (show ∀ k, (Value.slice A5 n5 c5).ownBlock = some k → w4.heap.size ≤ k ∧ k < w5.heap.size from fun k hk => HP5.out.lt k hk)
  have hnn : n5 ≤ 32 := by rw [← hn6]; exact HLN.out
  clear hb HB5 HR5 HO5 HP5 ho6 hn5 hn6
  go_wp2_with fail
  refine (Kept_any (some ⟨g, 0, none⟩) A n (n + 40) cp l w6 w6.heap.size w.heap.size (RB.of_own HO6.out) (HRB.out.below HB6.out) (by omega)).mono ?_
  rintro e w7 ⟨rfl, k7, rfl⟩
  go_wp2_with fail
  refine (Equal_any A5 A6 n5 n5 c5 c6 el el _ w6.heap.size w6.heap.size ((RB.of_own HP6.out).drewN k7) ((RB.of_own HS6.out).drewN k7) (by omega)).mono ?_
  rintro e w8 ⟨rfl, k8, rfl⟩
  rw [show decide (el = el) = true by simp]
  have HV := Lib.hid (show ((w6.drewN k7).drewN k8).ownsRow w2.heap.size 5 1 (.slice (some ⟨g, 0, none⟩) (n + 40) (n + 40)) (n + 40) (bv (spared l)) from HO6.out)
  have HV1 := Lib.hid (show ((w6.drewN k7).drewN k8).ownsRow w4.heap.size 5 1 (.slice A5 n5 c5) n5 (bv el) from HP6.out)
  have HV2 := Lib.hid (show ((w6.drewN k7).drewN k8).ownsRow w5.heap.size 5 1 (.slice A6 n5 c6) n5 (bv el) from HS6.out)
  have HB7 := Lib.hid (below_drewN (below_drewN HB6.out k7) k8)
  have hz8 : w6.heap.size = ((w6.drewN k7).drewN k8).heap.size := rfl
  generalize (w6.drewN k7).drewN k8 = w8 at *
  have hrs : OBV (w8.alloc (.cells #[.slice (some ⟨g, 0, none⟩) (n + 40) (n + 40), .slice A5 n5 c5, .slice A6 n5 c6] 45)) w.heap.size 5 45 (.slice (some ⟨w8.heap.size, 0, none⟩) 3 3) 3 _ _ :=
    OBV.of_rows (rs := [⟨.slice (some ⟨g, 0, none⟩) (n + 40) (n + 40), spared l, 0, w3.heap.size⟩, ⟨.slice A5 n5 c5, el, w4.heap.size, w5.heap.size⟩, ⟨.slice A6 n5 c6, el, w5.heap.size, w8.heap.size⟩]) rfl
      (World.ownsRow_lit w8 _ 3 (by omega) (by decide) rfl)
      (by
        have hbb := (Below.refl w8.heap.size w8).alloc (Nat.le_refl _) (.cells #[.slice (some ⟨g, 0, none⟩) (n + 40) (n + 40), .slice A5 n5 c5, .slice A6 n5 c6] 45)
        intro r hr
        simp only [List.mem_cons, List.not_mem_nil, or_false] at hr
        rcases hr with rfl | rfl | rfl
        · exact (Rw.own (own_base HV.out (by omega)) (fun k hk => by have : g = k := by simpa [Value.ownBlock] using hk
                                                                     omega)).later hbb
        · exact (Rw.own (own_base HV1.out (by omega)) HBD.out).later hbb
        · exact (Rw.own (own_base HV2.out (by omega)) (fun k hk => HV2.out.lt k hk)).later hbb)
      (Rising.cons (by simp; omega) (Rising.cons (by simp) (Rising.cons (by simp) Rising.nil)))
  have HRS := Lib.hid hrs
  have HB9 := Lib.hid (HB7.out.alloc (by omega) (.cells #[.slice (some ⟨g, 0, none⟩) (n + 40) (n + 40), .slice A5 n5 c5, .slice A6 n5 c6] 45))
  clear hrs HV HV1 HV2 HBD HB7 HO6 HP6 HS6 HB6
  go_wp2_with fail
  refine (Apart_any _ 3 3 _ _ _ w.heap.size HRS.out (by omega) ?hs (by simp; omega)).mono ?_
  case hs =>
    intro x hx
    have := HLN.out
    simp only [List.map_cons, List.map_nil, List.mem_cons, List.not_mem_nil, or_false] at hx
    rcases hx with rfl | rfl | rfl
    · rw [length_spared, HL.out]; omega
    · omega
    · omega
  rintro e w10 ⟨rfl, hb⟩
  have HB10 := Lib.hid (HB9.out.trans hb)
  clear hb
  go_wp2_with fail
  go_ret
  exact ⟨rfl, HB10.out⟩
end Go.Proofs.Ytngjllbdjaanaaa
