/-
  Contract of shallotlaw04.lists: every call's bytes, in rows of their own. No conditions but the sizes that slices can have.
-/
import Derived.Test.YtbnlpahgpphpjaaChaTurn
import Derived.Test.YtbnlpahgpphpjaaFar
namespace Go.Proofs.Ytbnlpahgpphpjaa
open Go Go.RowKit Go.Sh

def clist (key : List UInt8) (kl : Nat) (l : List UInt8) : List (List UInt8) :=
  [strL key kl 70, cturnL key kl (l ++ l), cturnL key kl l] ++ (if kl = 32 then [sbytes key 0 5, trnL key 5 l] else [])
def ListsPost (w : World) (ls : List (List UInt8)) (e : Ending) (w' : World) : Prop :=
  ∃ A m c vs, e = .returned (.slice A m c) ∧ OBV w' w.heap.size 5 28 (.slice A m c) m ls vs ∧ Below w.heap.size w w'

set_option maxHeartbeats 2000000 in
theorem Lists_any (A : Option Addr) (kl c : Nat) (key : List UInt8) (A' : Option Addr) (n c' : Nat) (l : List UInt8) (w : World) (hk : RB w w.heap.size A kl key) (hl : RB w w.heap.size A' n l) (hc' : n ≤ c') :
    Calls Try.prog 23 #[.slice A kl c, .slice A' n c'] w (ListsPost w (clist key kl l)) := by
  have HK := Lib.hid hk
  have HL := Lib.hid hl
  clear hk hl
  obtain ⟨B, hB⟩ : ∃ B, w.heap.size = B := ⟨_, rfl⟩
  have HBB := Lib.hid hB
  rw [hB] at HK HL
  have hBw : B ≤ w.heap.size := by omega
  clear hB
  go_enter Try.func23, Try.ntmps23
  go_wp2_with fail
  refine (Stream_any A kl c key 70 w B HK.out hBw).mono ?_
  rintro e w1 ⟨A1, n1, c1, rfl, hl1, ho1, hb1⟩
  have HO1 := Lib.hid ho1
  have HB1 := Lib.hid hb1
  have hz1 := hb1.size
  clear hl1 ho1 hb1
  go_wp2_with fail
  have hct := ChaTurn_any A kl c key (some ⟨w1.heap.size, 0, none⟩) 2 2 [l, l] (w1.alloc (.cells #[.slice A' n c', .slice A' n c'] 28)) B (w1.heap.size + 1)
    ((HK.out.below (HB1.out.mono (by omega))).alloc (by omega) _) (by simp; omega)
    (RBB.of_list (Reads.lit w1 _ [.slice A' n c', .slice A' n c'] 2 1 rfl _ rfl) rfl (fun i hi => by
      rcases (by omega : i = 0 ∨ i = 1) with rfl | rfl
      · exact ⟨_, n, c', rfl, hc', ((HL.out.below (HB1.out.mono (by omega))).alloc (by omega) _).more (by omega)⟩
      · exact ⟨_, n, c', rfl, hc', ((HL.out.below (HB1.out.mono (by omega))).alloc (by omega) _).more (by omega)⟩)) (by simp) (by omega)
  rw [show ([l, l] : List (List UInt8)).flatten = l ++ l by simp] at hct
  refine hct.mono ?_
  clear hct
  rintro e w2 ⟨A2, n2, c2, rfl, hl2, ho2, hb2⟩
  have hbb : Below w1.heap.size w1 w2 := ((Below.refl _ _).alloc (Nat.le_refl _) _).trans (hb2.mono (by simp))
  have hs2 : w1.heap.size < w2.heap.size := by have := hb2.size; simp at this; omega
  have HO12 := Lib.hid (own_later HO1.out hbb)
  have HO2 := Lib.hid (own_base ho2 (base' := w1.heap.size) (by simp))
  have HB2 := Lib.hid (HB1.out.trans (hbb.mono (by omega)))
  have HK1 := Lib.hid (fun k hk => HO1.out.lt k hk)
  generalize cturnE kl (l ++ l).length = er2 at *
  clear hl2 ho2 hb2 hbb HO1 HB1
  go_wp2_with fail
  have hct := ChaTurn_any A kl c key (some ⟨w2.heap.size, 0, none⟩) 1 1 [l] (w2.alloc (.cells #[.slice A' n c'] 28)) B (w2.heap.size + 1)
    ((HK.out.below (HB2.out.mono (by omega))).alloc (by omega) _) (by simp; omega)
    (RBB.of_list (Reads.lit w2 _ [.slice A' n c'] 1 1 rfl _ rfl) rfl (fun i hi => by
      obtain rfl : i = 0 := by omega
      exact ⟨_, n, c', rfl, hc', ((HL.out.below (HB2.out.mono (by omega))).alloc (by omega) _).more (by omega)⟩)) (by simp) (by omega)
  rw [show ([l] : List (List UInt8)).flatten = l by simp] at hct
  refine hct.mono ?_
  clear hct
  rintro e w3 ⟨A3, n3, c3, rfl, hl3, ho3, hb3⟩
  have hbb : Below w2.heap.size w2 w3 := ((Below.refl _ _).alloc (Nat.le_refl _) _).trans (hb3.mono (by simp))
  have hs3 : w2.heap.size < w3.heap.size := by have := hb3.size; simp at this; omega
  have HO13 := Lib.hid (own_later HO12.out hbb)
  have HO23 := Lib.hid (own_later HO2.out hbb)
  have HO3 := Lib.hid (own_base ho3 (base' := w2.heap.size) (by simp))
  have HB3 := Lib.hid (HB2.out.trans (hbb.mono (by omega)))
  have HK2 := Lib.hid (fun k hk => HO2.out.lt k hk)
  generalize cturnE kl l.length = er3 at *
  clear hl3 ho3 hb3 hbb HO12 HO2 HB2
  go_wp2_with fail
  -- the row of three
  have hb4 := (Below.refl w3.heap.size w3).alloc (Nat.le_refl _) (.cells #[.slice A1 n1 c1, .slice A2 n2 c2, .slice A3 n3 c3] 28)
  have hobv : OBV (w3.alloc (.cells #[.slice A1 n1 c1, .slice A2 n2 c2, .slice A3 n3 c3] 28)) B 5 28 (.slice (some ⟨w3.heap.size, 0, none⟩) 3 3) 3 [strL key kl 70, cturnL key kl (l ++ l), cturnL key kl l] [.slice A1 n1 c1, .slice A2 n2 c2, .slice A3 n3 c3] := by
    refine OBV.of_rows (rs := [⟨.slice A1 n1 c1, strL key kl 70, w.heap.size, w1.heap.size⟩, ⟨.slice A2 n2 c2, cturnL key kl (l ++ l), w1.heap.size, w2.heap.size⟩, ⟨.slice A3 n3 c3, cturnL key kl l, w2.heap.size, w3.heap.size⟩]) rfl (World.ownsRow_lit w3 #[.slice A1 n1 c1, .slice A2 n2 c2, .slice A3 n3 c3] 3 (by omega) (by decide) rfl) ?_
      (Rising.cons (by simp; omega) (Rising.cons (by simp) (Rising.cons (by simp) Rising.nil)))
    intro r hr
    simp only [List.mem_cons, List.not_mem_nil, or_false] at hr
    rcases hr with rfl | rfl | rfl
    · exact (Rw.own (own_base HO13.out (by omega)) HK1.out).later hb4
    · exact (Rw.own (own_base HO23.out (by omega)) HK2.out).later hb4
    · exact (Rw.own (own_base HO3.out (by omega)) (fun k hk => HO3.out.lt k hk)).later hb4
  have HV4 := Lib.hid hobv
  have HB4 := Lib.hid (HB3.out.trans (hb4.mono (by omega)))
  have hs4 : (w3.alloc (.cells #[.slice A1 n1 c1, .slice A2 n2 c2, .slice A3 n3 c3] 28)).heap.size = w3.heap.size + 1 := by simp
  clear hobv hb4 HO13 HO23 HO3 HK1 HK2 HB3
  generalize w3.alloc (.cells #[.slice A1 n1 c1, .slice A2 n2 c2, .slice A3 n3 c3] 28) = w4 at *
  obtain ⟨vs, hvs⟩ : ∃ vs, [Value.slice A1 n1 c1, .slice A2 n2 c2, .slice A3 n3 c3] = vs := ⟨_, rfl⟩
  rw [hvs] at HV4
  clear hvs
  refine (New_any A kl c key w4 B (HK.out.below (HB4.out.mono (by omega))) (by omega)).mono ?_
  rintro e w5 (⟨h32, p, rfl, hp, hf, hb⟩ | ⟨h32, rfl, rfl⟩)
  · have HCL := Lib.hid (show clist key kl l = [strL key kl 70, cturnL key kl (l ++ l), cturnL key kl l] ++ [sbytes key 0 5, trnL key 5 l] by rw [clist, if_pos h32])
    have HF5 := Lib.hid hf
    have HV5 := Lib.hid (HV4.out.later hb)
    have HVT := Lib.hid HV4.out.lt
    have HB5 := Lib.hid (HB4.out.trans (hb.mono (by omega)))
    have hz5 := hb.size
    have hp5 := hf.lt
    clear hf hb h32 HV4 HB4
    go_wp2_with fail
    have hnx := Next_any _ p [] key 0 5 w5 HF5.out (by omega)
    rw [show nxtU 0 5 = 5 by decide, show nxtE 0 5 = 0 by decide, show nxtL key 0 5 = sbytes key 0 5 from rfl] at hnx
    refine hnx.mono ?_
    clear hnx
    rintro e w6 ⟨A6, n6, c6, rfl, hl6, ho6, hf6, hg6⟩
    have HO6 := Lib.hid ho6
    have HF6 := Lib.hid hf6
    have HV6 := Lib.hid (show OBV w6 B 5 28 (.slice (some ⟨w3.heap.size, 0, none⟩) 3 3) 3 [strL key kl 70, cturnL key kl (l ++ l), cturnL key kl l] vs from by
      obtain ⟨h1, h2, h3, h4⟩ := HV5.out
      refine ⟨h1, h2.kept hg6 (.inr (by simp [Value.ownBlock]; omega)), fun i hi => ?_, h4⟩
      obtain ⟨Ai, ni, ci, h5, h6⟩ := h3 i hi
      refine ⟨Ai, ni, ci, h5, h6.kept hg6 ?_⟩
      cases hq : (Value.slice Ai ni ci).ownBlock with
      | none => exact .inl rfl
      | some g =>
        right
        intro he
        injection he with he
        have := (HVT.out _ (List.mem_of_getElem? h5) g hq).2
        omega)
    have HB6 := Lib.hid (HB5.out.grown hg6 (by omega) (fun g hg => by injection hg with hg; omega))
    have hz6 := hg6.size
    have hp6 := hf6.lt
    have HK6 := Lib.hid (fun k hk => HO6.out.lt k hk)
    clear hl6 ho6 hf6 hg6 HF5 HV5 HB5
    go_wp2_with fail
    have hrd : Reads (w6.alloc (.cells #[.slice A' n c'] 28)) (w6.heap.size + 1) 1 (some ⟨w6.heap.size, 0, none⟩) 1 [.slice A' n c'] := Reads.lit w6 _ [.slice A' n c'] 1 1 rfl _ rfl
    have hrl : RB (w6.alloc (.cells #[.slice A' n c'] 28)) B A' n l := (HL.out.below (HB6.out.mono (by omega))).alloc (by omega) _
    have hbw : Below w6.heap.size w6 (w6.alloc (.cells #[.slice A' n c'] 28)) := (Below.refl _ _).alloc (Nat.le_refl _) _
    have hft := FTurn_any _ p [] key 5 (some ⟨w6.heap.size, 0, none⟩) 1 1 [l] (w6.alloc (.cells #[.slice A' n c'] 28)) (HF6.out.below hbw hp6) (by omega)
      (fun w' hg => (RBB.of_list (hrd.far hg (by simp) (fun ad had => by injection had with had; subst had; show w6.heap.size ≠ p; omega)) rfl (fun i hi => by
        obtain rfl : i = 0 := by omega
        exact ⟨_, n, c', rfl, hc', (hrl.below ((Below.refl _ _).grown hg (by simp; omega) (fun g hg => by injection hg with hg; omega))).more (by omega)⟩)).more (by have := hg.size; simp at this; omega)) (by omega)
    rw [show ([l] : List (List UInt8)).flatten = l by simp] at hft
    refine hft.mono ?_
    rintro e w7 ⟨A7, n7, c7, rfl, hl7, ho7, hf7, hg7⟩
    have hg : w6.grownBy w7 (some p) := grown_trans (grown_of_below hbw _) hg7
    have hs7 : w6.heap.size < w7.heap.size := by have := hg7.size; simp at this; omega
    have HO7 := Lib.hid (own_base ho7 (base' := w6.heap.size) (by simp))
    have HO67 := Lib.hid (HO6.out.kept hg (by
      cases hq : (Value.slice A6 n6 c6).ownBlock with
      | none => exact .inl rfl
      | some g =>
        right
        intro he
        injection he with he
        have := (HK6.out g hq).1
        omega))
    have HV7 := Lib.hid (show OBV w7 B 5 28 (.slice (some ⟨w3.heap.size, 0, none⟩) 3 3) 3 [strL key kl 70, cturnL key kl (l ++ l), cturnL key kl l] vs from by
      obtain ⟨h1, h2, h3, h4⟩ := HV6.out
      refine ⟨h1, h2.kept hg (.inr (by simp [Value.ownBlock]; omega)), fun i hi => ?_, h4⟩
      obtain ⟨Ai, ni, ci, h5, h6⟩ := h3 i hi
      refine ⟨Ai, ni, ci, h5, h6.kept hg ?_⟩
      cases hq : (Value.slice Ai ni ci).ownBlock with
      | none => exact .inl rfl
      | some g =>
        right
        intro he
        injection he with he
        have := (HVT.out _ (List.mem_of_getElem? h5) g hq).2
        omega)
    have HB7 := Lib.hid (HB6.out.grown hg (by omega) (fun g hg => by injection hg with hg; omega))
    generalize trnE 5 l.length = er7 at *
    clear hft hrd hrl hbw hl7 ho7 hf7 hg7 hg HO6 HF6 HV6 HB6
    have hb8 := (Below.refl w7.heap.size w7).alloc (Nat.le_refl _) (.cells #[.slice A6 n6 c6, .slice A7 n7 c7] 28)
    have hobv : OBV (w7.alloc (.cells #[.slice A6 n6 c6, .slice A7 n7 c7] 28)) B 5 28 (.slice (some ⟨w7.heap.size, 0, none⟩) 2 2) 2 [sbytes key 0 5, trnL key 5 l] [.slice A6 n6 c6, .slice A7 n7 c7] := by
      refine OBV.of_rows (rs := [⟨.slice A6 n6 c6, sbytes key 0 5, w5.heap.size, w6.heap.size⟩, ⟨.slice A7 n7 c7, trnL key 5 l, w6.heap.size, w7.heap.size⟩]) rfl (World.ownsRow_lit w7 #[.slice A6 n6 c6, .slice A7 n7 c7] 2 (by omega) (by decide) rfl) ?_
        (Rising.cons (by simp) (Rising.cons (by simp) Rising.nil))
      intro r hr
      simp only [List.mem_cons, List.not_mem_nil, or_false] at hr
      rcases hr with rfl | rfl
      · exact (Rw.own (own_base HO67.out (by omega)) HK6.out).later hb8
      · exact (Rw.own (own_base HO7.out (by omega)) (fun k hk => HO7.out.lt k hk)).later hb8
    have HN8 := Lib.hid hobv
    have HV8 := Lib.hid (HV7.out.later hb8)
    have HB8 := Lib.hid (HB7.out.trans (hb8.mono (by omega)))
    have HX8 := Lib.hid (show ∀ u ∈ [Value.slice A6 n6 c6, .slice A7 n7 c7], ∀ k, u.ownBlock = some k → w5.heap.size ≤ k from fun u hu k hk => by
      simp only [List.mem_cons, List.not_mem_nil, or_false] at hu
      rcases hu with rfl | rfl
      · exact (HK6.out k hk).1
      · have := (HO7.out.lt k hk).1
        omega)
    have hs8 : (w7.alloc (.cells #[.slice A6 n6 c6, .slice A7 n7 c7] 28)).heap.size = w7.heap.size + 1 := by simp
    clear hobv hb8 HV7 HB7 HO7 HO67 HK6
    go_wp2_with (at_builtin; refine wl_app TBB rfl (.tmp 65) (.tmp 68) rfl (.slice (some ⟨w3.heap.size, 0, none⟩) 3 3) rfl (some ⟨w7.heap.size, 0, none⟩) 2 2 rfl B 3 vs HV8.out.2.1 (w7.alloc (.cells #[.slice A6 n6 c6, .slice A7 n7 c7] 28)).heap.size _ (Reads.of_own HN8.out.2.1) HN8.out.one (by omega) (by omega) (by omega) ?q6)
    case q6 =>
      intro A9 c9 w9 hown hgr hat
      have HV9 := Lib.hid (HV8.out.join HN8.out (T := w4.heap.size) (fun u hu k hk => (HVT.out u hu k hk).2) (fun u hu k hk => by have := HX8.out u hu k hk; omega) (by decide) hgr hown)
      have HB9 := Lib.hid (HB8.out.grown hgr (by omega) (fun g hg => by
        have : w3.heap.size = g := by simpa [Value.ownBlock] using hg
        omega))
      clear hown hgr hat HV8 HN8 HB8
      go_wp2_with fail
      go_ret
      refine ⟨A9, 5, c9, vs ++ [.slice A6 n6 c6, .slice A7 n7 c7], rfl, ?_, HB9.out⟩
      rw [HCL.out, HBB.out]
      exact HV9.out
  · have HCL := Lib.hid (show clist key kl l = [strL key kl 70, cturnL key kl (l ++ l), cturnL key kl l] by rw [clist, if_neg h32, List.append_nil])
    clear h32
    go_wp2_with fail
    go_ret
    refine ⟨_, 3, 3, vs, rfl, ?_, HB4.out⟩
    rw [HCL.out, HBB.out]
    exact HV4.out
end Go.Proofs.Ytbnlpahgpphpjaa
