/-
  The contract of shallotref01.Apart: lists of bytes that are rows of the call's own, no two in one block, are told to be apart. Conditions: the sizes that slices can have.
-/
import Derived.Test.YtobmopjfbgkfbaaApartInv
import Derived.StillTailTactics
namespace Go.Proofs.Ytobmopjfbgkfbaa
open Go Go.RowKit Go.Sh

set_option maxRecDepth 100000 in
theorem TLL : STy Try.prog 22 26 (.slice none 0 0) 1 24 := ⟨Try.underlying22, by kernel_rfl, rfl, by decide⟩
theorem mark_still (i j : Nat) (w : World) (hi : i ≤ 1125899906842624) (hj : j ≤ 1125899906842624) :
    Calls Try.prog 73 #[.int .i64 (i : Int), .int .i64 (j : Int)] w (fun e w' => e = .returned (.int .u8 ((mk i j).toNat : Int)) ∧ w' = w) :=
  (mark_any i j w hi hj).mono fun _ _ ⟨h1, h2⟩ => ⟨h1, h2.symm⟩
theorem mark_quiet (i j : Nat) (w : World) (a n : Nat) (hi : i ≤ 1125899906842624) (hj : j ≤ 1125899906842624) :
    Calls Try.prog 73 #[.int .i64 (i : Int), .int .i64 (j : Int)] (w.drewN (a + n)) (fun e w' => e = .returned (.int .u8 ((mk i j).toNat : Int)) ∧ ∃ m, w' = w.drewN (a + m)) :=
  (mark_any i j _ hi hj).mono fun _ _ ⟨h1, h2⟩ => ⟨h1, n, h2.symm⟩
theorem mark_sum (i n q : Nat) (w : World) (hi : i ≤ 1125899906842624) (hj : n + q ≤ 1125899906842624) :
    Calls Try.prog 73 #[.int .i64 (i : Int), .int .i64 ((n : Int) + (q : Int))] w (fun e w' => e = .returned (.int .u8 ((mk i (n + q)).toNat : Int)) ∧ w = w') := by
  have := mark_any i (n + q) w hi hj
  rw [Int.natCast_add] at this
  exact this
theorem own_row_at {w : World} {base t m c i : Nat} {A : Option Addr} {vs : List Value} (h : w.ownsRow base t 1 (.slice A m c) m vs) (hi : i < m) : ∃ G, A = some ⟨G, 0, none⟩ ∧ w.cell? ⟨G, i, none⟩ = vs[i]? := by
  rcases h.2 with ⟨_, h0⟩ | ⟨g, cap, cur, hx, _⟩
  · omega
  · injection hx with hx _ _
    subst hx
    exact ⟨g, rfl, h.cellAt i (by omega)⟩
theorem own_at2 {w : World} {base t m c i : Nat} {A : Option Addr} {vs : List Value} (h : w.ownsRow base t 1 (.slice A m c) m vs) (hi : i < m) {u : Value} (hu : vs[i]? = some u) : ∃ G, A = some ⟨G, 0, none⟩ ∧ w.cell? ⟨G, i, none⟩ = some u := by
  obtain ⟨G, h1, h2⟩ := own_row_at h hi
  exact ⟨G, h1, h2.trans hu⟩

set_option maxHeartbeats 2000000 in
set_option maxRecDepth 100000 in
theorem Apart_any (A : Option Addr) (m c : Nat) (ls : List (List UInt8)) (vs : List Value) (w : World) (base : Nat) (h : OBV w base 5 26 (.slice A m c) m ls vs) (hm : m ≤ 1000000000)
    (hs : ∀ l ∈ ls, l.length ≤ 140737488355288) (hbase : base ≤ w.heap.size) : Calls Try.prog 45 #[.slice A m c] w (fun e w' => e = .returned (.bool true) ∧ Below base w w') := by
  have HSEP := Lib.hid h.2.2.2
  have HVL := Lib.hid h.len
  have HO := Lib.hid h.2.1
  have HSZ := Lib.hid (show ∀ (j : Nat) (u : Value), vs[j]? = some u → ∃ A n c, u = .slice A n c ∧ n ≤ 140737488355288 by
    intro j u hu
    have hj := (List.getElem?_eq_some_iff.1 hu).1
    obtain ⟨Ai, ni, ci, hv, ho⟩ := h.2.2.1 j (by have := h.len; omega)
    rw [hu] at hv
    obtain rfl := Option.some.inj hv
    refine ⟨Ai, ni, ci, rfl, ?_⟩
    have h1 := ho.1
    rw [length_bv] at h1
    have h2 := hs _ (lat_mem (ls := ls) (k := j) (by have := h.1; have := h.len; omega))
    omega)
  have HP := Lib.hid (show P1 w base 5 vs 0 0 from P1.start (by
    intro j u hu
    have hj := (List.getElem?_eq_some_iff.1 hu).1
    obtain ⟨Ai, ni, ci, hv, ho⟩ := h.2.2.1 j (by have := h.len; omega)
    rw [hu] at hv
    obtain rfl := Option.some.inj hv
    exact ⟨_, ho⟩))
  have HVS := Lib.hid (show ∀ k, k < m → ∃ u, vs[k]? = some u from fun k hk => ⟨_, List.getElem?_eq_getElem (by have := h.len; omega)⟩)
  clear h hs
  go_enter Try.func45, Try.ntmps45
  go_wp2
  go_loopw [3, 4] (fun i _ wr => ∃ k : Nat, k ≤ m ∧ i = .int .i64 k ∧ P1 wr base 5 vs k 0 ∧ wr.ownsRow base 26 1 (.slice A m c) m vs ∧ Below base w wr) (fun i _ _ => m - (intOf i).toNat)
  case atStart => exact ⟨0, by omega, rfl, HP.out, HO.out, Below.refl _ _⟩
  case round =>
    obtain ⟨k, hk, rfl, hp, ho, hb⟩ := hrel
    have HP1 := Lib.hid hp
    have HO1 := Lib.hid ho
    have HB1 := Lib.hid hb
    clear hp ho hb HP HO
    by_cases hlt : k < m
    · obtain ⟨u, hu⟩ := HVS.out k hlt
      obtain ⟨Ai, n, ci, rfl, hn⟩ := HSZ.out k u hu
      have HU := Lib.hid hu
      clear hu
      go_wp2
      go_loopw [4] (fun j wr => ∃ q : Nat, q ≤ n ∧ j = .int .i64 q ∧ P1 wr base 5 vs k q ∧ wr.ownsRow base 26 1 (.slice A m c) m vs ∧ Below base w wr) (fun j _ => n - (intOf j).toNat)
      case atStart => exact ⟨0, by omega, rfl, HP1.out, HO1.out, HB1.out⟩
      case round =>
        obtain ⟨q, hq, rfl, hp, ho, hb⟩ := hrel
        have HP2 := Lib.hid hp
        have HO2 := Lib.hid ho
        have HB2 := Lib.hid hb
        clear hp ho hb HP1 HO1 HB1
        obtain ⟨G, rfl, hc⟩ := own_at2 HO2.out hlt HU.out
        by_cases hql : q < n
        · obtain ⟨l, hl, ht⟩ := HP2.out.row HU.out
          have HL := Lib.hid (show wr.ownsRow base 5 1 (.slice Ai n ci) n (bv l) from hl)
          have HT := Lib.hid ht
          clear hl ht
          obtain ⟨g, rfl, hcr⟩ := own_row_at HL.out hql
          rw [bv_at _ _ (by have := HL.out.1; rw [length_bv] at this; omega)] at hcr
          have hfr := HL.out.frozenAt q
          have hst := World.ownsRow.stored (w := wr.drew) HL.out q (.int .u8 ((mk k q).toNat : Int))
          have HST := Lib.hid hst
          clear hst
          go_wp2
          go_still_tail 9, (by kernel_rfl)
          still_call (mark_still k q _ (by omega) (by omega))
          repeat still_step
          refine wpStill_nil ?_
          change wpList _ _ _ _ _ (World.drew _)
          go_wp2
          have hg : (wr.drew).grownBy _ (Value.slice (some ⟨g, 0, none⟩) n ci).ownBlock := HST.out.2
          refine ⟨⟨q + 1, by omega, by go_num, ?_, ?_, ?_⟩, by simp [intOf]; omega⟩
          · refine P1.put (w := wr.drew) (HP2.out.drewN 1) HSEP.out HU.out HL.out HT.out hql ?_ hg
            have := HST.out.1
            rw [bv_put'] at this
            exact this
          · exact own_other (w := wr.drew) HO2.out HL.out (by decide) hg
          · exact (HB2.out.drew).setCell (HL.out.lt g rfl).1 _
        · obtain rfl : q = n := by omega
          go_wp2
          refine ⟨⟨k + 1, by omega, by go_num, HP2.out.next HU.out, HO2.out, HB2.out⟩, by simp [intOf]; omega⟩
    · obtain rfl : k = m := by omega
      have hfam := HP1.out
      rw [← HVL.out] at hfam
      have HF := Lib.hid (P1.fam hfam HSEP.out)
      have HT0 := Lib.hid (show ∀ g, (Value.slice A k c).ownBlock = some g → g < wr.heap.size from fun g hg => (HO1.out.lt g hg).2)
      have HQ := Lib.hid (show P2 wr base wr.heap.size 5 26 (.slice A k c) k vs (.slice none 0 0) 0 [] (vs.zipIdx.map fun x => (x.1, x.2, slen x.1)) from
        ⟨HF.out, fun i u hu => List.mem_map.2 ⟨(u, i), List.mem_zipIdx_iff_getElem?.2 hu, rfl⟩, HO1.out, HT0.out, World.ownsRow_nil _ _ _ _, fun q u hu => by simp at hu⟩)
      have hbs : base ≤ wr.heap.size := Nat.le_trans hbase HB1.out.size
      obtain ⟨top, htop⟩ : ∃ top, wr.heap.size = top := ⟨_, rfl⟩
      have HTT := Lib.hid htop
      rw [htop] at HQ hbs
      clear hfam HF HT0 htop HP1 HO1
      go_wp2
      go_loopw [5, 6, 7, 8] (fun gv i _ _ wr => ∃ (q : Nat) (A' : Option Addr) (c' : Nat) (gs : List Value) (S : List (Value × Nat × Nat)), q ≤ k ∧ i = .int .i64 q ∧ gv = .slice A' q c' ∧ P2 wr base top 5 26 (.slice A k c) k vs (.slice A' q c') q gs S ∧ top ≤ wr.heap.size ∧ Below base w wr) (fun _ i _ _ _ => k - (intOf i).toNat)
      case atStart => exact ⟨0, none, 0, [], _, by omega, rfl, rfl, HQ.out, by rw [HTT.out]; exact Nat.le_refl _, HB1.out⟩
      case round =>
        obtain ⟨q, A', c', gs, S, hq, rfl, rfl, hp, htw, hb⟩ := hrel
        have HQ2 := Lib.hid hp
        have HB2 := Lib.hid hb
        clear hp hb HQ HB1 HTT
        by_cases hlt : q < k
        · obtain ⟨u, hu⟩ := HVS.out q hlt
          obtain ⟨Ai, n, ci, rfl, hn⟩ := HSZ.out q u hu
          have HU := Lib.hid hu
          clear hu
          obtain ⟨G, rfl, hc⟩ := own_at2 HQ2.out.lrow hlt HU.out
          go_wp2
          go_loopw [7, 8] (fun gv j wr => ∃ (p : Nat) (A1 : Option Addr) (c1 : Nat) (S1 : List (Value × Nat × Nat)), p ≤ 16 ∧ j = .int .i64 p ∧ gv = .slice A1 (n + p) c1 ∧ (Value.slice A1 (n + p) c1, q, n + p) ∈ S1 ∧ P2 wr base top 5 26 (.slice (some ⟨G, 0, none⟩) k c) k vs (.slice A' q c') q gs S1 ∧ top ≤ wr.heap.size ∧ Below base w wr) (fun _ j _ => 16 - (intOf j).toNat)
          case atStart => exact ⟨0, Ai, ci, S, by omega, rfl, rfl, HQ2.out.mem q _ HU.out, HQ2.out, htw, HB2.out⟩
          case round =>
            clear hc
            obtain ⟨p, A1, c1, S1, hp16, rfl, rfl, hmem, hp, htw2, hb⟩ := hrel
            have HQ3 := Lib.hid hp
            have HB3 := Lib.hid hb
            have HM := Lib.hid hmem
            clear hp hb HQ2 HB2 hmem
            obtain ⟨G', hG, hc⟩ := own_at2 HQ3.out.lrow hlt HU.out
            obtain rfl : G = G' := by injection hG with hG; injection hG
            clear hG
            by_cases hpl : p < 16
            · have HMK := Lib.hid (fun W => mark_sum q n p W (by omega) (by omega))
              go_wp2_with fail
              refine (HMK.out _).mono ?_
              rintro e w2 ⟨rfl, rfl⟩
              have HQ4 := Lib.hid (HQ3.out.later ((Below.refl wr.heap.size wr).alloc (Nat.le_refl _) (.cells #[.int .u8 ((mk q (n + p)).toNat : Int)] 5)))
              have HB4 := Lib.hid (HB3.out.alloc (Nat.le_trans hbase HB3.out.size) (.cells #[.int .u8 ((mk q (n + p)).toNat : Int)] 5))
              clear HQ3 HMK hc
              go_wp2_with (at_builtin; refine wl_appF TB rfl (.tmp 54) (.tmp 64) rfl (.slice A1 (n + p) c1) rfl (some ⟨wr.heap.size, 0, none⟩) 1 1 rfl base S1 q (n + p) HQ4.out.fam HM.out (wr.heap.size + 1) ?f3 (by omega) ?f4 ?f5 ?f6 ?f7)
              case f3 =>
                have := Reads.lit wr 5 [.int .u8 ((mk q (n + p)).toNat : Int)] 1 1 rfl _ rfl
                simpa [RB, marksAt, bv] using this
              case f4 => omega
              case f5 => omega
              case f6 => simp; omega
              case f7 =>
                intro A2 c2 w3 hf hg
                have HQ5 := Lib.hid (HQ4.out.app (by decide) HM.out hf hg)
                have HB5 := Lib.hid (HB4.out.grown hg (by simp; omega) (fun g hgg => ((HQ4.out.fam.row _ _ _ HM.out).lt g hgg).1))
                have hz5 := hg.size
                clear hf hg HQ4 HB4
                go_wp2
                refine ⟨⟨p + 1, A2, c2, _, by omega, by go_num, rfl, List.mem_cons_self, HQ5.out, ?_, HB5.out⟩, by simp [intOf]; omega⟩
                simp at hz5
                omega
            · obtain rfl : p = 16 := by omega
              have HQ4 := Lib.hid (HQ3.out.later ((Below.refl wr.heap.size wr).alloc (Nat.le_refl _) (.cells #[.slice A1 (n + 16) c1] 26)))
              have HB4 := Lib.hid (HB3.out.alloc (Nat.le_trans hbase HB3.out.size) (.cells #[.slice A1 (n + 16) c1] 26))
              clear HQ3
              go_wp2_with (at_builtin; refine wl_app TLL rfl (.tmp 66) (.tmp 68) rfl (.slice A' q c') rfl (some ⟨wr.heap.size, 0, none⟩) 1 1 rfl top q gs HQ4.out.grow (wr.heap.size + 1) [.slice A1 (n + 16) c1] ?g2 ?g3 ?g4 ?g5 ?g6 ?g7)
              case g2 => exact Reads.lit wr _ [.slice A1 (n + 16) c1] 1 1 rfl _ rfl
              case g3 => simp [Value.oneCell']
              case g4 => omega
              case g5 => omega
              case g6 => simp; omega
              case g7 =>
                intro A3 c3 w3 hown3 hg3 hat
                have HQ5 := Lib.hid (HQ4.out.snoc (by decide) HM.out (Nat.mod_eq_of_lt hlt) (by omega) hown3 hg3)
                have HB5 := Lib.hid (HB4.out.grown hg3 (by simp; omega) (fun g hgg => Nat.le_trans hbs ((HQ4.out.grow.lt g hgg).1)))
                have hz5 := hg3.size
                clear hown3 hg3 hat HQ4 HB4
                go_wp2
                refine ⟨⟨q + 1, A3, c3, _, _, by omega, by go_num, rfl, HQ5.out, ?_, HB5.out⟩, by simp [intOf]; omega⟩
                simp at hz5
                omega
        · obtain rfl : q = k := by omega
          go_wp2
          go_loopw [5, 9, 10, 11] (fun gv i _ _ wr => ∃ (p : Nat) (A' : Option Addr) (c' : Nat) (gs : List Value) (S : List (Value × Nat × Nat)), p ≤ q ∧ i = .int .i64 p ∧ gv = .slice A' (q + p) c' ∧ P2 wr base top 5 26 (.slice A q c) q vs (.slice A' (q + p) c') (q + p) gs S ∧ top ≤ wr.heap.size ∧ Below base w wr) (fun _ i _ _ _ => q - (intOf i).toNat)
          case atStart => exact ⟨0, A', c', gs, S, by omega, rfl, rfl, HQ2.out, htw, HB2.out⟩
          case round =>
            obtain ⟨p, A'', c'', gs', S', hpq, rfl, rfl, hp, htw2, hb⟩ := hrel
            have HQ3 := Lib.hid hp
            have HB3 := Lib.hid hb
            clear hp hb HQ2 HB2
            by_cases hlt : p < q
            · obtain ⟨u, hu⟩ := HVS.out p hlt
              obtain ⟨Ai, n, ci, rfl, hn⟩ := HSZ.out p u hu
              have HU := Lib.hid hu
              clear hu
              go_wp2_with (at_make; refine wl_makeB TB rfl (.const (.int .i64 40)) (.const (.int .i64 40)) rfl .i64 .i64 _ _ rfl rfl 40 rfl rfl (by omega) wr.heap.size (Nat.le_refl _) ?m5)
              case m5 =>
                intro w3 hown3 hg3 hlt3
                have HW := Lib.hid (show Below wr.heap.size wr w3 from (Below.refl _ _).grown hg3 (Nat.le_refl _) (by simp))
                have HO3 := Lib.hid hown3
                have HB0 := Lib.hid HB3.out
                have HQ0 := Lib.hid HQ3.out
                clear hown3 hg3 HB3 HQ3
                obtain ⟨b3, hb3⟩ : ∃ b3, wr.heap.size = b3 := ⟨_, rfl⟩
                have HH := Lib.hid hb3
                rw [hb3] at HW HO3 hlt3 htw2
                generalize wr = w0 at *
                go_wp2
                rw [hb3]
                clear hb3
                go_loopw [11] (fun j wr => ∃ r : Nat, r ≤ 40 ∧ j = .int .i64 r ∧ wr.ownsRow b3 5 1 (.slice (some ⟨b3, 0, none⟩) 40 40) 40 (bv (marksAt p n r ++ zs (40 - r))) ∧ Below b3 w0 wr) (fun j _ => 40 - (intOf j).toNat)
                case atStart => exact ⟨0, by omega, rfl, by simpa [marksAt] using HO3.out, HW.out⟩
                case round =>
                  obtain ⟨r, hr, rfl, ho, hb⟩ := hrel
                  have HO4 := Lib.hid ho
                  have HB4 := Lib.hid hb
                  clear ho hb HO3 HW
                  have HQ4 := Lib.hid (HQ0.out.later (by rw [HH.out]; exact HB4.out))
                  obtain ⟨G, rfl, hc⟩ := own_at2 HQ4.out.lrow hlt HU.out
                  by_cases hrl : r < 40
                  · have hcr := HO4.out.cellAt r (by omega)
                    rw [bv_at _ _ (by rw [List.length_append, length_marksAt, length_zs]; omega)] at hcr
                    have hfr := HO4.out.frozenAt r
                    have HST := Lib.hid (HO4.out.stored r (.int .u8 ((mk p (n + r)).toNat : Int)))
                    have HMK := Lib.hid (fun W => mark_sum p n r W (by omega) (by omega))
                    go_wp2_with fail
                    refine (HMK.out _).mono ?_
                    rintro e w5 ⟨rfl, rfl⟩
                    clear HMK
                    go_wp2
                    refine ⟨⟨r + 1, by omega, by go_num, ?_, HB4.out.setCell (Nat.le_refl _) _⟩, by simp [intOf]; omega⟩
                    have h := HST.out.1
                    rw [bv_put', List.set_append_right _ _ (by rw [length_marksAt]; exact Nat.le_refl _), length_marksAt, Nat.sub_self, show zs (40 - r) = 0 :: zs (40 - (r + 1)) by rw [show 40 - r = (40 - (r + 1)) + 1 by omega]; rfl, List.set_cons_zero] at h
                    rw [marksAt_succ, List.append_assoc]
                    exact h
                  · obtain rfl : r = 40 := by omega
                    have hsrc := HO4.out
                    rw [show marksAt p n 40 ++ zs (40 - 40) = marksAt p n 40 by simp [zs]] at hsrc
                    have HSR := Lib.hid (RB.of_own hsrc)
                    have hz4 : b3 ≤ wr.heap.size := by rw [← HH.out]; exact HB4.out.size
                    have hz0 : w0.heap.size = b3 := HH.out
                    have HB5 := Lib.hid (show Below base w wr from HB0.out.trans (HB4.out.mono (by omega)))
                    clear hsrc HO4 HB4 HQ0 HB0
                    go_wp2_with (at_builtin; refine wl_appF TB rfl (.tmp 97) (.tmp 98) rfl (.slice Ai n ci) rfl (some ⟨b3, 0, none⟩) 40 40 rfl base S' p n HQ4.out.fam (HQ4.out.mem p _ HU.out) wr.heap.size HSR.out (by omega) ?f4 ?f5 ?f6 ?f7)
                    case f4 => omega
                    case f5 => omega
                    case f6 => omega
                    case f7 =>
                      intro A2 c2 w6 hf hg
                      have HQ6 := Lib.hid ((HQ4.out.app (by decide) (HQ4.out.mem p _ HU.out) hf hg).later ((Below.refl w6.heap.size w6).alloc (Nat.le_refl _) (.cells #[.slice A2 (n + 40) c2] 26)))
                      have hz6 := hg.size
                      have HB6 := Lib.hid ((HB5.out.grown hg (by omega) (fun g hgg => ((HQ4.out.fam.row _ _ _ (HQ4.out.mem p _ HU.out)).lt g hgg).1)).alloc (by omega) (.cells #[.slice A2 (n + 40) c2] 26))
                      clear hf hg HQ4 HB5 HSR hc
                      go_wp2_with (at_builtin; refine wl_app TLL rfl (.tmp 93) (.tmp 100) rfl (.slice A'' (q + p) c'') rfl (some ⟨w6.heap.size, 0, none⟩) 1 1 rfl top (q + p) gs' HQ6.out.grow (w6.heap.size + 1) [.slice A2 (n + 40) c2] ?g2 ?g3 ?g4 ?g5 ?g6 ?g7)
                      case g2 => exact Reads.lit w6 _ [.slice A2 (n + 40) c2] 1 1 rfl _ rfl
                      case g3 => simp [Value.oneCell']
                      case g4 => omega
                      case g5 => omega
                      case g6 => simp; omega
                      case g7 =>
                        intro A3 c3 w7 hown3 hg3 hat
                        have HQ7 := Lib.hid (HQ6.out.snoc (by decide) List.mem_cons_self (by rw [Nat.add_mod_left]; exact Nat.mod_eq_of_lt hlt) (by omega) hown3 hg3)
                        have HB7 := Lib.hid (HB6.out.grown hg3 (by simp; omega) (fun g hgg => Nat.le_trans hbs ((HQ6.out.grow.lt g hgg).1)))
                        have hz7 := hg3.size
                        simp at hz7
                        clear hown3 hg3 hat HQ6 HB6
                        go_wp2
                        exact ⟨⟨p + 1, A3, c3, _, _, by omega, by go_num, rfl, HQ7.out, by omega, HB7.out⟩, by simp [intOf]; omega⟩
            · obtain rfl : p = q := by omega
              generalize wr = w8 at *
              have HGL := Lib.hid (show gs'.length = p + p by have := HQ3.out.grow.1; omega)
              go_wp2
              go_loopw [12, 13] (fun i _ wr => ∃ k nd : Nat, k ≤ p + p ∧ i = .int .i64 k ∧ wr = w8.drewN nd) (fun i _ _ => p + p - (intOf i).toNat)
              case atStart => exact ⟨0, 0, by omega, rfl, rfl⟩
              case round =>
                obtain ⟨k, nd, hk, rfl, rfl⟩ := hrel
                by_cases hlt : k < p + p
                · obtain ⟨u, hu⟩ : ∃ u, gs'[k]? = some u := ⟨_, List.getElem?_eq_getElem (by rw [HGL.out]; exact hlt)⟩
                  obtain ⟨Ag, n, cg, rfl, hmem, hn⟩ := HQ3.out.gmem k u hu
                  obtain ⟨G, hG, hc⟩ := own_at2 HQ3.out.grow hlt hu
                  have HR := Lib.hid (HQ3.out.fam.row _ _ _ hmem)
                  subst hG
                  clear hu hmem
                  go_wp2
                  go_loopw [13] (fun j wr => ∃ r nd : Nat, r ≤ n ∧ j = .int .i64 r ∧ wr = w8.drewN nd) (fun j _ => n - (intOf j).toNat)
                  case atStart => exact ⟨0, nd, by omega, rfl, rfl⟩
                  case round =>
                    obtain ⟨r, nd2, hr, rfl, rfl⟩ := hrel
                    by_cases hrl : r < n
                    · obtain ⟨g, rfl, hcr⟩ := own_row_at HR.out hrl
                      rw [bv_at _ _ (by rw [length_marks]; exact hrl), bt_marks _ _ _ hrl] at hcr
                      have hmod : (k : Int).tmod (p : Int) = ((k % p : Nat) : Int) := by rw [Int.tmod_eq_emod_of_nonneg (by omega)]; simp
                      have hp0 : ¬ (p : Int) = 0 := by omega
                      have hkp : k % p < p := Nat.mod_lt _ (by omega)
                      have hne : (((mk (k % p) r).toNat : Int) != ((mk (k % p) r).toNat : Int)) = false := by simp
                      have HMK := Lib.hid (fun a n => mark_quiet (k % p) r w8 a n (by omega) (by omega))
                      generalize k % p = kp at *
                      generalize (mk kp r).toNat = mv at *
                      go_wp2
                      go_quiet ((go_at_call 73; exact HMK.out _ _))
                      go_wp2
                      exact ⟨⟨r + 1, nd2 + nq, by omega, by go_num, rfl⟩, by simp [intOf]; omega⟩
                    · obtain rfl : r = n := by omega
                      go_wp2
                      exact ⟨⟨k + 1, nd2, by omega, by go_num, rfl⟩, by simp [intOf]; omega⟩
                · obtain rfl : k = p + p := by omega
                  go_wp2
                  go_loopw [14, 15] (fun i _ wr => ∃ k nd : Nat, k ≤ p ∧ i = .int .i64 k ∧ wr = w8.drewN nd) (fun i _ _ => p - (intOf i).toNat)
                  case atStart => exact ⟨0, nd, by omega, rfl, rfl⟩
                  case round =>
                    obtain ⟨k, nd, hk2, rfl, rfl⟩ := hrel
                    by_cases hlt : k < p
                    · obtain ⟨u, hu⟩ := HVS.out k hlt
                      obtain ⟨Ai, n, ci, rfl, hn⟩ := HSZ.out k u hu
                      have HR := Lib.hid (show w8.ownsRow base 5 1 (.slice Ai n ci) n (bv (marks k n)) from HQ3.out.fam.row _ _ _ (HQ3.out.mem k _ hu))
                      obtain ⟨G, rfl, hc⟩ := own_at2 HQ3.out.lrow hlt hu
                      clear hu
                      go_wp2
                      go_loopw [15] (fun j wr => ∃ r nd : Nat, r ≤ n ∧ j = .int .i64 r ∧ wr = w8.drewN nd) (fun j _ => n - (intOf j).toNat)
                      case atStart => exact ⟨0, nd, by omega, rfl, rfl⟩
                      case round =>
                        obtain ⟨r, nd2, hr, rfl, rfl⟩ := hrel
                        by_cases hrl : r < n
                        · obtain ⟨g, rfl, hcr⟩ := own_row_at HR.out hrl
                          rw [bv_at _ _ (by rw [length_marks]; exact hrl), bt_marks _ _ _ hrl] at hcr
                          have hne : (((mk k r).toNat : Int) != ((mk k r).toNat : Int)) = false := by simp
                          have HMK := Lib.hid (fun a n => mark_quiet k r w8 a n (by omega) (by omega))
                          generalize (mk k r).toNat = mv at *
                          go_wp2
                          go_quiet ((go_at_call 73; exact HMK.out _ _))
                          go_wp2
                          exact ⟨⟨r + 1, nd2 + nq, by omega, by go_num, rfl⟩, by simp [intOf]; omega⟩
                        · obtain rfl : r = n := by omega
                          go_wp2
                          exact ⟨⟨k + 1, nd2, by omega, by go_num, rfl⟩, by simp [intOf]; omega⟩
                    · go_wp2
                      go_ret
                      exact ⟨rfl, below_drewN HB3.out nd⟩
end Go.Proofs.Ytobmopjfbgkfbaa
