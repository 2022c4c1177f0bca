/-
  Contract of shallotref10.Same at equal commands, and the walk of shallotlaw10.CommandPaths: it returns true; nothing that was there has turned. Conditions: the fields fit their types; the sizes that slices can have.
-/
import Derived.Test.YtobmopjfbgkfbaaRefPath
import Derived.Test.YtobmopjfbgkfbaaHops
import Derived.Test.YtobmopjfbgkfbaaCmdAwake
import Derived.Test.YtobmopjfbgkfbaaSized
namespace Go.Proofs.Ytobmopjfbgkfbaa
open Go Go.RowKit Go.Sh

set_option maxHeartbeats 2000000 in
set_option maxRecDepth 100000 in
theorem SameC_any (A A' : Option Addr) (n c c' : Nat) (cl : List Cmd) (w : World) (B B' : Nat) (hl : RC w B A n cl) (hr : RC w B' A' n cl) (hn : n ≤ 140737488355328) :
    Calls Try.prog 36 #[.slice A n c, .slice A' n c'] w (fun e w' => e = .returned (.bool true) ∧ ∃ d, w' = w.drewN d) := by
  have HL := Lib.hid hl
  have HR := Lib.hid hr
  clear hl hr
  have dnn : ((n : Int) != (n : Int)) = false := by simp
  go_enter Try.func36, Try.ntmps36
  go_wp2_with fail
  go_loopw [5] (fun i wr => ∃ k d : Nat, k ≤ n ∧ i = .int .i64 (k : Int) ∧ wr = w.drewN d) (fun i _ => n - (intOf i).toNat)
  case atStart => exact ⟨0, 0, by omega, rfl, rfl⟩
  case round =>
    obtain ⟨k, d, hk, rfl, rfl⟩ := hrel
    by_cases hlt : k < n
    · obtain ⟨b, off, e, rfl, _, he, hok, hrg⟩ := HL.out.at_ hlt
      obtain ⟨b', off', e', rfl, _, he', _, hrg'⟩ := HR.out.at_ hlt
      rw [he] at he'
      obtain rfl := Option.some.inj he'
      have HI := Lib.hid (show (Try.prog.info? 68).map (·.size) = some e.cells.length by rw [hok.size]; kernel_rfl)
      have heq := cmd_same e hok
      have hki : (k : Int) < (n : Int) := by omega
      go_wp2_with fail
      refine wp_region_held_drew (S := (fun w' => w'.rangeAt b (off + k * 20) e.cells ∧ w'.rangeAt b' (off' + k * 20) e.cells)) (by kernel_rfl) ?_ (fun hHeld => ?_)
      · (try dsimp only)
        exact ⟨hrg, hrg'⟩
      refine wpAnyH_take (i := 0) (v := ?v1) rfl (by kernel_rfl) (by kernel_rfl) (by kernel_rfl) (fun _ _ _ h => h) (Or.inl ⟨by rfl, ?y1⟩) (by assumption) ?r1
      case y1 => (intro w hSw; (try dsimp only at hSw); first | (go_simp; done) | (go_simp; with_reducible rfl))
      (try simp only [List.getElem_toArray, List.getElem_cons_zero, Act.put, List.setIfInBounds_toArray, List.set_cons_zero, List.set_cons_succ])
      refine wpAnyH_take (i := 1) (v := ?v2) rfl (by kernel_rfl) (by kernel_rfl) (by kernel_rfl) (fun _ _ _ h => h) (Or.inl ⟨by rfl, ?y2⟩) (by assumption) ?r2
      case y2 => (intro w hSw; (try dsimp only at hSw); first | (go_simp; done) | (go_simp; with_reducible rfl))
      (try simp only [List.getElem_toArray, List.getElem_cons_zero, List.getElem_cons_succ, Act.put, List.setIfInBounds_toArray, List.set_cons_zero, List.set_cons_succ])
      refine wpAnyH_take (i := 2) (v := ?v3) rfl (by kernel_rfl) (by kernel_rfl) (by kernel_rfl) (fun _ _ _ h => h) (Or.inl ⟨by rfl, ?y3⟩) (by assumption) ?r3
      case y3 => (intro w hSw; (try dsimp only at hSw); first | (go_simp; done) | (go_simp; with_reducible rfl))
      (try simp only [List.getElem_toArray, List.getElem_cons_zero, List.getElem_cons_succ, Act.put, List.setIfInBounds_toArray, List.set_cons_zero, List.set_cons_succ])
      refine wpAnyH_take (i := 3) rfl (by kernel_rfl) (by kernel_rfl) (by kernel_rfl) (fun _ _ _ h => h) (yieldsIf_load_mid (by rfl) 68 _ rfl b (off + k * 20) rfl e.cells _ (fun w hSw => hSw.1) Try.underlying68 rfl HI.out) (by assumption) ?_
      (try simp only [List.getElem_toArray, List.getElem_cons_zero, List.getElem_cons_succ, Act.put, List.setIfInBounds_toArray, List.set_cons_zero, List.set_cons_succ])
      refine wpAnyH_take (i := 4) (v := ?v5) rfl (by kernel_rfl) (by kernel_rfl) (by kernel_rfl) (fun _ _ _ h => h) (Or.inl ⟨by rfl, ?y5⟩) (by assumption) ?r5
      case y5 => (intro w hSw; (try dsimp only at hSw); first | (go_simp; done) | (go_simp; with_reducible rfl))
      (try simp only [List.getElem_toArray, List.getElem_cons_zero, List.getElem_cons_succ, Act.put, List.setIfInBounds_toArray, List.set_cons_zero, List.set_cons_succ])
      refine wpAnyH_take (i := 5) (v := ?v6) rfl (by kernel_rfl) (by kernel_rfl) (by kernel_rfl) (fun _ _ _ h => h) (Or.inl ⟨by rfl, ?y6⟩) (by assumption) ?r6
      case y6 => (intro w hSw; (try dsimp only at hSw); first | (go_simp; done) | (go_simp; with_reducible rfl))
      (try simp only [List.getElem_toArray, List.getElem_cons_zero, List.getElem_cons_succ, Act.put, List.setIfInBounds_toArray, List.set_cons_zero, List.set_cons_succ])
      refine wpAnyH_take (i := 6) (v := ?v7) rfl (by kernel_rfl) (by kernel_rfl) (by kernel_rfl) (fun _ _ _ h => h) (Or.inl ⟨by rfl, ?y7⟩) (by assumption) ?r7
      case y7 => (intro w hSw; (try dsimp only at hSw); first | (go_simp; done) | (go_simp; with_reducible rfl))
      (try simp only [List.getElem_toArray, List.getElem_cons_zero, List.getElem_cons_succ, Act.put, List.setIfInBounds_toArray, List.set_cons_zero, List.set_cons_succ])
      refine wpAnyH_take (i := 7) rfl (by kernel_rfl) (by kernel_rfl) (by kernel_rfl) (fun _ _ _ h => h) (yieldsIf_load_mid (by rfl) 68 _ rfl b' (off' + k * 20) rfl e.cells _ (fun w hSw => hSw.2) Try.underlying68 rfl HI.out) (by assumption) ?_
      (try simp only [List.getElem_toArray, List.getElem_cons_zero, List.getElem_cons_succ, Act.put, List.setIfInBounds_toArray, List.set_cons_zero, List.set_cons_succ])
      refine wpAnyH_take (i := 8) (v := ?v9) rfl (by kernel_rfl) (by kernel_rfl) (by kernel_rfl) (fun _ _ _ h => h) (Or.inl ⟨by rfl, ?y9⟩) (by assumption) ?r9
      case y9 => (intro w hSw; (try dsimp only at hSw); first | (go_simp; done) | (go_simp; with_reducible rfl))
      (try simp only [List.getElem_toArray, List.getElem_cons_zero, List.getElem_cons_succ, Act.put, List.setIfInBounds_toArray, List.set_cons_zero, List.set_cons_succ])
      refine wpAnyH_done (by kernel_rfl) ?_ _
      go_wp2_with fail
      exact ⟨⟨k + 1, d + 1, by omega, by go_num, rfl⟩, by simp [intOf]; omega⟩
    · go_wp2_with fail
      go_ret
      exact ⟨rfl, d, rfl⟩

set_option maxHeartbeats 2000000 in
set_option maxRecDepth 100000 in
theorem CommandPaths_walk (c : Cmd) (A : Option Addr) (n cc : Nat) (hs : List Hp) (w : World) (hc : c.OK) (hr : RR w w.heap.size 68 A n (hs.map Hp.cells)) (hok : ∀ h ∈ hs, h.OK) (hn : n * 104 ≤ 140737488351232) :
    Calls Try.prog 5 #[c.v, .slice A n cc] w (LawPost w) := by
  have HR := Lib.hid hr
  have HHP := Lib.hid (fun w B (hr : RR w B 68 A n (hs.map Hp.cells)) hB => Hops_any A n cc hs w B hr hok hB (by omega))
  have HPA := Lib.hid (fun A cc w B (hr : RR w B 68 A n (hs.map Hp.cells)) hB => Path_any c A n cc hs w B hc hr hok hB (by omega))
  have HRP := Lib.hid (fun w B (hr : RR w B 68 A n (hs.map Hp.cells)) hB => RefPath_any c A n cc hs w B hc hr hok hB (by omega))
  have HLS := Lib.hid (show ∀ cs ∈ hs.map Hp.cells, cs.length = 68 from hr.2.1)
  have HLL := Lib.hid (show (hs.map Hp.cells).length = n from hr.len)
  have HN := Lib.hid (cmd_new_blk w c)
  have HAL := Lib.hid ((Below.refl w.heap.size w).alloc (Nat.le_refl _) (.cells c.cells.toArray 68))
  have HI := Lib.hid (show (Try.prog.info? 68).map (·.size) = some c.cells.length by rw [hc.size]; kernel_rfl)
  have HPOK := Lib.hid (show ∀ d ∈ pthL c hs, d.OK from fun d hd => by
    unfold pthL at hd
    split at hd
    · rename_i h
      obtain ⟨i, hi, rfl⟩ := List.mem_map.1 hd
      exact pcmd_ok hc hok (pthE_zero h).2.1 (List.mem_range.1 hi)
    · cases hd)
  have HPL5 := Lib.hid (show (pthL c hs).length ≤ 5 from by
    unfold pthL
    split
    · rename_i h
      have := (pthE_zero h).2.2.2.1
      simpa using this
    · simp)
  clear hr hok
  generalize pthL c hs = pl at *
  generalize pthE c hs = pe at *
  unfold Cmd.v
  unfold CmdBlk at HN
  obtain ⟨cs, hcs⟩ : ∃ cs, c.cells.toArray = cs := ⟨_, rfl⟩
  have HCS := Lib.hid hcs
  rw [hcs] at HPA HRP HN HAL ⊢
  clear hcs
  go_enter Try.func5, Try.ntmps5
  go_wp2_with fail
  obtain ⟨w0, hw0⟩ : ∃ w0, w.alloc (.cells cs 68) = w0 := ⟨_, rfl⟩
  rw [hw0] at HN HAL ⊢
  clear hw0
  refine (awake_any w0).mono ?_
  rintro e w1 ⟨rfl, hb⟩
  have hbl : w.heap.size < w0.heap.size := (Array.getElem?_eq_some_iff.1 HN.out).1
  have HN1 := Lib.hid ((hb.block _ hbl).trans HN.out)
  have HB1 := Lib.hid (HAL.out.trans (hb.mono (by omega)))
  have hz1 : w.heap.size < w1.heap.size := (Array.getElem?_eq_some_iff.1 HN1.out).1
  clear hb HN HAL
  have hrg : w1.rangeAt w.heap.size 0 c.cells := by
    have h := HN1.out
    rw [← HCS.out] at h
    exact blk_range h
  have HR1 := Lib.hid (HR.out.below HB1.out)
  generalize hb0 : w.heap.size = b0 at *
  have HGB := Lib.hid hb0
  clear hb0
  go_wp2_with fail
  refine wp_region_held_drew (S := (fun w' => w'.rangeAt b0 0 c.cells)) (by kernel_rfl) ?_ (fun hHeld => ?_)
  · (try dsimp only)
    exact hrg
  refine wpAnyH_take (i := 0) rfl (by kernel_rfl) (by kernel_rfl) (by kernel_rfl) (fun _ _ _ h => h) (yieldsIf_load_mid (by rfl) 68 _ rfl b0 0 rfl c.cells _ (fun w hSw => hSw) Try.underlying68 rfl HI.out) (by assumption) ?_
  rw [HCS.out]
  (try simp only [List.getElem_toArray, List.getElem_cons_zero, Act.put, List.setIfInBounds_toArray, List.set_cons_zero, List.set_cons_succ])
  refine wpAnyH_take (i := 1) (v := ?v11) rfl (by kernel_rfl) (by kernel_rfl) (by kernel_rfl) (fun _ _ _ h => h) (Or.inl ⟨by rfl, ?y11⟩) (by assumption) ?r11
  case y11 => (intro w hSw; (try dsimp only at hSw); first | (go_simp; done) | (go_simp; with_reducible rfl))
  (try simp only [List.getElem_toArray, List.getElem_cons_zero, List.getElem_cons_succ, Act.put, List.setIfInBounds_toArray, List.set_cons_zero, List.set_cons_succ])
  refine wpAnyH_ready (rs := [2]) (by kernel_rfl) (by simp) ?_
  refine AllReadyH.cons rfl (fun K hK => ?_) AllReadyH.nil
  go_simp
  go_at_call 34
  refine (HHP.out w1.drew b0 (by exact HR1.out.below ((Below.refl _ _).drew)) (by show b0 ≤ w1.heap.size; omega)).mono ?_
  rintro e w2 ⟨A2, c2, rfl, ho2, hb2⟩
  have hb2' : Below w1.heap.size w1 w2 := ((Below.refl w1.heap.size w1).drew).trans hb2
  have HB2 := Lib.hid (HB1.out.trans (hb2'.mono (by omega)))
  have hz2 := hb2'.size
  have HRR := Lib.hid (RR.of_own ho2 HLL.out HLS.out)
  have kx2 : w2.rangeAt b0 0 c.cells := fun j v hv => (hb2'.cell (p := ⟨b0, 0 + j, none⟩) (by show b0 < w1.heap.size; omega)).trans (hrg j v hv)
  clear ho2 hb2 hb2'
  first | (refine hK.out _ _ ?_ (fun hHeld => ?_)) | (go_wp2_with fail; refine hK.out _ _ ?_ (fun hHeld => ?_))
  · (try dsimp only)
    exact kx2
  clear hK K
  (try simp only [List.getElem_toArray, List.getElem_cons_zero, List.getElem_cons_succ, Act.put, List.setIfInBounds_toArray, List.set_cons_zero, List.set_cons_succ])
  refine wpAnyH_ready (rs := [3]) (by kernel_rfl) (by simp) ?_
  refine AllReadyH.cons rfl (fun K hK => ?_) AllReadyH.nil
  go_simp
  go_at_call 33
  refine (HPA.out A2 c2 w2 w2.heap.size HRR.out (Nat.le_refl _)).mono ?_
  rintro e w3 ⟨A3, m3, c3, rfl, hl3, ho3, hb3⟩
  have HB3 := Lib.hid (HB2.out.trans (hb3.mono (by omega)))
  have hz3 := hb3.size
  have HO3 := Lib.hid ho3
  have HL3 := Lib.hid hl3
  have kx3 : w3.rangeAt b0 0 c.cells := fun j v hv => (hb3.cell (p := ⟨b0, 0 + j, none⟩) (by show b0 < w2.heap.size; omega)).trans (kx2 j v hv)
  have HRG3 := Lib.hid kx3
  clear ho3 hb3 hl3
  first | (refine hK.out _ _ ?_ (fun hHeld => ?_)) | (go_wp2_with fail; refine hK.out _ _ ?_ (fun hHeld => ?_))
  · (try dsimp only)
    exact kx3
  clear hK K
  (try simp only [List.getElem_toArray, List.getElem_cons_zero, List.getElem_cons_succ, Act.put, List.setIfInBounds_toArray, List.set_cons_zero, List.set_cons_succ])
  refine wpAnyH_take (i := 4) (v := ?v14) rfl (by kernel_rfl) (by kernel_rfl) (by kernel_rfl) (fun _ _ _ h => h) (Or.inl ⟨by rfl, ?y14⟩) (by assumption) ?r14
  case y14 => (intro w hSw; (try dsimp only at hSw); first | (go_simp; done) | (go_simp; with_reducible rfl))
  (try simp only [List.getElem_toArray, List.getElem_cons_zero, List.getElem_cons_succ, Act.put, List.setIfInBounds_toArray, List.set_cons_zero, List.set_cons_succ])
  refine wpAnyH_take (i := 5) (v := ?v15) rfl (by kernel_rfl) (by kernel_rfl) (by kernel_rfl) (fun _ _ _ h => h) (Or.inl ⟨by rfl, ?y15⟩) (by assumption) ?r15
  case y15 => (intro w hSw; (try dsimp only at hSw); first | (go_simp; done) | (go_simp; with_reducible rfl))
  (try simp only [List.getElem_toArray, List.getElem_cons_zero, List.getElem_cons_succ, Act.put, List.setIfInBounds_toArray, List.set_cons_zero, List.set_cons_succ])
  refine wpAnyH_take (i := 6) (v := ?v16) rfl (by kernel_rfl) (by kernel_rfl) (by kernel_rfl) (fun _ _ _ h => h) (Or.inl ⟨by rfl, ?y16⟩) (by assumption) ?r16
  case y16 => (intro w hSw; (try dsimp only at hSw); first | (go_simp; done) | (go_simp; with_reducible rfl))
  (try simp only [List.getElem_toArray, List.getElem_cons_zero, List.getElem_cons_succ, Act.put, List.setIfInBounds_toArray, List.set_cons_zero, List.set_cons_succ])
  refine wpAnyH_take (i := 7) (v := ?v17) rfl (by kernel_rfl) (by kernel_rfl) (by kernel_rfl) (fun _ _ _ h => h) (Or.inl ⟨by rfl, ?y17⟩) (by assumption) ?r17
  case y17 => (intro w hSw; (try dsimp only at hSw); first | (go_simp; done) | (go_simp; with_reducible rfl))
  (try simp only [List.getElem_toArray, List.getElem_cons_zero, List.getElem_cons_succ, Act.put, List.setIfInBounds_toArray, List.set_cons_zero, List.set_cons_succ])
  refine wpAnyH_take (i := 8) (v := ?v18) rfl (by kernel_rfl) (by kernel_rfl) (by kernel_rfl) (fun _ _ _ h => h) (Or.inl ⟨by rfl, ?y18⟩) (by assumption) ?r18
  case y18 => (intro w hSw; (try dsimp only at hSw); first | (go_simp; done) | (go_simp; with_reducible rfl))
  (try simp only [List.getElem_toArray, List.getElem_cons_zero, List.getElem_cons_succ, Act.put, List.setIfInBounds_toArray, List.set_cons_zero, List.set_cons_succ])
  refine wpAnyH_done (by kernel_rfl) ?_ _
  go_wp2_with (refine wl_load_mid rfl 68 (.tmp 2) rfl b0 0 rfl c.cells _ HRG3.out Try.underlying68 rfl HI.out ?_; rw [HCS.out])
  refine (HRP.out w3 b0 (HR.out.below HB3.out) (by omega)).mono ?_
  rintro e w4 ⟨A4, m4, c4, rfl, hl4, ho4, hb4⟩
  have HB4 := Lib.hid (HB3.out.trans (hb4.mono (by omega)))
  have hm34 : m3 = m4 := by rw [← HL3.out, hl4]
  subst hm34
  have hm5 : m3 ≤ 5 := by rw [← HL3.out]; exact HPL5.out
  have HC1 := Lib.hid (RC.of_own (own_later HO3.out hb4) HL3.out HPOK.out)
  have HC2 := Lib.hid (RC.of_own ho4 hl4 HPOK.out)
  clear hb4 ho4 hl4 HB3 HO3 HRG3
  go_wp2_with fail
  refine (SameC_any A3 A4 m3 c3 c4 pl w4 _ _ HC1.out HC2.out (by omega)).mono ?_
  rintro e w5 ⟨rfl, d5, rfl⟩
  have HB5 := Lib.hid (below_drewN HB4.out d5)
  go_wp2_with fail
  go_ret
  exact ⟨rfl, by rw [HGB.out]; exact HB5.out⟩
end Go.Proofs.Ytobmopjfbgkfbaa
