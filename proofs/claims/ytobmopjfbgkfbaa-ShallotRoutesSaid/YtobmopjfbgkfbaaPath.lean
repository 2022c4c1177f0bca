/-
  Contract of command.Path: the commands of a route, in new memory, or the error's number. Conditions: the fields fit their types; the sizes that slices can have.
-/
import Derived.Test.YtobmopjfbgkfbaaPathErr
import Derived.Test.YtobmopjfbgkfbaaCmdTell
import Derived.Deep.DeepCutAuto
namespace Go.Proofs.Ytobmopjfbgkfbaa
open Go Go.RowKit Go.Sh

/-- commands in new memory and an error's number are handed back -/
def RetCs (w : World) (cl : List Cmd) (er : Int) (e : Ending) (w' : World) : Prop :=
  ∃ A m c, e = .returned (.tuple #[.slice A m c, .int .i64 er]) ∧ cl.length = m ∧ w'.ownsRow w.heap.size 68 20 (.slice A m c) m (cmdsV cl) ∧ Below w.heap.size w w'
def relC : Cmd := ⟨1, 0, 0, 0, noMark⟩
theorem relC_ok : relC.OK := ⟨by decide, by decide, by decide, by decide, rfl, by unfold relC noMark; simp⟩
set_option maxRecDepth 100000 in
theorem rel_built : Try.prog.built 68 [(0, .int .u8 1)] = some relC.cells.toArray := by kernel_rfl
theorem pcmd_ok {c : Cmd} {hs : List Hp} (hc : c.OK) (hok : ∀ h ∈ hs, h.OK) (hb : ∀ i, i < hs.length → badHop (hat hs i) = false) {i : Nat} (hi : i < hs.length) : (pcmd c hs i).OK := by
  obtain ⟨h1, h2⟩ := badHop_false.1 (hb i hi)
  unfold pcmd
  by_cases h : i + 1 < hs.length
  · rw [if_pos h]
    exact ⟨⟨by show (0 : Int) ≤ 1; decide, by show (1 : Int) < 256; decide⟩, by show 0 ≤ (hat hs i).fl ∧ (hat hs i).fl < 256; omega, by show 0 ≤ (hat hs i).dl ∧ (hat hs i).dl < 4294967296; omega, (hok _ (hat_mem h)).id, rfl, by unfold noMark; simp⟩
  · rw [if_neg h]
    exact ⟨hc.k, by show 0 ≤ (hat hs i).fl ∧ (hat hs i).fl < 256; omega, by show 0 ≤ (hat hs i).dl ∧ (hat hs i).dl < 4294967296; omega, ⟨by show (0 : Int) ≤ 0; decide, by show (0 : Int) < 18446744073709551616; decide⟩, hc.l, hc.m⟩
set_option maxRecDepth 100000 in
theorem pthE_zero {c : Cmd} {hs : List Hp} (h : pthE c hs = 0) : (2 ≤ c.k ∧ c.k ≤ 4) ∧ (∀ i, i < hs.length → badHop (hat hs i) = false) ∧ 1 ≤ hs.length ∧ hs.length ≤ 5 ∧ (∀ i, i < hs.length → 0 < i → (hat hs i).id ≠ 0) := by
  unfold pthE at h
  split at h
  · omega
  · split at h
    · omega
    · rename_i h2
      split at h
      · omega
      · split at h
        · omega
        · split at h
          · omega
          · rename_i h5
            exact ⟨by omega, anyBad_false.1 (by simpa using h2), by omega, by omega, noId_false.1 (by simpa using h5)⟩
theorem pthE_cases (c : Cmd) (hs : List Hp) : pthE c hs = 0 ∨ pthE c hs = 1 ∨ pthE c hs = 2 ∨ pthE c hs = 3 := by
  unfold pthE
  split
  · simp
  · split
    · simp
    · split
      · simp
      · split
        · simp
        · split <;> simp

set_option maxHeartbeats 4000000 in
set_option maxRecDepth 100000 in
theorem Path_any (c : Cmd) (A : Option Addr) (n cc : Nat) (hs : List Hp) (w : World) (B : Nat) (hc : c.OK) (hr : RR w B 68 A n (hs.map Hp.cells)) (hok : ∀ h ∈ hs, h.OK) (hB : B ≤ w.heap.size) (hn : n ≤ 140737488355328) :
    Calls Try.prog 33 #[.agg c.cells.toArray, .slice A n cc] w (RetCs w (pthL c hs) (pthE c hs)) := by
  have HR := Lib.hid hr
  have HOK := Lib.hid hok
  have HL := Lib.hid (show hs.length = n by rw [← hr.len, List.length_map])
  have HPE := Lib.hid (fun w (hr : RR w B 68 A n (hs.map Hp.cells)) hB => pathError_any c A n cc hs w B hc hr hok hB hn)
  have HC := Lib.hid hc
  have HN := Lib.hid (cmd_new_blk w c)
  have hi : (Try.prog.info? 68).map (·.size) = some c.cells.length := by rw [hc.size]; kernel_rfl
  have HI := Lib.hid hi
  have HZ := Lib.hid (fun h : pthE c hs = 0 => pthE_zero h)
  have HCA := Lib.hid (pthE_cases c hs)
  have HLL := Lib.hid (show pthL c hs = if pthE c hs = 0 then (List.range hs.length).map (pcmd c hs) else [] from rfl)
  have HAL := Lib.hid ((Below.refl w.heap.size w).alloc (Nat.le_refl _) (.cells c.cells.toArray 68))
  have HRC := Lib.hid (blk_range HN.out)
  clear hr hok hi hc
  generalize pthL c hs = pl at *
  generalize pthE c hs = pe at *
  obtain ⟨cs, hcs⟩ : ∃ cs, c.cells.toArray = cs := ⟨_, rfl⟩
  have HCS := Lib.hid hcs
  rw [hcs] at HPE HRC HAL ⊢
  unfold CmdBlk at HN
  rw [hcs] at HN
  clear hcs
  go_enter Try.func33, Try.ntmps33
  go_wp2_with (refine wl_load_mid rfl 68 (.tmp 2) rfl w.heap.size 0 rfl c.cells _ HRC.out Try.underlying68 rfl HI.out ?_; rw [HCS.out])
  refine (HPE.out _ (HR.out.below (HAL.out.mono hB)) (by simp; omega)).mono ?_
  rintro e w1 ⟨rfl, hb⟩
  have HB1 := Lib.hid (HAL.out.trans (hb.mono (show w.heap.size ≤ _ by simp)))
  have HN1 := Lib.hid (show w1.heap[w.heap.size]? = some (.cells cs 68 (0, 0)) from (hb.block _ (by simp)).trans HN.out)
  have hz1 : w.heap.size < w1.heap.size := (Array.getElem?_eq_some_iff.1 HN1.out).1
  clear hb HAL HN HRC HPE
  rcases HCA.out with rfl | rfl | rfl | rfl
  · obtain ⟨hk, hbad, hn1, hn5, hnz⟩ := HZ.out rfl
    rw [HL.out] at hn1 hn5
    have HPL := Lib.hid (show pl = (List.range n).map (pcmd c hs) by rw [HLL.out, if_pos rfl, HL.out])
    have HCOK := Lib.hid (show ∀ d ∈ (List.range n).map (pcmd c hs), d.OK from fun d hd => by
      obtain ⟨i, hi, rfl⟩ := List.mem_map.1 hd
      exact pcmd_ok HC.out HOK.out hbad (by rw [HL.out]; exact List.mem_range.1 hi))
    have HLEN := Lib.hid (show ((List.range n).map (pcmd c hs)).length = n by simp)
    have HCI := Lib.hid (show ∀ i, i < n → ((List.range n).map (pcmd c hs))[i]? = some (pcmd c hs i) from fun i hi => by simp [hi])
    have HBAD := Lib.hid hbad
    clear hbad hnz hk HLL HCA HZ
    generalize (List.range n).map (pcmd c hs) = cl at *
    have hzero := zeroCmd
    have HBT := Lib.hid rel_built
    have HST := Lib.hid (fun wr => cmd_store_new relC_ok zeroC_ok wr)
    have HRK := Lib.hid (fun wr => cmd_new_blk wr relC)
    obtain ⟨zc, hzc⟩ : ∃ zc, zeroC.cells.toArray = zc := ⟨_, rfl⟩
    have hzs : zc.size = 20 := by rw [← hzc]; exact cmd_size zeroC_ok
    have hze : ¬ zc = #[] := by intro h; rw [h] at hzs; cases hzs
    have HZC := Lib.hid hzc
    rw [hzc] at hzero HST
    unfold CmdBlk at HRK
    obtain ⟨rc, hrc⟩ : ∃ rc, relC.cells.toArray = rc := ⟨_, rfl⟩
    have HRC := Lib.hid hrc
    rw [hrc] at HBT HST HRK
    have HRS := Lib.hid (show rc.size = 20 by rw [← hrc]; exact cmd_size relC_ok)
    clear hrc hzc
    go_wp2_with (at_make; refine wl_makeC TC rfl (.tmp 17) (.tmp 17) rfl .i64 .i64 _ _ rfl rfl n ?_ ?_ ?_ w.heap.size ?_ ?_)
    · rfl
    · rfl
    · omega
    · omega
    · intro w2 hown hg _
      have HO1 := Lib.hid (own_whole hown)
      have hbw : Below w1.heap.size w1 w2 := (Below.refl _ _).grown hg (Nat.le_refl _) (by simp)
      have HB2 := Lib.hid (HB1.out.trans (hbw.mono (by omega)))
      have HN2 := Lib.hid ((hbw.block _ hz1).trans HN1.out)
      clear hown hg hbw HB1 HN1
      generalize hgg : w1.heap.size = g0 at *
      generalize hbb : w.heap.size = b0 at *
      have HGB := Lib.hid hbb
      clear hgg hbb
      go_wp2_with fail
      go_loopw [21] (fun i wr => ∃ k : Nat, k ≤ n ∧ i = .int .i64 (k : Int) ∧ wr.heap[g0]? = some (.cells (cmdsV (tellTo cl n k)).toArray 68 (0, 0)) ∧ wr.heap[b0]? = some (.cells cs 68 (0, 0)) ∧ Below b0 w wr) (fun i _ => n - (intOf i).toNat)
      case atStart => exact ⟨0, by omega, rfl, HO1.out, HN2.out, HB2.out⟩
      case round =>
        obtain ⟨k, hk, rfl, hblk, hbox, hb⟩ := hrel
        have HO := Lib.hid hblk
        have HX := Lib.hid hbox
        have HB := Lib.hid hb
        have hgl : g0 < wr.heap.size := (Array.getElem?_eq_some_iff.1 hblk).1
        clear hblk hbox hb HO1 HN2 HB2
        by_cases hlt : k < n
        · have hki : (k : Int) < (n : Int) := by omega
          obtain ⟨b, off, rfl, hbB, _, q66, q67⟩ := hop_at (HR.out.below (HB.out.mono hB)) HOK.out hlt
          obtain ⟨⟨d1, d2⟩, e1, e2⟩ := badHop_false.1 (HBAD.out k (by rw [HL.out]; exact hlt))
          have hst := HST.out wr
          have hrs := HRS.out
          have hbw : b < wr.heap.size := by omega
          have hbne : ¬ b = wr.heap.size := by omega
          have hnb := HRK.out wr
          have r0 : (wr.alloc (.cells rc 68)).cell? ⟨wr.heap.size, 0, none⟩ = some (.int .u8 1) := by rw [blk_cell hnb, ← HRC.out]; rfl
          have r1 : (wr.alloc (.cells rc 68)).cell? ⟨wr.heap.size, 1, none⟩ = some (.int .u8 0) := by rw [blk_cell hnb, ← HRC.out]; rfl
          have r2 : (wr.alloc (.cells rc 68)).cell? ⟨wr.heap.size, 2, none⟩ = some (.int .u32 0) := by rw [blk_cell hnb, ← HRC.out]; rfl
          have r3 : (wr.alloc (.cells rc 68)).cell? ⟨wr.heap.size, 3, none⟩ = some (.int .u64 0) := by rw [blk_cell hnb, ← HRC.out]; rfl
          have f0 := frozen_of_row _ _ 0 _ _ hnb
          have f1 := frozen_of_row _ _ 1 _ _ hnb
          have f2 := frozen_of_row _ _ 2 _ _ hnb
          have f3 := frozen_of_row _ _ 3 _ _ hnb
          have wu : IntKind.u32.wrap (hat hs k).dl = (hat hs k).dl := by rw [IntKind.wrap_u32]; omega
          have wb : IntKind.u8.wrap (hat hs k).fl = (hat hs k).fl := by rw [IntKind.wrap_u8]; omega
          clear hnb
          by_cases hmid : k + 1 < n
          · have hmi : (k : Int) + 1 < (n : Int) := by omega
            obtain ⟨_, _, hh, _, q1, _, _⟩ := hop_at (HR.out.below (HB.out.mono hB)) HOK.out hmid
            simp only [Option.some.injEq, Addr.mk.injEq, and_true] at hh
            obtain ⟨rfl, rfl⟩ := hh
            have HPC := Lib.hid (show pcmd c hs k = ⟨1, (hat hs k).fl, (hat hs k).dl, (hat hs (k + 1)).id, noMark⟩ by rw [pcmd, if_pos (by rw [HL.out]; exact hmid)])
            have HPOK := Lib.hid (HCOK.out _ (List.mem_of_getElem? (HCI.out k hlt)))
            have HTP := Lib.hid (tell_put HCOK.out HLEN.out (HCI.out k hlt))
            have hfin : ((rc.setIfInBounds 3 (.int .u64 (hat hs (k + 1)).id)).setIfInBounds 2 (.int .u32 (hat hs k).dl)).setIfInBounds 1 (.int .u8 (hat hs k).fl) = (pcmd c hs k).cells.toArray := by
              rw [← HRC.out, HPC.out]
              rfl
            have HWF := Lib.hid (heap_alloc_new wr (.cells (((rc.setIfInBounds 3 (.int .u64 (hat hs (k + 1)).id)).setIfInBounds 2 (.int .u32 (hat hs k).dl)).setIfInBounds 1 (.int .u8 (hat hs k).fl)) 68))
            have HRG := Lib.hid (show (wr.alloc (.cells (((rc.setIfInBounds 3 (.int .u64 (hat hs (k + 1)).id)).setIfInBounds 2 (.int .u32 (hat hs k).dl)).setIfInBounds 1 (.int .u8 (hat hs k).fl)) 68)).rangeAt wr.heap.size 0 (pcmd c hs k).cells from by
              have h := HWF.out
              rw [hfin] at h ⊢
              exact blk_range h)
            have HOG := Lib.hid (show (wr.alloc (.cells (((rc.setIfInBounds 3 (.int .u64 (hat hs (k + 1)).id)).setIfInBounds 2 (.int .u32 (hat hs k).dl)).setIfInBounds 1 (.int .u8 (hat hs k).fl)) 68)).heap[g0]? = some (.cells (cmdsV (tellTo cl n k)).toArray 68 (0, 0)) from by rw [heap_alloc_old _ _ hgl]; exact HO.out)
            have HBF := Lib.hid (HB.out.alloc (by omega) (.cells (((rc.setIfInBounds 3 (.int .u64 (hat hs (k + 1)).id)).setIfInBounds 2 (.int .u32 (hat hs k).dl)).setIfInBounds 1 (.int .u8 (hat hs k).fl)) 68))
            have HXF := Lib.hid (show (wr.alloc (.cells (((rc.setIfInBounds 3 (.int .u64 (hat hs (k + 1)).id)).setIfInBounds 2 (.int .u32 (hat hs k).dl)).setIfInBounds 1 (.int .u8 (hat hs k).fl)) 68)).heap[b0]? = some (.cells cs 68 (0, 0)) from by rw [heap_alloc_old _ _ (by omega)]; exact HX.out)
            have HIP := Lib.hid (show (Try.prog.info? 68).map (·.size) = some (pcmd c hs k).cells.length by rw [HPOK.out.size]; kernel_rfl)
            have HLR := Lib.hid (show (cmdsV (tellTo cl n k)).length = n * 20 by
              rw [length_cmdsV _ (tellTo_ok HCOK.out n k)]
              simp [tellTo, HLEN.out]
              omega)
            have hp20 := HPOK.out.size
            have hone := cmd_one (pcmd c hs k)
            have HONE := Lib.hid hone
            obtain ⟨pa, hpa⟩ : ∃ pa, (pcmd c hs k).cells.toArray = pa := ⟨_, rfl⟩
            have HPA := Lib.hid hpa
            have hps : pa.size = 20 := by rw [← hpa, List.size_toArray, hp20]
            rw [hpa] at HONE
            clear hfin hpa hone hp20
            go_wp2_with (first | (refine wl_lit rfl 68 [(0, .const (.int .u8 1))] rfl [(0, .int .u8 1)] rfl rc HBT.out ?_) | (refine wl_load_mid rfl 68 (.tmp 9) rfl wr.heap.size 0 rfl (pcmd c hs k).cells _ HRG.out Try.underlying68 rfl HIP.out ?_; rw [HPA.out]) | (refine wl_store_blk rfl 68 (.tmp 62) (.tmp 61) rfl g0 (k * 20) pa rfl rfl (cmdsV (tellTo cl n k)).toArray 68 HOG.out (by rw [hps, List.size_toArray, HLR.out]; omega) (by rw [hps]; kernel_rfl) HONE.out ?_))
            have HTP2 := Lib.hid (show (cmdsV (tellTo cl n k)).take (k * 20) ++ (pa.toList ++ (cmdsV (tellTo cl n k)).drop (k * 20 + 20)) = cmdsV (tellTo cl n (k + 1)) by
              rw [← HTP.out, ← HPA.out, List.append_assoc])
            refine ⟨⟨k + 1, by omega, by go_num, ?_, ?_, below_setRow HBF.out (by omega) _⟩, by simp [intOf]; omega⟩
            · rw [← HTP2.out]
              exact setRow_heap _ _ _ _ _ _ HOG.out
            · rw [setRow_other _ _ _ _ (by omega)]
              exact HXF.out
          · have hkn : k + 1 = n := by omega
            have hmi : ¬ (k : Int) + 1 < (n : Int) := by omega
            have HPC := Lib.hid (show pcmd c hs k = ⟨c.k, (hat hs k).fl, (hat hs k).dl, 0, c.m⟩ by rw [pcmd, if_neg (by rw [HL.out]; exact hmid)])
            have hbx0 : wr.cell? ⟨b0, 0, none⟩ = some (.int .u8 c.k) := by rw [blk_cell HX.out, ← HCS.out]; rfl
            have hbne0 : b0 < wr.heap.size := by omega
            have HMK := Lib.hid (show ∀ x, (wr.alloc (.cells x 68)).rangeAt b0 4 (c.m.map (Value.int .u8)) from fun x j v hv => by
              have h1 : (wr.alloc (.cells x 68)).heap[b0]? = some (.cells cs 68 (0, 0)) := by rw [heap_alloc_old _ _ (by omega)]; exact HX.out
              rw [blk_cell h1, ← HCS.out, List.getElem?_toArray]
              show (Value.int .u8 c.k :: .int .u8 c.f :: .int .u32 c.d :: .int .u64 c.x :: c.m.map (.int .u8))[4 + j]? = some v
              rw [show 4 + j = j + 1 + 1 + 1 + 1 by omega]
              exact hv)
            have HI16 := Lib.hid (show (Try.prog.info? 66).map (·.size) = some (c.m.map (Value.int .u8)).length by rw [List.length_map, HC.out.l]; kernel_rfl)
            have HB1 := Lib.hid (heap_alloc_new wr (.cells (rc.setIfInBounds 0 (.int .u8 c.k)) 68))
            have hml : (c.m.map (Value.int .u8)).toArray.size = 16 := by rw [List.size_toArray, List.length_map, HC.out.l]
            have HMO := Lib.hid (show ∀ v ∈ (c.m.map (Value.int .u8)).toArray.toList, v.oneCell' = true from fun v hv => by
              simp only [List.mem_map] at hv
              obtain ⟨_, _, rfl⟩ := hv
              rfl)
            go_upto_region 13 with (first | (refine wl_lit rfl 68 [(0, .const (.int .u8 1))] rfl [(0, .int .u8 1)] rfl rc HBT.out ?_) | (refine wl_load_mid rfl 66 (.tmp 42) rfl b0 4 rfl (c.m.map (Value.int .u8)) _ (HMK.out _) Try.underlying66 rfl HI16.out ?_) | (refine wl_store_blk rfl 66 (.tmp 44) (.tmp 43) rfl wr.heap.size 4 (c.m.map (Value.int .u8)).toArray rfl rfl (rc.setIfInBounds 0 (.int .u8 c.k)) 68 HB1.out (by rw [hml, Array.size_setIfInBounds, hrs]; decide) (by rw [hml]; kernel_rfl) HMO.out ?_))
            obtain ⟨w5, hw5⟩ : ∃ w5, (wr.alloc (.cells (rc.setIfInBounds 0 (.int .u8 c.k)) 68)).setRow wr.heap.size (List.take 4 (rc.setIfInBounds 0 (.int .u8 c.k)).toList ++ List.map (Value.int .u8) c.m ++ List.drop (4 + (List.map (Value.int .u8) c.m).toArray.size) (rc.setIfInBounds 0 (.int .u8 c.k)).toList).toArray = w5 := ⟨_, rfl⟩
            rw [hw5]
            have HC5 := Lib.hid (show w5.heap[wr.heap.size]? = some (.cells (⟨c.k, 0, 0, 0, c.m⟩ : Cmd).cells.toArray 68 (0, 0)) from by
              rw [← hw5, setRow_heap _ _ _ _ _ _ HB1.out, hml, ← HRC.out]
              have e2 : List.drop (4 + 16) (relC.cells.toArray.setIfInBounds 0 (.int .u8 c.k)).toList = [] := rfl
              rw [e2, List.append_nil]
              rfl)
            have HG5 := Lib.hid (show w5.heap[g0]? = some (.cells (cmdsV (tellTo cl n k)).toArray 68 (0, 0)) from by rw [← hw5, setRow_other _ _ _ _ (by omega), heap_alloc_old _ _ hgl]; exact HO.out)
            have HX5 := Lib.hid (show w5.heap[b0]? = some (.cells cs 68 (0, 0)) from by rw [← hw5, setRow_other _ _ _ _ (by omega), heap_alloc_old _ _ (by omega)]; exact HX.out)
            have hbw5 : Below wr.heap.size wr w5 := by rw [← hw5]; exact below_setRow ((Below.refl _ _).alloc (Nat.le_refl _) _) (Nat.le_refl _) _
            have HB5 := Lib.hid (HB.out.trans (hbw5.mono (by omega)))
            have p66 := (hbw5.cell (p := ⟨b, off + k * 68 + 66, none⟩) hbw).trans q66
            have p67 := (hbw5.cell (p := ⟨b, off + k * 68 + 67, none⟩) hbw).trans q67
            clear hw5 hbw5 q66 q67 r0 r1 r2 r3 f0 f1 f2 f3 hbx0 HB1 hst HO HX HB
            generalize hbk : wr.heap.size = bk at *
            have r1 : w5.cell? ⟨bk, 1, none⟩ = some (.int .u8 0) := by rw [blk_cell HC5.out]; rfl
            have r2 : w5.cell? ⟨bk, 2, none⟩ = some (.int .u32 0) := by rw [blk_cell HC5.out]; rfl
            have f1 := frozen_of_row _ _ 1 _ _ HC5.out
            have f2 := frozen_of_row _ _ 2 _ _ HC5.out
            have HPOK := Lib.hid (HCOK.out _ (List.mem_of_getElem? (HCI.out k hlt)))
            have HTP := Lib.hid (tell_put HCOK.out HLEN.out (HCI.out k hlt))
            have HWF := Lib.hid (show ((w5.setCell ⟨bk, 2, none⟩ (.int .u32 (hat hs k).dl)).setCell ⟨bk, 1, none⟩ (.int .u8 (hat hs k).fl)).heap[bk]? = some (.cells (pcmd c hs k).cells.toArray 68 (0, 0)) from by
              rw [blk_set (blk_set HC5.out _) _, HPC.out]
              rfl)
            have HRG := Lib.hid (blk_range HWF.out)
            have hgr := (grown_setCell w5 bk 2 (.int .u32 (hat hs k).dl)).trans (grown_setCell _ bk 1 (.int .u8 (hat hs k).fl))
            have HOG := Lib.hid (show ((w5.setCell ⟨bk, 2, none⟩ (.int .u32 (hat hs k).dl)).setCell ⟨bk, 1, none⟩ (.int .u8 (hat hs k).fl)).heap[g0]? = some (.cells (cmdsV (tellTo cl n k)).toArray 68 (0, 0)) from by rw [hgr.block g0 (Array.getElem?_eq_some_iff.1 HG5.out).1 (by simp; omega)]; exact HG5.out)
            have HXF := Lib.hid (show ((w5.setCell ⟨bk, 2, none⟩ (.int .u32 (hat hs k).dl)).setCell ⟨bk, 1, none⟩ (.int .u8 (hat hs k).fl)).heap[b0]? = some (.cells cs 68 (0, 0)) from by rw [hgr.block b0 (Array.getElem?_eq_some_iff.1 HX5.out).1 (by simp; omega)]; exact HX5.out)
            have HBF := Lib.hid ((HB5.out.setCell (p := ⟨bk, 2, none⟩) (by show b0 ≤ bk; omega) (.int .u32 (hat hs k).dl)).setCell (p := ⟨bk, 1, none⟩) (by show b0 ≤ bk; omega) (.int .u8 (hat hs k).fl))
            have HIP := Lib.hid (show (Try.prog.info? 68).map (·.size) = some (pcmd c hs k).cells.length by rw [HPOK.out.size]; kernel_rfl)
            have HLR := Lib.hid (show (cmdsV (tellTo cl n k)).length = n * 20 by
              rw [length_cmdsV _ (tellTo_ok HCOK.out n k)]
              simp [tellTo, HLEN.out]
              omega)
            have hp20 := HPOK.out.size
            have HONE := Lib.hid (cmd_one (pcmd c hs k))
            obtain ⟨pa, hpa⟩ : ∃ pa, (pcmd c hs k).cells.toArray = pa := ⟨_, rfl⟩
            have HPA := Lib.hid hpa
            have hps : pa.size = 20 := by rw [← hpa, List.size_toArray, hp20]
            rw [hpa] at HONE
            clear hpa hp20 hgr HWF HG5 HX5 HB5 HC5
            go_wp2_with (first | (refine wl_load_mid rfl 68 (.tmp 9) rfl bk 0 rfl (pcmd c hs k).cells _ HRG.out Try.underlying68 rfl HIP.out ?_; rw [HPA.out]) | (refine wl_store_blk rfl 68 (.tmp 62) (.tmp 61) rfl g0 (k * 20) pa rfl rfl (cmdsV (tellTo cl n k)).toArray 68 HOG.out (by rw [hps, List.size_toArray, HLR.out]; omega) (by rw [hps]; kernel_rfl) HONE.out ?_))
            have HTP2 := Lib.hid (show (cmdsV (tellTo cl n k)).take (k * 20) ++ (pa.toList ++ (cmdsV (tellTo cl n k)).drop (k * 20 + 20)) = cmdsV (tellTo cl n (k + 1)) by
              rw [← HTP.out, ← HPA.out, List.append_assoc])
            refine ⟨⟨k + 1, by omega, by go_num, ?_, ?_, below_setRow HBF.out (by omega) _⟩, by simp [intOf]; omega⟩
            · rw [← HTP2.out]
              exact setRow_heap _ _ _ _ _ _ HOG.out
            · rw [setRow_other _ _ _ _ (by omega)]
              exact HXF.out
        · obtain rfl : k = n := by omega
          have HF := Lib.hid (show cmdsV (tellTo cl k k) = cmdsV cl by simp [tellTo, List.take_of_length_le (show cl.length ≤ k by rw [HLEN.out]; exact Nat.le_refl _)])
          go_wp2_with fail
          go_ret2
          rw [HPL.out]
          refine ⟨_, k, k, rfl, HLEN.out, ?_, by rw [HGB.out]; exact HB.out⟩
          have h := HO.out
          rw [HF.out] at h
          rw [HGB.out]
          exact own_of_whole h (by rw [length_cmdsV _ HCOK.out, HLEN.out]) (by omega) (by simp only [maxLen]; omega)
  · go_wp2_with fail
    go_ret2
    rw [HLL.out, if_neg (by decide)]
    exact ⟨none, 0, 0, rfl, rfl, World.ownsRow_nil _ _ _ _, HB1.out⟩
  · go_wp2_with fail
    go_ret2
    rw [HLL.out, if_neg (by decide)]
    exact ⟨none, 0, 0, rfl, rfl, World.ownsRow_nil _ _ _ _, HB1.out⟩
  · go_wp2_with fail
    go_ret2
    rw [HLL.out, if_neg (by decide)]
    exact ⟨none, 0, 0, rfl, rfl, World.ownsRow_nil _ _ _ _, HB1.out⟩
end Go.Proofs.Ytobmopjfbgkfbaa
