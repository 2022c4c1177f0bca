/-
  Contract of shallotlaw10.Hops: the program's hops with the same cells, in new memory. Conditions: the sizes that slices can have.
-/
import Derived.Test.YtobmopjfbgkfbaaHop
namespace Go.Proofs.Ytobmopjfbgkfbaa
open Go Go.RowKit Go.Sh

def zHop : Hp := ⟨⟨#[]⟩, 0, List.replicate 64 (.int .u8 0), 0, 0⟩
theorem zHop_ok : zHop.OK := ⟨by decide, by decide, fun v hv => by rw [List.eq_of_mem_replicate hv]; rfl, by decide, by decide⟩
set_option maxRecDepth 100000 in
theorem TDH : STy Try.prog 74 108 (.agg zHop.cells.toArray) 68 104 := ⟨Try.underlying74, by kernel_rfl, rfl, by decide⟩
set_option maxRecDepth 100000 in
theorem zero_hop : ∀ w : World, (zeroValue 133).run Try.prog w = .ok (.agg zHop.cells.toArray) w := fun _ => by kernel_rfl
set_option maxRecDepth 100000 in
theorem built_node (parts : List (Nat × Value)) : Try.prog.built 106 parts = Instr.fill ([(0, 66)].toArray[·]?) zHop.node.toArray parts := by kernel_rfl
set_option maxRecDepth 100000 in
theorem built_hop (parts : List (Nat × Value)) : Try.prog.built 108 parts = Instr.fill ([(0, 66), (66, 1), (67, 1)].toArray[·]?) zHop.cells.toArray parts := by kernel_rfl
theorem node_built (h : Hp) (ok : h.OK) : Try.prog.built 106 [(0, .agg h.node.toArray)] = some h.node.toArray := by
  rw [built_node]
  exact fill_one (v := .agg h.node.toArray) (size := 66) rfl (by show h.node.toArray.size = 66; rw [List.size_toArray, Hp.node_len ok]) (by rw [List.size_toArray, Hp.node_len zHop_ok])
theorem hop_built (h : Hp) (ok : h.OK) : Try.prog.built 108 [(0, .agg h.node.toArray), (1, .int .i64 h.dl), (2, .int .i64 h.fl)] = some h.cells.toArray := by
  have hn := Hp.node_len ok
  have hz := zHop_ok.size
  have e : h.cells = h.node ++ [.int .i64 h.dl, .int .i64 h.fl] := by simp [Hp.cells, Hp.node]
  rw [built_hop, fill_cons (off := 0) (size := 66) rfl (by show h.node.toArray.size = 66; rw [List.size_toArray, hn]) (by rw [List.size_toArray, hz]; decide)]
  have e1 : (zHop.cells.toArray.toList.take 0 ++ (Value.agg h.node.toArray).cells.toList ++ zHop.cells.toArray.toList.drop (0 + 66)) = h.node ++ [.int .i64 0, .int .i64 0] := by
    show [] ++ h.node ++ zHop.cells.drop 66 = _
    rfl
  rw [e1, fill_cons (off := 66) (size := 1) rfl rfl (by rw [List.size_toArray, List.length_append, hn]; decide)]
  have e2 : ((h.node ++ [Value.int .i64 0, .int .i64 0]).toArray.toList.take 66 ++ (Value.int .i64 h.dl).cells.toList ++ (h.node ++ [Value.int .i64 0, .int .i64 0]).toArray.toList.drop (66 + 1)) = h.node ++ [.int .i64 h.dl, .int .i64 0] := by
    show (h.node ++ [Value.int .i64 0, .int .i64 0]).take 66 ++ [Value.int .i64 h.dl] ++ (h.node ++ [Value.int .i64 0, .int .i64 0]).drop (66 + 1) = _
    rw [List.take_left' hn, ← List.drop_drop, List.drop_left' hn]
    simp
  rw [e2, fill_cons (off := 67) (size := 1) rfl rfl (by rw [List.size_toArray, List.length_append, hn]; exact Nat.le_refl 68), fill_nil]
  have e3 : ((h.node ++ [Value.int .i64 h.dl, .int .i64 0]).toArray.toList.take 67 ++ (Value.int .i64 h.fl).cells.toList ++ (h.node ++ [Value.int .i64 h.dl, .int .i64 0]).toArray.toList.drop (67 + 1)) = h.cells := by
    have e4 : h.node ++ [Value.int .i64 h.dl, .int .i64 0] = (h.node ++ [Value.int .i64 h.dl]) ++ [.int .i64 0] := by simp
    have hl : (h.node ++ [Value.int .i64 h.dl]).length = 67 := by rw [List.length_append, hn]; rfl
    show (h.node ++ [Value.int .i64 h.dl, .int .i64 0]).take 67 ++ [Value.int .i64 h.fl] ++ (h.node ++ [Value.int .i64 h.dl, .int .i64 0]).drop (67 + 1) = _
    rw [e4, List.take_left' hl, ← List.drop_drop, List.drop_left' hl, e]
    simp
  rw [e3]

set_option maxHeartbeats 2000000 in
set_option maxRecDepth 100000 in
theorem Hops_any (A : Option Addr) (n c : Nat) (hs : List Hp) (w : World) (B : Nat) (hr : RR w B 68 A n (hs.map Hp.cells)) (hok : ∀ h ∈ hs, h.OK) (hB : B ≤ w.heap.size) (hn : n * 104 ≤ 140737488355328) :
    Calls Try.prog 34 #[.slice A n c] w (fun e w' => ∃ A' c', e = .returned (.slice A' n c') ∧ w'.ownsRow w.heap.size 108 68 (.slice A' n c') n (hs.map Hp.cells).flatten ∧ Below w.heap.size w w') := by
  have HR := Lib.hid hr
  have HOK := Lib.hid hok
  have HL := Lib.hid (show hs.length = n by rw [← hr.len, List.length_map])
  clear hr hok
  have hzero := zero_hop
  generalize hzc : zHop.cells.toArray = zc at *
  have hzs : zc.size = 68 := by rw [← hzc, List.size_toArray, zHop_ok.size]
  have HZC := Lib.hid hzc
  have hze : ¬ zc = #[] := by intro h; rw [h] at hzs; cases hzs
  clear hzc
  generalize hgw : w.heap.size = g at *
  have HG := Lib.hid hgw
  clear hgw
  have HB1 := Lib.hid (show Below g w w from Below.refl _ _)
  go_enter Try.func34, Try.ntmps34
  go_wp2_with fail
  go_loopw [3, 8] (fun v i wr => ∃ (k : Nat) (Ak : Option Addr) (ck : Nat), k ≤ n ∧ i = .int .i64 (k : Int) ∧ v = .slice Ak k ck ∧ wr.ownsRow g 108 68 (.slice Ak k ck) k ((hs.take k).map Hp.cells).flatten ∧ Below g w wr) (fun _ i _ => n - (intOf i).toNat)
  case atStart => exact ⟨0, none, 0, by omega, rfl, rfl, World.ownsRow_nil _ _ _ _, HB1.out⟩
  case round =>
    obtain ⟨k, Ak, ck, hk, rfl, rfl, ho, hb⟩ := hrel
    have HO := Lib.hid ho
    have HB := Lib.hid hb
    have hsz := hb.size
    rw [HG.out] at hsz
    clear ho hb HB1
    by_cases hlt : k < n
    · obtain ⟨b, off, cs, rfl, hbB, hcs, hcl, hrg⟩ := (HR.out.below (HB.out.mono hB)).at_ hlt
      obtain ⟨h, hh, rfl⟩ : ∃ h : Hp, hs[k]? = some h ∧ h.cells = cs := by
        rw [List.getElem?_map] at hcs
        obtain ⟨h, h1, h2⟩ := Option.map_eq_some_iff.1 hcs
        exact ⟨h, h1, h2⟩
      have hok := HOK.out h (List.mem_of_getElem? hh)
      have HRG := Lib.hid hrg
      have HBN := Lib.hid (node_built h hok)
      have HBH := Lib.hid (hop_built h hok)
      have hnb := heap_alloc_new wr (.cells h.cells.toArray 133)
      have c66 : (wr.alloc (.cells h.cells.toArray 133)).cell? ⟨wr.heap.size, 66, none⟩ = some (.int .i64 h.dl) := by rw [blk_cell hnb, List.getElem?_toArray]; exact hok.c66
      have c67 : (wr.alloc (.cells h.cells.toArray 133)).cell? ⟨wr.heap.size, 67, none⟩ = some (.int .i64 h.fl) := by rw [blk_cell hnb, List.getElem?_toArray]; exact hok.c67
      have hrn : (wr.alloc (.cells h.cells.toArray 133)).rangeAt wr.heap.size 0 h.node := fun j v hv => by
        have hj := (List.getElem?_eq_some_iff.1 hv).1
        rw [blk_cell hnb, Nat.zero_add, List.getElem?_toArray]
        have e : h.cells = h.node ++ [.int .i64 h.dl, .int .i64 h.fl] := by simp [Hp.cells, Hp.node]
        rw [e, List.getElem?_append_left hj]
        exact hv
      have HRN := Lib.hid hrn
      have hst : (storeCells ⟨wr.heap.size, 0, none⟩ h.cells.toArray.toList).run Try.prog (wr.alloc (.cells zc 133)) = .ok () (wr.alloc (.cells h.cells.toArray 133)) :=
        run_cells_new wr _ _ _ (by rw [List.size_toArray, hok.size, hzs]) (by simpa using hok.one)
      have HI1 := Lib.hid (show (Try.prog.info? 133).map (·.size) = some h.cells.length by rw [hok.size]; kernel_rfl)
      have HI2 := Lib.hid (show (Try.prog.info? 92).map (·.size) = some h.node.length by rw [Hp.node_len hok]; kernel_rfl)
      have HAL := Lib.hid ((Below.refl wr.heap.size wr).alloc (Nat.le_refl _) (.cells h.cells.toArray 133))
      have HSN := Lib.hid (show ((hs.take (k + 1)).map Hp.cells).flatten = ((hs.take k).map Hp.cells).flatten ++ h.cells by
        rw [List.take_succ_eq_append_getElem (by rw [HL.out]; exact hlt), List.map_append, List.flatten_append]
        have : hs[k]'(by rw [HL.out]; exact hlt) = h := by
          rw [List.getElem?_eq_getElem (by rw [HL.out]; exact hlt)] at hh
          exact Option.some.inj hh
        rw [this]
        simp)
      have HONE := Lib.hid hok.one
      have HCL := Lib.hid hok.size
      obtain ⟨ca, hca⟩ : ∃ ca, h.cells.toArray = ca := ⟨_, rfl⟩
      obtain ⟨na, hna⟩ : ∃ na, h.node.toArray = na := ⟨_, rfl⟩
      have HCA := Lib.hid hca
      have HNA := Lib.hid hna
      have hcas : ca.size = 68 := by rw [← hca, List.size_toArray, hok.size]
      rw [hca] at hst c66 c67 HRN HAL HBH
      rw [hna] at HBN HBH
      have hz1 : (wr.alloc (.cells ca 133)).heap.size = wr.heap.size + 1 := by simp
      have hal2 := (Below.refl (wr.alloc (.cells ca 133)).heap.size (wr.alloc (.cells ca 133))).alloc (Nat.le_refl _) (.cells ca 108)
      have HB2 := Lib.hid ((HB.out.trans (HAL.out.mono hsz)).trans (hal2.mono (by omega)))
      have HO2 := Lib.hid (own_later (own_later HO.out HAL.out) hal2)
      have HRD := Lib.hid (show Reads ((wr.alloc (.cells ca 133)).alloc (.cells ca 108)) ((wr.alloc (.cells ca 133)).heap.size + 1) 68 (some ⟨(wr.alloc (.cells ca 133)).heap.size, 0, none⟩) 1 h.cells from by
        have h1 := Reads.lit (wr.alloc (.cells ca 133)) 108 h.cells 1 68 (by rw [hok.size]) _ rfl
        rw [hca] at h1
        exact h1)
      have hz2 : g ≤ ((wr.alloc (.cells ca 133)).alloc (.cells ca 108)).heap.size := by simp; omega
      clear hca hna hrn hnb hok hrg hh hcs hcl hal2 hz1
      go_wp2_with (first | (refine wl_load_mid rfl 133 (.tmp 10) rfl b (off + k * 68) rfl h.cells _ HRG.out Try.underlying133 rfl HI1.out ?_; rw [HCA.out]) | (refine wl_load_mid rfl 92 (.tmp 13) rfl wr.heap.size 0 rfl h.node _ HRN.out Try.underlying92 rfl HI2.out ?_; rw [HNA.out]) | (refine wl_lit rfl 106 [(0, .tmp 14)] rfl [(0, .agg na)] rfl na HBN.out ?_) | (refine wl_lit rfl 108 [(0, .tmp 15), (1, .tmp 17), (2, .tmp 19)] rfl [(0, .agg na), (1, .int .i64 h.dl), (2, .int .i64 h.fl)] rfl ca HBH.out ?_) | (refine wl_bs1 TDH rfl (.tmp 20) rfl ca rfl hcas (by decide) ?_) | (at_builtin; refine wl_app TDH rfl (.tmp 12) (.tmp 21) rfl (.slice Ak k ck) rfl (some ⟨(wr.alloc (.cells ca 133)).heap.size, 0, none⟩) 1 1 rfl g k _ HO2.out ((wr.alloc (.cells ca 133)).heap.size + 1) h.cells HRD.out HONE.out (by omega) (by omega) hz2 ?q6))
      case q6 =>
        intro A6 c6 w6 hown hgr _
        have HO6 := Lib.hid hown
        have HB6 := Lib.hid (HB2.out.grown hgr hz2 (own_drop HO2.out))
        clear hown hgr
        go_wp2_with fail
        refine ⟨⟨k + 1, A6, c6, by omega, by go_num, rfl, ?_, HB6.out⟩, by simp [intOf]; omega⟩
        rw [HSN.out, List.map_take]
        exact HO6.out
    · obtain rfl : k = n := by omega
      have HQ := Lib.hid (show hs.take k = hs from List.take_of_length_le (by rw [HL.out]; exact Nat.le_refl _))
      go_wp2_with fail
      go_ret
      refine ⟨Ak, ck, rfl, ?_, HB.out⟩
      have h := HO.out
      rw [HQ.out] at h
      exact h
end Go.Proofs.Ytobmopjfbgkfbaa
