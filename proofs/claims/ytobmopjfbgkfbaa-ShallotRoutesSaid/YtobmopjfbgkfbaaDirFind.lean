/-
  Contracts of dir.named and dir.At: the first node with a name or a number. Conditions: the fields fit their types; the sizes that slices can have.
-/
import Derived.Test.YtobmopjfbgkfbaaDirCheck
import Derived.Test.YtobmopjfbgkfbaaHops
namespace Go.Proofs.Ytobmopjfbgkfbaa
open Go Go.RowKit Go.Sh

set_option maxRecDepth 100000 in
theorem results_ct {fn : Func} {t u : Tmp} {ty : TypeId} (h : fn.results = #[.cell t ty, .tmp u]) (ts : Array Value) (P : Program) (w : World) (ad : Addr) (v : Value) (h2 : ts.getD t undef = .pointer (some ad)) (h3 : (loadVar ty ad).run P w = .ok v w) :
    (results fn ts).run P w = .ok (.tuple #[v, ts.getD u undef]) w := by
  have h2' : ts[t]?.getD undef = .pointer (some ad) := by simpa using h2
  simp [results, h, h2', asAddr, h3]
set_option maxRecDepth 100000 in
theorem zero_node : ∀ w : World, (zeroValue 106).run Try.prog w = .ok (.agg zHop.node.toArray) w := fun _ => by kernel_rfl
set_option maxRecDepth 100000 in
theorem info_node : (Try.prog.info? 92).map (·.size) = some 66 := by kernel_rfl
set_option maxRecDepth 100000 in
theorem info_dnode : (Try.prog.info? 106).map (·.size) = some 66 := by kernel_rfl
theorem Hp.node_one {h : Hp} (ok : h.OK) : ∀ v ∈ h.node, v.oneCell' = true := by
  intro v hv
  simp only [Hp.node, List.mem_cons] at hv
  rcases hv with rfl | rfl | hv
  · rfl
  · rfl
  · exact ok.o v hv
/-- the first node that has the property, or none -/
def NodePost (w : World) (ns : List Hp) (Pr : Hp → Prop) (e : Ending) (w' : World) : Prop :=
  Below w.heap.size w w' ∧ ((∃ k, k < ns.length ∧ Pr (hat ns k) ∧ (∀ j, j < k → ¬ Pr (hat ns j)) ∧ e = .returned (.tuple #[.agg (hat ns k).node.toArray, .int .i64 0])) ∨ ((∀ j, j < ns.length → ¬ Pr (hat ns j)) ∧ e = .returned (.tuple #[.agg zHop.node.toArray, .int .i64 4])))

set_option maxRecDepth 100000 in
set_option maxHeartbeats 4000000 in
theorem named_any (A : Option Addr) (n c : Nat) (ns : List Hp) (s : ByteArray) (w : World) (B : Nat) (hr : RR w B 66 A n (ns.map Hp.node)) (hok : ∀ h ∈ ns, h.OK) (hB : B ≤ w.heap.size) (hn : n ≤ 140737488355328) :
    Calls Try.prog 75 #[.slice A n c, .string s] w (NodePost w ns (fun h => h.nm.toList = s.toList)) := by
  have HL := Lib.hid (show ns.length = n by rw [← hr.len, List.length_map])
  have HR := Lib.hid hr
  have HOK := Lib.hid hok
  have hzero := zero_node
  have hzs : zHop.node.toArray.size = 66 := by rw [List.size_toArray, Hp.node_len zHop_ok]
  have HNB := Lib.hid (heap_alloc_new w (.cells zHop.node.toArray 106))
  have HB := Lib.hid ((Below.refl w.heap.size w).alloc (Nat.le_refl _) (.cells zHop.node.toArray 106))
  have HR1 := Lib.hid (hr.below (HB.out.mono hB))
  have HZ1 := Lib.hid (fun v hv => Hp.node_one zHop_ok v hv)
  clear hr hok
  obtain ⟨zc, hzc⟩ : ∃ zc, zHop.node.toArray = zc := ⟨_, rfl⟩
  have HZC := Lib.hid hzc
  unfold NodePost
  rw [hzc] at HNB HB HR1 hzero hzs ⊢
  have HZL := Lib.hid (show zHop.node = zc.toList by rw [← hzc])
  have hze : ¬ zc = #[] := by intro h; rw [h] at hzs; cases hzs
  rw [HL.out]
  clear hzc
  go_enter Try.func75, Try.ntmps75
  go_wp2_with fail
  have HZR := Lib.hid hzero
  clear hzero
  generalize w.alloc (.cells zc 106) = w1 at *
  generalize hg : w.heap.size = g at *
  have HG := Lib.hid hg
  clear hg
  go_loopw [6, 9] (fun _ i wr => ∃ k : Nat, k ≤ n ∧ i = .int .i64 (k : Int) ∧ wr = w1 ∧ ∀ j, j < k → ¬ (hat ns j).nm.toList = s.toList) (fun _ i _ => n - (intOf i).toNat)
  case atStart => exact ⟨0, by omega, rfl, rfl, fun j hj => absurd hj (by omega)⟩
  case round =>
    obtain ⟨k, hk, rfl, rfl, hall⟩ := hrel
    have HA := Lib.hid hall
    clear hall
    by_cases hlt : k < n
    · obtain ⟨b, off, rfl, hb, c0, _, hrg⟩ := node_at HR1.out hlt
      have hh := HOK.out _ (hat_mem (hs := ns) (k := k) (by rw [HL.out]; exact hlt))
      have HRG := Lib.hid hrg
      have HBN := Lib.hid (node_built _ hh)
      have HI := Lib.hid (show (Try.prog.info? 92).map (·.size) = some (hat ns k).node.length by rw [Hp.node_len hh]; exact info_node)
      have hx0 : (hat ns k).node.toArray.size = 66 := by rw [List.size_toArray, Hp.node_len hh]
      have hst : (storeCells ⟨g, 0, none⟩ (hat ns k).node.toArray.toList).run Try.prog wr = .ok () (wr.setRow g (hat ns k).node.toArray) := run_cells_whole wr g _ _ _ HNB.out (by omega) (by simpa using Hp.node_one hh)
      have HRS := Lib.hid (run_loadVar_mid (P := Try.prog) (wr.setRow g (hat ns k).node.toArray) g 0 106 (hat ns k).node _ (blk_range (setRow_heap _ _ _ _ _ _ HNB.out)) Try.underlying106 rfl (by rw [Hp.node_len hh]; exact info_dnode))
      have hxs := hx0
      obtain ⟨na, hna⟩ : ∃ na, (hat ns k).node.toArray = na := ⟨_, rfl⟩
      have HNA := Lib.hid hna
      rw [show (hat ns k).node.toArray.toList = na.toList by rw [hna]] at hst
      rw [hna] at hst HRS hxs HBN
      have hne : ¬ na = #[] := by intro h; rw [h] at hxs; cases hxs
      have HSB := Lib.hid (below_setRow HB.out (Nat.le_refl g) na)
      have HNM := Lib.hid (show (hat ns k).nm.toList = s.toList ↔ (hat ns k).nm.toList = s.toList from Iff.rfl)
      clear hrg hh hna hx0
      obtain ⟨nm, hnm⟩ : ∃ nm, (hat ns k).nm = nm := ⟨_, rfl⟩
      rw [hnm] at c0 HNM
      have HNE := Lib.hid hnm
      clear hnm
      by_cases hs : nm.toList = s.toList
      · have hs' : (nm.toList == s.toList) = true := by rw [beq_iff_eq]; exact hs
        have HS := Lib.hid hs
        clear hs
        go_wp2_with (first | (refine wl_load_mid (by rfl) 92 (.tmp 21) rfl b (off + k * 66) rfl (hat ns k).node _ HRG.out Try.underlying92 rfl HI.out ?_; rw [HNA.out]) | (refine wl_lit (by rfl) 106 [(0, .tmp 22)] rfl [(0, .agg na)] rfl na HBN.out ?_))
        (try simp only [Exit.inBlock, Exit.then])
        refine bodyPost_ret (v := .tuple #[.agg na, .int .i64 0]) (by rw [results_ct Try.results75 _ _ _ ⟨g, 0, none⟩ _ rfl HRS.out]; rfl) rfl ?_
        exact ⟨by rw [HG.out]; exact HSB.out, .inl ⟨k, hlt, by rw [HNE.out]; exact HS.out, HA.out, by rw [HNA.out]⟩⟩
      · have hs' : (nm.toList == s.toList) = false := by rw [beq_eq_false_iff_ne]; exact hs
        have HN2 := Lib.hid (show ∀ j, j < k + 1 → ¬ (hat ns j).nm.toList = s.toList from fun j hj => by
          by_cases hjk : j < k
          · exact HA.out j hjk
          · obtain rfl : j = k := by omega
            rw [HNE.out]
            exact hs)
        clear hs
        go_wp2_with fail
        exact ⟨⟨k + 1, by omega, by go_num, by first | rfl | trivial, HN2.out⟩, by simp [intOf]; omega⟩
    · obtain rfl : k = n := by omega
      have hzero := HZR.out
      have hst : (storeCells ⟨g, 0, none⟩ zc.toList).run Try.prog wr = .ok () (wr.setRow g zc) := run_cells_whole wr g _ _ _ HNB.out rfl (by rw [← HZL.out]; exact HZ1.out)
      have HRS := Lib.hid (show (loadVar 106 ⟨g, 0, none⟩).run Try.prog (wr.setRow g zc) = .ok (.agg zc) (wr.setRow g zc) by
        have h := run_loadVar_mid (P := Try.prog) (wr.setRow g zc) g 0 106 zHop.node _ (blk_range (t := 106) (fr := (0, 0)) (by rw [HZC.out]; exact setRow_heap _ _ _ _ _ _ HNB.out)) Try.underlying106 rfl (by rw [Hp.node_len zHop_ok]; exact info_dnode)
        rw [HZC.out] at h
        exact h)
      have HSB := Lib.hid (below_setRow HB.out (Nat.le_refl g) zc)
      go_wp2_with fail
      (try simp only [Exit.inBlock, Exit.then])
      refine bodyPost_ret (v := .tuple #[.agg zc, .int .i64 4]) (by rw [results_ct Try.results75 _ _ _ ⟨g, 0, none⟩ _ rfl HRS.out]; rfl) rfl ?_
      exact ⟨by rw [HG.out]; exact HSB.out, .inr ⟨HA.out, rfl⟩⟩
set_option maxRecDepth 100000 in
set_option maxHeartbeats 4000000 in
theorem At_any (A : Option Addr) (n c : Nat) (ns : List Hp) (s : Int) (w : World) (B : Nat) (hr : RR w B 66 A n (ns.map Hp.node)) (hok : ∀ h ∈ ns, h.OK) (hB : B ≤ w.heap.size) (hn : n ≤ 140737488355328) (hck : chkN ns = 0) :
    Calls Try.prog 54 #[.slice A n c, .int .u64 s] w (NodePost w ns (fun h => h.id = s)) := by
  have HL := Lib.hid (show ns.length = n by rw [← hr.len, List.length_map])
  have HR := Lib.hid hr
  have HOK := Lib.hid hok
  have hzero := zero_node
  have hzs : zHop.node.toArray.size = 66 := by rw [List.size_toArray, Hp.node_len zHop_ok]
  have HNB := Lib.hid (heap_alloc_new w (.cells zHop.node.toArray 106))
  have HB := Lib.hid ((Below.refl w.heap.size w).alloc (Nat.le_refl _) (.cells zHop.node.toArray 106))
  have HR1 := Lib.hid (hr.below (HB.out.mono hB))
  have HZ1 := Lib.hid (fun v hv => Hp.node_one zHop_ok v hv)
  clear hr hok
  obtain ⟨zc, hzc⟩ : ∃ zc, zHop.node.toArray = zc := ⟨_, rfl⟩
  have HZC := Lib.hid hzc
  unfold NodePost
  rw [hzc] at HNB HB HR1 hzero hzs ⊢
  have HZL := Lib.hid (show zHop.node = zc.toList by rw [← hzc])
  have hze : ¬ zc = #[] := by intro h; rw [h] at hzs; cases hzs
  rw [HL.out]
  clear hzc
  go_enter Try.func54, Try.ntmps54
  go_wp2_with fail
  have HZR := Lib.hid hzero
  clear hzero
  generalize w.alloc (.cells zc 106) = w0 at *
  refine (DirCheck_any A n c ns w0 B HR1.out HOK.out hn).mono ?_
  rw [hck]
  rintro e w9 ⟨rfl, md, rfl⟩
  have HNB' := Lib.hid (show (w0.drewN md).heap[w.heap.size]? = _ from HNB.out)
  have HR1' := Lib.hid (show RR (w0.drewN md) B 66 A n (ns.map Hp.node) from HR1.out)
  have HB' := Lib.hid (below_drewN HB.out md)
  clear HNB HR1 HB
  have HNB := HNB'
  have HR1 := HR1'
  have HB := HB'
  clear HNB' HR1' HB'
  generalize w0.drewN md = w1 at *
  go_wp2_with fail
  generalize hg : w.heap.size = g at *
  have HG := Lib.hid hg
  clear hg
  go_loopw [7, 16] (fun _ i wr => ∃ k : Nat, k ≤ n ∧ i = .int .i64 (k : Int) ∧ wr = w1 ∧ ∀ j, j < k → ¬ (hat ns j).id = s) (fun _ i _ => n - (intOf i).toNat)
  case atStart => exact ⟨0, by omega, rfl, rfl, fun j hj => absurd hj (by omega)⟩
  case round =>
    obtain ⟨k, hk, rfl, rfl, hall⟩ := hrel
    have HA := Lib.hid hall
    clear hall
    by_cases hlt : k < n
    · obtain ⟨b, off, rfl, hb, _, c0, hrg⟩ := node_at HR1.out hlt
      have hh := HOK.out _ (hat_mem (hs := ns) (k := k) (by rw [HL.out]; exact hlt))
      have HRG := Lib.hid hrg
      have HBN := Lib.hid (node_built _ hh)
      have HI := Lib.hid (show (Try.prog.info? 92).map (·.size) = some (hat ns k).node.length by rw [Hp.node_len hh]; exact info_node)
      have hx0 : (hat ns k).node.toArray.size = 66 := by rw [List.size_toArray, Hp.node_len hh]
      have hst : (storeCells ⟨g, 0, none⟩ (hat ns k).node.toArray.toList).run Try.prog wr = .ok () (wr.setRow g (hat ns k).node.toArray) := run_cells_whole wr g _ _ _ HNB.out (by omega) (by simpa using Hp.node_one hh)
      have HRS := Lib.hid (run_loadVar_mid (P := Try.prog) (wr.setRow g (hat ns k).node.toArray) g 0 106 (hat ns k).node _ (blk_range (setRow_heap _ _ _ _ _ _ HNB.out)) Try.underlying106 rfl (by rw [Hp.node_len hh]; exact info_dnode))
      have hxs := hx0
      obtain ⟨na, hna⟩ : ∃ na, (hat ns k).node.toArray = na := ⟨_, rfl⟩
      have HNA := Lib.hid hna
      rw [show (hat ns k).node.toArray.toList = na.toList by rw [hna]] at hst
      rw [hna] at hst HRS hxs HBN
      have hne : ¬ na = #[] := by intro h; rw [h] at hxs; cases hxs
      have HSB := Lib.hid (below_setRow HB.out (Nat.le_refl g) na)
      have HNM := Lib.hid (show (hat ns k).id = s ↔ (hat ns k).id = s from Iff.rfl)
      clear hrg hh hna hx0
      obtain ⟨nm, hnm⟩ : ∃ nm, (hat ns k).id = nm := ⟨_, rfl⟩
      rw [hnm] at c0 HNM
      have HNE := Lib.hid hnm
      clear hnm
      by_cases hs : nm = s
      · have hs' : (nm == s) = true := by rw [beq_iff_eq]; exact hs
        have HS := Lib.hid hs
        clear hs
        go_wp2_with (first | (refine wl_load_mid (by rfl) 92 (.tmp 28) rfl b (off + k * 66) rfl (hat ns k).node _ HRG.out Try.underlying92 rfl HI.out ?_; rw [HNA.out]) | (refine wl_lit (by rfl) 106 [(0, .tmp 29)] rfl [(0, .agg na)] rfl na HBN.out ?_))
        (try simp only [Exit.inBlock, Exit.then])
        refine bodyPost_ret (v := .tuple #[.agg na, .int .i64 0]) (by rw [results_ct Try.results54 _ _ _ ⟨g, 0, none⟩ _ rfl HRS.out]; rfl) rfl ?_
        exact ⟨by rw [HG.out]; exact HSB.out, .inl ⟨k, hlt, by rw [HNE.out]; exact HS.out, HA.out, by rw [HNA.out]⟩⟩
      · have hs' : (nm == s) = false := by rw [beq_eq_false_iff_ne]; exact hs
        have HN2 := Lib.hid (show ∀ j, j < k + 1 → ¬ (hat ns j).id = s from fun j hj => by
          by_cases hjk : j < k
          · exact HA.out j hjk
          · obtain rfl : j = k := by omega
            rw [HNE.out]
            exact hs)
        clear hs
        go_wp2_with fail
        exact ⟨⟨k + 1, by omega, by go_num, by first | rfl | trivial, HN2.out⟩, by simp [intOf]; omega⟩
    · obtain rfl : k = n := by omega
      have hzero := HZR.out
      have hst : (storeCells ⟨g, 0, none⟩ zc.toList).run Try.prog wr = .ok () (wr.setRow g zc) := run_cells_whole wr g _ _ _ HNB.out rfl (by rw [← HZL.out]; exact HZ1.out)
      have HRS := Lib.hid (show (loadVar 106 ⟨g, 0, none⟩).run Try.prog (wr.setRow g zc) = .ok (.agg zc) (wr.setRow g zc) by
        have h := run_loadVar_mid (P := Try.prog) (wr.setRow g zc) g 0 106 zHop.node _ (blk_range (t := 106) (fr := (0, 0)) (by rw [HZC.out]; exact setRow_heap _ _ _ _ _ _ HNB.out)) Try.underlying106 rfl (by rw [Hp.node_len zHop_ok]; exact info_dnode)
        rw [HZC.out] at h
        exact h)
      have HSB := Lib.hid (below_setRow HB.out (Nat.le_refl g) zc)
      go_wp2_with fail
      (try simp only [Exit.inBlock, Exit.then])
      refine bodyPost_ret (v := .tuple #[.agg zc, .int .i64 4]) (by rw [results_ct Try.results54 _ _ _ ⟨g, 0, none⟩ _ rfl HRS.out]; rfl) rfl ?_
      exact ⟨by rw [HG.out]; exact HSB.out, .inr ⟨HA.out, rfl⟩⟩
end Go.Proofs.Ytobmopjfbgkfbaa
