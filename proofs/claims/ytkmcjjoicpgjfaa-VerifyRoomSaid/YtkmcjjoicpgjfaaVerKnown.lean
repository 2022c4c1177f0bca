/-
  Contracts of verify.known and effect. Conditions: the sizes that slices can have.
-/
import Derived.Test.YtkmcjjoicpgjfaaCodeCheck
namespace Go.Proofs.Ytkmcjjoicpgjfaa
open Go Go.RowKit Go.Sh

set_option maxRecDepth 100000 in
theorem zero_anode : ∀ w : World, (zeroValue 59).run Try.prog w = .ok (.agg zHop.node.toArray) w := fun _ => by kernel_rfl
set_option maxRecDepth 100000 in
theorem info_anode : (Try.prog.info? 59).map (·.size) = some 66 := by kernel_rfl
theorem node_ones {h : Hp} (ok : h.OK) : ∀ v ∈ h.node, v.oneCell' = true := by
  intro v hv
  simp only [Hp.node, List.mem_cons] at hv
  rcases hv with rfl | rfl | hv
  · rfl
  · rfl
  · exact ok.o v hv
/-- does a node of the directory have this name? -/
def knB (s : ByteArray) (ns : List Hp) : Bool := ns.any fun h => h.nm.toList == s.toList
set_option maxRecDepth 100000 in
set_option maxHeartbeats 4000000 in
theorem known_any (s : ByteArray) (ns : List Hp) (A : Option Addr) (n c : Nat) (w : World) (B : Nat) (hr : RR w B 66 A n (ns.map Hp.node)) (hok : ∀ h ∈ ns, h.OK) (hB : B ≤ w.heap.size) (hn : n ≤ 140737488355328) :
    Calls Try.prog 23 #[.string s, .slice A n c] w (fun e w' => e = .returned (.bool (knB s ns)) ∧ Below w.heap.size w w') := by
  have HL := Lib.hid (show ns.length = n by rw [← hr.len, List.length_map])
  have HR := Lib.hid hr
  have HOK := Lib.hid hok
  have HS := Lib.hid (show knB s ns = ns.any fun h => h.nm.toList == s.toList from rfl)
  have hzs : zHop.node.toArray.size = 66 := by rw [List.size_toArray, Hp.node_len zHop_ok]
  have HZERO := Lib.hid zero_anode
  have HST := Lib.hid (show ∀ (W : World) (h : Hp), h.OK → ∀ na, h.node.toArray = na → (storeCells ⟨W.heap.size, 0, none⟩ na.toList).run Try.prog (W.alloc (.cells zHop.node.toArray 59)) = .ok () (W.alloc (.cells na 59)) from fun W h ok na hna => by
    subst hna
    exact run_cells_new W _ _ _ (by rw [List.size_toArray, List.size_toArray, Hp.node_len ok, Hp.node_len zHop_ok]) (node_ones ok))
  generalize knB s ns = r at *
  clear hr hok
  obtain ⟨zc, hzc⟩ : ∃ zc, zHop.node.toArray = zc := ⟨_, rfl⟩
  rw [hzc] at hzs HZERO HST
  have hze : ¬ zc = #[] := by intro h; rw [h] at hzs; cases hzs
  clear hzc
  go_enter Try.func23, Try.ntmps23
  go_wp2_with fail
  go_loopw [6, 9] (fun _ i wr => ∃ k : Nat, k ≤ n ∧ i = .int .i64 (k : Int) ∧ Below w.heap.size w wr ∧ ∀ j, j < k → ((hat ns j).nm.toList == s.toList) = false) (fun _ i _ => n - (intOf i).toNat)
  case atStart => exact ⟨0, by omega, rfl, Below.refl _ _, fun j hj => absurd hj (by omega)⟩
  case round =>
    obtain ⟨k, hk, rfl, hb, hall⟩ := hrel
    have HA := Lib.hid hall
    have HBr := Lib.hid hb
    have hz := hb.size
    clear hall hb
    by_cases hlt : k < n
    · have dk : (k : Int) < (n : Int) := by omega
      obtain ⟨b, off, rfl, hb, c0, _, hrg⟩ := node_at (HR.out.below (HBr.out.mono hB)) hlt
      have hh := HOK.out _ (hat_mem (hs := ns) (k := k) (by rw [HL.out]; exact hlt))
      have HRG := Lib.hid hrg
      have HI := Lib.hid (show (Try.prog.info? 59).map (·.size) = some (hat ns k).node.length by rw [Hp.node_len hh]; exact info_anode)
      have hxs : (hat ns k).node.toArray.size = 66 := by rw [List.size_toArray, Hp.node_len hh]
      have hzero := HZERO.out
      obtain ⟨na, hna⟩ : ∃ na, (hat ns k).node.toArray = na := ⟨_, rfl⟩
      have hst := HST.out wr _ hh na hna
      have HNA := Lib.hid hna
      have hcell : (wr.alloc (.cells na 59)).cell? ⟨wr.heap.size, 0, none⟩ = some (.string (hat ns k).nm) := by rw [blk_cell (heap_alloc_new wr _), ← hna]; rfl
      rw [hna] at hxs
      have hne : ¬ na = #[] := by intro h; rw [h] at hxs; cases hxs
      have HB1 := Lib.hid (HBr.out.trans (((Below.refl wr.heap.size wr).alloc (Nat.le_refl _) (.cells na 59)).mono hz))
      have HANY := Lib.hid (show ((hat ns k).nm.toList == s.toList) = true → r = true from fun e => by
        rw [HS.out, List.any_eq_true]
        exact ⟨_, hat_mem (hs := ns) (k := k) (by rw [HL.out]; exact hlt), e⟩)
      clear hrg hh hna
      rcases Bool.eq_false_or_eq_true ((hat ns k).nm.toList == s.toList) with h | h
      · have hr := HANY.out h
        go_wp2_with (refine wl_load_mid (by rfl) 59 (.tmp 11) rfl b (off + k * 66) rfl (hat ns k).node _ HRG.out Try.underlying59 rfl HI.out ?_; rw [HNA.out])
        go_ret
        exact ⟨by first | rfl | (rw [hr]; rfl), HB1.out⟩
      · have HN2 := Lib.hid (show ∀ j, j < k + 1 → ((hat ns j).nm.toList == s.toList) = false from fun j hj => by
          by_cases hjk : j < k
          · exact HA.out j hjk
          · obtain rfl : j = k := by omega
            exact h)
        go_wp2_with (refine wl_load_mid (by rfl) 59 (.tmp 11) rfl b (off + k * 66) rfl (hat ns k).node _ HRG.out Try.underlying59 rfl HI.out ?_; rw [HNA.out])
        exact ⟨⟨k + 1, by omega, by go_num, HB1.out, HN2.out⟩, by simp [intOf]; omega⟩
    · obtain rfl : k = n := by omega
      have hr : r = false := by
        rw [HS.out, List.any_eq_false]
        intro h hh
        obtain ⟨j, hj, e⟩ := List.getElem_of_mem hh
        have := HA.out j (by rw [← HL.out]; exact hj)
        have e2 := hat_eq (hs := ns) hj
        rw [List.getElem?_eq_getElem hj, e] at e2
        rw [← Option.some.inj e2] at this
        rw [this]
        decide
      go_wp2_with fail
      go_ret
      exact ⟨by first | rfl | (rw [hr]; rfl), HBr.out⟩
/-- how many values an op takes, and how many it puts -/
def efN (o : Nat) : Nat × Nat := if o = 1 ∨ o = 5 then (0, 1) else if o = 2 ∨ o = 3 ∨ o = 4 then (2, 1) else if o = 6 ∨ o = 8 ∨ o = 10 ∨ o = 12 ∨ o = 13 then (1, 0) else if o = 14 then (1, 1) else (0, 0)
set_option maxRecDepth 100000 in
theorem effect_any (o : Nat) (ho : o ≤ 16) (w : World) : Calls Try.prog 35 #[.int .u8 (o : Int)] w (fun e w' => e = .returned (.tuple #[.int .i64 ((efN o).1 : Int), .int .i64 ((efN o).2 : Int)]) ∧ w = w') := by
  rcases u8_cases ho with rfl | rfl | rfl | rfl | rfl | rfl | rfl | rfl | rfl | rfl | rfl | rfl | rfl | rfl | rfl | rfl | rfl
  all_goals
    clear ho
    go_enter Try.func35, Try.ntmps35
    go_wp2
    go_ret2
    exact ⟨rfl, rfl⟩
end Go.Proofs.Ytkmcjjoicpgjfaa
