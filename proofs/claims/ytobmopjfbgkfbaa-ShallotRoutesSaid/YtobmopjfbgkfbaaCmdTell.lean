/-
  Contracts of command.Told.Last, command.Told.Wait and command.Tell. Conditions: the fields fit their types; the size that a slice can have.
-/
import Derived.Test.YtobmopjfbgkfbaaCmdRows
namespace Go.Proofs.Ytobmopjfbgkfbaa
open Go Go.RowKit Go.Sh

set_option maxRecDepth 100000 in
theorem TC : STy Try.prog 71 68 zeroC.v 20 32 := ⟨Try.underlying71, by kernel_rfl, rfl, by decide⟩
set_option maxRecDepth 100000 in
theorem TT : STy Try.prog 96 99 zeroC.v 20 32 := ⟨Try.underlying96, by kernel_rfl, rfl, by decide⟩

theorem told_new (w : World) (c : Cmd) (t : TypeId) : (w.alloc (.cells c.cells.toArray t)).cell? ⟨w.heap.size, 0, none⟩ = some (.int .u8 c.k) ∧ (w.alloc (.cells c.cells.toArray t)).cell? ⟨w.heap.size, 2, none⟩ = some (.int .u32 c.d) :=
  ⟨(cmd_new w c t).k, (cmd_new w c t).d⟩
set_option maxRecDepth 100000 in
theorem Last_any (c : Cmd) (w : World) : Calls Try.prog 53 #[.agg c.cells.toArray] w (fun e w' => e = .returned (.bool (c.k != 1)) ∧ Below w.heap.size w w') := by
  obtain ⟨h0, _⟩ := told_new w c 99
  generalize c.cells.toArray = cs at *
  generalize c.k = k at *
  go_enter Try.func53, Try.ntmps53
  go_wp2
  go_ret
  exact ⟨rfl, (Below.refl _ _).alloc (Nat.le_refl _) _⟩
set_option maxRecDepth 100000 in
theorem Wait_any (c : Cmd) (w : World) (hc : c.OK) : Calls Try.prog 52 #[.agg c.cells.toArray] w (fun e w' => e = .returned (.int .i64 c.d) ∧ Below w.heap.size w w') := by
  obtain ⟨_, h0⟩ := told_new w c 99
  have hd := hc.d
  generalize c.cells.toArray = cs at *
  generalize c.d = d at *
  go_enter Try.func52, Try.ntmps52
  go_wp2
  go_ret
  exact ⟨by simp, (Below.refl _ _).alloc (Nat.le_refl _) _⟩

/-- the row of Tell when k of the n have been put -/
def tellTo (cl : List Cmd) (n k : Nat) : List Cmd := cl.take k ++ List.replicate (n - k) zeroC
theorem tellTo_ok {cl : List Cmd} (h : ∀ c ∈ cl, c.OK) (n k : Nat) : ∀ c ∈ tellTo cl n k, c.OK := by
  intro c hc
  rcases List.mem_append.1 hc with h1 | h1
  · exact h c (List.mem_of_mem_take h1)
  · rw [List.eq_of_mem_replicate h1]; exact zeroC_ok
theorem made_cmds (n : Nat) : (madeCells zeroC.v.cells (n * 20)).toList = cmdsV (List.replicate n zeroC) := by
  have hok : ∀ c ∈ List.replicate n zeroC, c.OK := fun c hc => by rw [List.eq_of_mem_replicate hc]; exact zeroC_ok
  have hz : zeroC.v.cells = zeroC.cells.toArray := rfl
  apply List.ext_getElem?
  intro j
  by_cases hj : j < n * 20
  · obtain ⟨v, hv⟩ : ∃ v, zeroC.cells[j % 20]? = some v := ⟨_, List.getElem?_eq_getElem (by rw [zeroC_ok.size]; omega)⟩
    have e1 := cmdsV_at (List.replicate n zeroC) hok (j / 20) zeroC (by rw [List.getElem?_replicate, if_pos (by omega)]) (j % 20) v hv
    rw [show j / 20 * 20 + j % 20 = j by omega] at e1
    rw [e1]
    have hs : zeroC.cells.toArray.size = 20 := cmd_size zeroC_ok
    simp only [madeCells, hz, hs, Array.toList_map, Array.toList_range, List.getElem?_map, List.getElem?_range hj, Option.map_some]
    rw [Array.getElem!_eq_getD, Array.getD_eq_getD_getElem?, List.getElem?_toArray, hv]
    rfl
  · rw [List.getElem?_eq_none (by rw [Array.length_toList, size_madeCells]; omega), List.getElem?_eq_none (by rw [length_cmdsV _ hok, List.length_replicate]; omega)]
/-- one more is put -/
theorem tell_put {cl : List Cmd} {n k : Nat} {c : Cmd} (h : ∀ c ∈ cl, c.OK) (hl : cl.length = n) (hc : cl[k]? = some c) :
    (cmdsV (tellTo cl n k)).take (k * 20) ++ c.cells ++ (cmdsV (tellTo cl n k)).drop (k * 20 + 20) = cmdsV (tellTo cl n (k + 1)) := by
  have hk : k < cl.length := (List.getElem?_eq_some_iff.1 hc).1
  have e : cl.take (k + 1) = cl.take k ++ [c] := by
    rw [List.take_succ_eq_append_getElem hk, (List.getElem?_eq_some_iff.1 hc).2]
  have hok1 : ∀ c ∈ cl.take k, c.OK := fun c hc => h c (List.mem_of_mem_take hc)
  have l1 : (cmdsV (cl.take k)).length = k * 20 := by rw [length_cmdsV _ hok1, List.length_take]; congr 1; omega
  have e2 : List.replicate (n - k) zeroC = zeroC :: List.replicate (n - (k + 1)) zeroC := by rw [show n - k = (n - (k + 1)) + 1 by omega, List.replicate_succ]
  unfold tellTo
  rw [e, cmdsV_append, cmdsV_append, cmdsV_append, e2, cmdsV_cons, List.take_left' l1]
  rw [← List.append_assoc (cmdsV (cl.take k)) zeroC.cells, List.drop_left' (by rw [List.length_append, l1, zeroC_ok.size])]
  simp [cmdsV]
theorem own_whole {w : World} {base e size g n : Nat} {xs : List Value} (h : w.ownsRow base e size (.slice (some ⟨g, 0, none⟩) n n) n xs) : w.heap[g]? = some (.cells xs.toArray e (0, 0)) := by
  rcases h.2 with ⟨h', _⟩ | ⟨g', cap, cur, h', _, hg, _, _, hs, ht⟩
  · cases h'
  · injection h' with h1 _ h2
    injection h1 with h1
    injection h1 with h1
    subst h1
    subst h2
    rw [hg, ← ht, List.take_of_length_le (by rw [Array.length_toList, hs]; exact Nat.le_refl _)]
set_option maxRecDepth 100000 in
theorem own_of_whole {w : World} {base e size g n : Nat} {xs : List Value} (h : w.heap[g]? = some (.cells xs.toArray e (0, 0))) (hl : xs.length = n * size) (hb : base ≤ g) (hn : n ≤ maxLen) : w.ownsRow base e size (.slice (some ⟨g, 0, none⟩) n n) n xs :=
  ⟨hl, .inr ⟨g, n, xs.toArray, rfl, hb, h, Nat.le_refl _, hn, by simpa using hl, by rw [← hl]; simp⟩⟩

/-- make of n commands -/
theorem wl_makeC {t e : TypeId} (T : STy Try.prog t e zeroC.v 20 32) {w : World} {ops : Array Oper} {rest : List Oper} {o : Oper} {a : Act} {Q : Exit → Act → World → Prop}
    (hw : Region.wanted o (yielded ops a.tmps) = true) (l c : Operand) (hop : o.op = Op.makeSlice t l c) (kl kc : IntKind) (L C : Int) (hl : a.eval l = .int kl L) (hc : a.eval c = .int kc C)
    (n : Nat) (hL : L = (n : Int)) (hC : C = (n : Int)) (b2 : n * 32 ≤ 281474976710656) (base : Nat) (b4 : base ≤ w.heap.size)
    (hK : ∀ w', w'.ownsRow base e 20 (.slice (some ⟨w.heap.size, 0, none⟩) n n) n (cmdsV (List.replicate n zeroC)) → w.grownBy w' none → w.heap.size < w'.heap.size → wpList Try.prog ops Q rest (a.put o.dst (.slice (some ⟨w.heap.size, 0, none⟩) n n)) w') :
    wpList Try.prog ops Q (o :: rest) a w :=
  wl_make T hw l c hop kl kc L C hl hc n hL hC (by omega) (by omega) base b4 fun w' h1 h2 h3 => hK w' (by rw [made_cmds] at h1; exact h1) h2 h3

set_option maxRecDepth 100000 in
set_option maxHeartbeats 1000000 in
theorem Tell_any (A : Option Addr) (n c : Nat) (cl : List Cmd) (w : World) (B : Nat) (hr : RC w B A n cl) (hB : B ≤ w.heap.size) (hn : n * 32 ≤ 140737488355328) :
    Calls Try.prog 49 #[.slice A n c] w (fun e w' => ∃ g, e = .returned (.slice (some ⟨g, 0, none⟩) n n) ∧ w'.ownsRow w.heap.size 99 20 (.slice (some ⟨g, 0, none⟩) n n) n (cmdsV cl) ∧ Below w.heap.size w w') := by
  have HL := Lib.hid hr.len
  have HR := Lib.hid hr
  have HOK := Lib.hid hr.2.1
  have hzero := zeroCmd
  have hzeroT : ∀ w : World, (zeroValue 99).run Try.prog w = .ok (.agg zeroC.cells.toArray) w := fun _ => by kernel_rfl
  obtain ⟨zc, hzc⟩ : ∃ zc, zeroC.cells.toArray = zc := ⟨_, rfl⟩
  have hzs : zc.size = 20 := by rw [← hzc]; exact cmd_size zeroC_ok
  have hze : ¬ zc = #[] := by intro h; rw [h] at hzs; cases hzs
  rw [hzc] at hzero hzeroT
  have HZ := Lib.hid hzc
  clear hr hzc
  go_enter Try.func49, Try.ntmps49
  go_wp2_with (at_make; refine wl_makeC TT rfl (.tmp 7) (.tmp 7) rfl .i64 .i64 _ _ rfl rfl n ?_ ?_ ?_ w.heap.size (Nat.le_refl _) ?_)
  · rfl
  · rfl
  · omega
  · intro w1 hown hg _
    have HO1 := Lib.hid (own_whole hown)
    have HB1 := Lib.hid (show Below w.heap.size w w1 from (Below.refl _ _).grown hg (Nat.le_refl _) (by simp))
    clear hown hg
    generalize hgg : w.heap.size = g0 at *
    have HG := Lib.hid hgg
    clear hgg
    go_wp2_with fail
    go_loopw [4, 5, 11] (fun _ _ i wr => ∃ k : Nat, k ≤ n ∧ i = .int .i64 k ∧ wr.heap[g0]? = some (.cells (cmdsV (tellTo cl n k)).toArray 99 (0, 0)) ∧ Below g0 w wr) (fun _ _ i _ => n - (intOf i).toNat)
    case atStart => exact ⟨0, by omega, rfl, HO1.out, HB1.out⟩
    case round =>
      obtain ⟨k, hk, rfl, hblk, hb⟩ := hrel
      have HO := Lib.hid hblk
      have HBr := Lib.hid hb
      have hgl : g0 < wr.heap.size := (Array.getElem?_eq_some_iff.1 hblk).1
      clear hblk hb HB1 HO1
      by_cases hlt : k < n
      · obtain ⟨b, off, d, rfl, hbB, hd, hok, hrng⟩ := HR.out.at_ hlt
        have HRk := Lib.hid (show wr.rangeAt b (off + k * 20) d.cells from fun j v hv => (HBr.out.cell (p := ⟨b, off + k * 20 + j, none⟩) (show b < g0 by omega)).trans (hrng j v hv))
        have HD := Lib.hid hd
        have HDK := Lib.hid hok
        have HI := Lib.hid (show (Try.prog.info? 68).map (·.size) = some d.cells.length by rw [hok.size]; kernel_rfl)
        have hst := cmd_store_new hok zeroC_ok wr
        rw [HZ.out] at hst
        have HN := Lib.hid (blk_range (cmd_new_blk wr d))
        have HTP := Lib.hid (tell_put HOK.out HL.out hd)
        obtain ⟨cs, hcs⟩ : ∃ cs, d.cells.toArray = cs := ⟨_, rfl⟩
        have hss : cs.size = 20 := by rw [← hcs]; exact cmd_size hok
        have hf := fold_whole zc cs hzs hss
        rw [hcs] at hst HN
        have HO2 := Lib.hid (show (wr.alloc (.cells cs 68)).heap[g0]? = some (.cells (cmdsV (tellTo cl n k)).toArray 99 (0, 0)) by rw [heap_alloc_old _ _ hgl]; exact HO.out)
        have HB2 := Lib.hid (HBr.out.alloc (by omega) (.cells cs 68))
        have HCS := Lib.hid hcs
        obtain ⟨row, hrow⟩ : ∃ row, (cmdsV (tellTo cl n (k + 1))).toArray = row := ⟨_, rfl⟩
        have hst2 : (storeCells ⟨g0, k * 20, none⟩ cs.toList).run Try.prog (wr.alloc (.cells cs 68)) = .ok () ((wr.alloc (.cells cs 68)).setRow g0 row) := by
          have hlen : (cmdsV (tellTo cl n k)).length = n * 20 := by
            rw [length_cmdsV _ (tellTo_ok HOK.out n k)]
            simp [tellTo, HL.out]
            omega
          have h := run_storeCells_at Try.prog g0 (k * 20) 99 cs.toList 0 (cmdsV (tellTo cl n k)).toArray _ HO2.out (by rw [Array.length_toList, hss, List.size_toArray, hlen]; omega) (by rw [← hcs]; exact cmd_one d)
          simp only [Nat.add_zero, Array.length_toList, hss] at h
          have e : cs.toList = d.cells := by rw [← hcs]
          rw [← hrow, ← HTP.out, ← e]
          exact h
        have HO3 := Lib.hid (show ((wr.alloc (.cells cs 68)).setRow g0 row).heap[g0]? = some (.cells (cmdsV (tellTo cl n (k + 1))).toArray 99 (0, 0)) by rw [hrow]; exact setRow_heap _ _ _ _ _ _ HO2.out)
        have HB3 := Lib.hid (Sh.below_setRow HB2.out (Nat.le_refl g0) row)
        clear hd hok hrng hcs hrow
        have i1 : (0 : Int) ≤ (k : Int) := by omega
        have i2 : (k : Int) < (n : Int) := by omega
        go_wp2_with (first | (refine wpList_load_mid rfl 68 (.tmp 14) rfl b (off + k * 20) rfl d.cells _ HRk.out Try.underlying68 rfl HI.out ?_; rw [HCS.out]) | (refine wpList_load_mid rfl 68 (.tmp 5) rfl wr.heap.size 0 rfl d.cells _ HN.out Try.underlying68 rfl HI.out ?_; rw [HCS.out]))
        go_roundw
        case rel => exact ⟨k + 1, by omega, by go_num, HO3.out, HB3.out⟩
        case measure => simp [intOf]; omega
      · obtain rfl : k = n := by omega
        have HF := Lib.hid (show cmdsV (tellTo cl k k) = cmdsV cl by simp [tellTo, List.take_of_length_le (show cl.length ≤ k by rw [HL.out]; exact Nat.le_refl _)])
        go_wp2_with fail
        go_ret
        refine ⟨g0, rfl, ?_, by rw [HG.out]; exact HBr.out⟩
        have h := HO.out
        rw [HF.out] at h
        rw [HG.out]
        exact own_of_whole h (by rw [length_cmdsV _ HOK.out, HL.out]) (Nat.le_refl _) (by simp only [maxLen]; omega)
end Go.Proofs.Ytobmopjfbgkfbaa
