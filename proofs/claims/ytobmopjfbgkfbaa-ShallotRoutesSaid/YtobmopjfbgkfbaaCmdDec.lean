/-
  Contract of command.Decode: the command that 32 bytes are, or the error. Conditions: the size that a slice can have.
-/
import Derived.Test.YtobmopjfbgkfbaaCmdRef
import Derived.StillTailTactics
import Derived.Laws.ResultCell
import Derived.Laws.CopyOwn
namespace Go.Proofs.Ytobmopjfbgkfbaa
open Go Go.RowKit Go.Sh

def zeroC : Cmd := ⟨0, 0, 0, 0, noMark⟩
theorem zeroC_ok : zeroC.OK := ⟨by decide, by decide, by decide, by decide, rfl, by unfold zeroC noMark; simp⟩
/-- the command that 32 bytes spell -/
def decC (l : List UInt8) : Cmd := ⟨bt l 0, bt l 1, (getV 2 l 32 2 4 : Nat), (getV 2 l 32 6 8 : Nat), ((l.drop 14).take 16).map fun x => (x.toNat : Int)⟩
def tailB (l : List UInt8) : Bool := bt l 30 != 0 || bt l 31 != 0
def decE (l : List UInt8) : Int := if l.length = 32 then (if tailB l = true ∧ checkN (decC l) ≠ 1 then 3 else checkN (decC l)) else 2
def decR (l : List UInt8) : Cmd := if decE l = 0 then decC l else zeroC
theorem decC_ok {l : List UInt8} (h : l.length = 32) : (decC l).OK := by
  have e4 : getE 2 32 2 4 = 0 := by decide
  have e8 : getE 2 32 6 8 = 0 := by decide
  refine ⟨⟨bt_lo l 0, by have := bt_hi l 0; show bt l 0 < 256; omega⟩, ⟨bt_lo l 1, by have := bt_hi l 1; show bt l 1 < 256; omega⟩, ?_, ?_, ?_, ?_⟩
  · have hv := val_lt (f := dig 2 l 2 4) (fun j => by unfold dig; split <;> exact by8_lt _ _) 4
    simp only [decC, getV, e4, if_pos]
    have : (256 : Nat) ^ 4 = 4294967296 := rfl
    rw [show ((2 : Int).toNat) = 2 from rfl, show ((4 : Int).toNat) = 4 from rfl]
    omega
  · have hv := val_lt (f := dig 2 l 6 8) (fun j => by unfold dig; split <;> exact by8_lt _ _) 8
    simp only [decC, getV, e8, if_pos]
    have : (256 : Nat) ^ 8 = 18446744073709551616 := rfl
    rw [show ((6 : Int).toNat) = 6 from rfl, show ((8 : Int).toNat) = 8 from rfl]
    omega
  · simp [decC, h]
  · intro y hy
    simp only [decC, List.mem_map] at hy
    obtain ⟨x, _, rfl⟩ := hy
    have := x.toNat_lt
    omega

/-- a command and an error's number are handed back; nothing that was there has turned -/
def RetC (w : World) (c : Cmd) (er : Int) (e : Ending) (w' : World) : Prop := e = .returned (.tuple #[c.v, .int .i64 er]) ∧ Below w.heap.size w w'
/-- the whole block of a command -/
def CmdBlk (w : World) (b : Nat) (c : Cmd) : Prop := w.heap[b]? = some (.cells c.cells.toArray 68 (0, 0))

theorem cmd_one (c : Cmd) : ∀ v ∈ c.cells.toArray.toList, v.oneCell' = true := by
  intro v hv
  simp only [Cmd.cells, List.mem_cons, List.mem_map] at hv
  rcases hv with rfl | rfl | rfl | rfl | ⟨_, _, rfl⟩ <;> rfl
set_option maxRecDepth 100000 in
theorem zeroCmd : ∀ w : World, (zeroValue 68).run Try.prog w = .ok (.agg zeroC.cells.toArray) w := fun _ => by kernel_rfl
set_option maxRecDepth 100000 in
theorem cmd_info {c : Cmd} (hc : c.OK) : (Try.prog.info? 68).map (·.size) = some c.cells.toArray.size := by
  rw [List.size_toArray, hc.size]; kernel_rfl
theorem cmd_size {c : Cmd} (hc : c.OK) : c.cells.toArray.size = 20 := by rw [List.size_toArray, hc.size]
/-- a variable that holds a command is made -/
theorem cmd_store_new {c c' : Cmd} (hc : c.OK) (hc' : c'.OK) (w : World) : (storeCells ⟨w.heap.size, 0, none⟩ c.cells.toArray.toList).run Try.prog (w.alloc (.cells c'.cells.toArray 68)) = .ok () (w.alloc (.cells c.cells.toArray 68)) :=
  run_cells_new w _ _ _ (by rw [cmd_size hc, cmd_size hc']) (cmd_one c)
theorem cmd_store {c c' : Cmd} (hc : c.OK) (hc' : c'.OK) {w : World} {b : Nat} (h : CmdBlk w b c') : (storeCells ⟨b, 0, none⟩ c.cells.toArray.toList).run Try.prog w = .ok () (w.setRow b c.cells.toArray) :=
  run_cells_whole w b _ _ _ h (by rw [cmd_size hc, cmd_size hc']) (cmd_one c)
set_option maxRecDepth 100000 in
theorem cmd_load {c : Cmd} (hc : c.OK) {w : World} {b : Nat} (h : CmdBlk w b c) : (loadVar 68 ⟨b, 0, none⟩).run Try.prog w = .ok c.v w :=
  run_loadVar_mid w b 0 _ c.cells _ (blk_range h) Try.underlying68 rfl (by rw [hc.size]; kernel_rfl)
set_option maxRecDepth 100000 in
theorem cmd_loadAt {c : Cmd} (hc : c.OK) {w : World} {b : Nat} (h : CmdBlk w b c) : (Instr.loadAt 68 (.pointer (some ⟨b, 0, none⟩))).run Try.prog w = .ok (.agg c.cells.toArray) w :=
  run_loadAt_mid w b 0 _ c.cells _ (blk_range h) Try.underlying68 rfl (by rw [hc.size]; kernel_rfl)
theorem CmdBlk.at_ {w : World} {b : Nat} {c : Cmd} (h : CmdBlk w b c) : CmdAt w b c :=
  ⟨blk_cell h, blk_cell h, blk_cell h, blk_cell h, blk_range h⟩
theorem CmdBlk.below {w w' : World} {b B : Nat} {c : Cmd} (h : CmdBlk w b c) (hb : Below B w w') (hl : b < B) : CmdBlk w' b c := (hb.block b hl).trans h
theorem CmdBlk.set {w : World} {b : Nat} {c' : Cmd} (h : CmdBlk w b c') (c : Cmd) : CmdBlk (w.setRow b c.cells.toArray) b c := setRow_heap w b _ _ _ _ h
theorem cmd_new_blk (w : World) (c : Cmd) : CmdBlk (w.alloc (.cells c.cells.toArray 68)) w.heap.size c := heap_alloc_new w _

theorem splice_mark {c : Cmd} (hc : c.OK) (M : List UInt8) (h : M.length = 16) : splice c.cells 4 (bv M) = ({ c with m := M.map fun x => (x.toNat : Int) } : Cmd).cells := by
  unfold splice
  have e : c.cells.drop (4 + (bv M).length) = [] := List.drop_eq_nil_of_le (by rw [hc.size, length_bv]; omega)
  rw [e, List.append_nil]
  simp [Cmd.cells, bv, List.map_map, Function.comp_def]
theorem cut_lo {c : Nat} (ad : Addr) (p n : Nat) (hn : n ≤ c) (hp : p < n) (W : World) : (Instr.slice 26 (.slice (some ad) n c) (some (.int .i64 (p : Int))) none none).run Try.prog W = .ok (.slice (some (ad.add p)) (n - p) (c - p)) W := by
  have h := run_sl_lo TB W (some ad) n c .i64 p (by omega)
  rw [if_neg (by omega), Nat.mul_one] at h
  exact h

/-- the results of Decode, read out of the block of the result -/
theorem dec_results {fn : Func} (hf : fn.results = #[.cell 2 68, .tmp 3]) (ts : Array Value) (w : World) (b : Nat) (c : Cmd) (hc : c.OK) (h : CmdBlk w b c) (e : Value) (h2 : ts.getD 2 undef = .pointer (some ⟨b, 0, none⟩)) (h3 : ts.getD 3 undef = e) : (results fn ts).run Try.prog w = .ok (.tuple #[c.v, e]) w := by
  rw [results_cell_tmp hf, h2, h3]
  simp [asAddr, cmd_load hc h]

set_option maxRecDepth 100000 in
theorem Decode_any (A : Option Addr) (n c : Nat) (l : List UInt8) (w : World) (B : Nat) (hr : RB w B A n l) (hB : B ≤ w.heap.size) (hn : n ≤ 140737488355328) (hc : n ≤ c) :
    Calls Try.prog 51 #[.slice A n c] w (RetC w (decR l) (decE l)) := by
  have HL := Lib.hid hr.len
  have HR := Lib.hid hr
  clear hr
  have hzero := zeroCmd
  obtain ⟨zc, hzc⟩ : ∃ zc, zeroC.cells.toArray = zc := ⟨_, rfl⟩
  rw [hzc] at hzero
  have hzs : zc.size = 20 := by rw [← hzc]; exact cmd_size zeroC_ok
  have hze : ¬ zc = #[] := by intro h; rw [h] at hzs; cases hzs
  have HZ := Lib.hid hzc
  clear hzc
  by_cases h32 : n = 32
  · subst h32
    obtain ⟨ad, rfl, hab, q0⟩ := HR.out.at_ (k := 0) (by omega)
    obtain ⟨_, hh, _, q1⟩ := HR.out.at_ (k := 1) (by omega)
    obtain rfl := Option.some.inj hh
    rw [add_zero] at q0
    have HB1 := Lib.hid ((Below.refl w.heap.size w).alloc (Nat.le_refl _) (.cells zc 68))
    have hk0 := bt_lo l 0
    have hk1 := bt_hi l 0
    have hf0 := bt_lo l 1
    have hf1 := bt_hi l 1
    generalize hk : bt l 0 = k at *
    generalize hf : bt l 1 = f at *
    have HK := Lib.hid hk
    have HF := Lib.hid hf
    clear hh hk hf
    obtain ⟨c1, hc1⟩ : ∃ c1 : Cmd, c1 = ⟨k, f, 0, 0, noMark⟩ := ⟨_, rfl⟩
    have c1ok : c1.OK := by rw [hc1]; exact ⟨⟨hk0, by show k < 256; omega⟩, ⟨hf0, by show f < 256; omega⟩, ⟨by show (0 : Int) ≤ 0; omega, by show (0 : Int) < 4294967296; omega⟩, ⟨by show (0 : Int) ≤ 0; omega, by show (0 : Int) < 18446744073709551616; omega⟩, rfl, zeroC_ok.m⟩
    obtain ⟨X, hX⟩ : ∃ X, c1.cells.toArray = X := ⟨_, rfl⟩
    have hbX : (zc.setIfInBounds 0 (.int .u8 k)).setIfInBounds 1 (.int .u8 f) = X := by rw [← HZ.out, ← hX, hc1]; rfl
    have hXs : X.size = 20 := by rw [← hX]; exact cmd_size c1ok
    go_enter Try.func51, Try.ntmps51
    go_wp2_with fail
    have hq0 := (HB1.out.cell (p := ad) (by omega)).trans q0
    have hq1 : (w.alloc (.cells zc 68)).cell? ⟨ad.block, ad.off + 1, none⟩ = some (.int .u8 f) := (HB1.out.cell (p := ⟨ad.block, ad.off + 1, none⟩) (by show ad.block < _; omega)).trans q1
    have HG := Lib.hid (show CmdBlk (w.alloc (.cells zc 68)) w.heap.size zeroC by rw [← HZ.out]; exact cmd_new_blk w zeroC)
    generalize hw1 : w.alloc (.cells zc 68) = w1 at *
    have hz1 : w.heap.size < w1.heap.size := by rw [← hw1]; simp
    clear hw1
    have hst : (storeCells ⟨w1.heap.size, 0, none⟩ X.toList).run Try.prog (w1.alloc (.cells zc 68)).drew = .ok () (w1.alloc (.cells X 68)).drew := by
      rw [← HZ.out, ← hX]
      exact cmd_store_new c1ok zeroC_ok w1.drew
    have HC1 := Lib.hid hc1
    have HX := Lib.hid hX
    have HOK1 := Lib.hid c1ok
    clear hc1 hX c1ok
    have kk : ∀ o : Obj, (w1.alloc o).drew.cell? ad = some (.int .u8 k) ∧ (w1.alloc o).drew.cell? ⟨ad.block, ad.off + 1, none⟩ = some (.int .u8 f) := fun o =>
      ⟨(((Below.refl w1.heap.size w1).alloc (Nat.le_refl _) o).drew.cell (p := ad) (by omega)).trans hq0, (((Below.refl w1.heap.size w1).alloc (Nat.le_refl _) o).drew.cell (p := ⟨ad.block, ad.off + 1, none⟩) (by show ad.block < _; omega)).trans hq1⟩
    have KK := Lib.hid kk
    clear kk
    go_region_held3 (fun w' => w'.cell? ad = some (.int .u8 k) ∧ w'.cell? ⟨ad.block, ad.off + 1, none⟩ = some (.int .u8 f)) (first | (exact ⟨hq0, hq1⟩) | (exact KK.out _) | (go_keep; done)) (first | fail)
    have HB2 := Lib.hid (show Below w1.heap.size w1 (w1.alloc (.cells X 68)).drew from ((Below.refl _ _).alloc (Nat.le_refl _) _).drew)
    have HC2 := Lib.hid (show CmdBlk (w1.alloc (.cells X 68)).drew w1.heap.size c1 by rw [← HX.out]; exact cmd_new_blk w1 c1)
    clear hst hbX hq0 hq1 KK hXs hze
    generalize (w1.alloc (.cells X 68)).drew = w2 at *
    generalize hb : w1.heap.size = b at *
    generalize hg0 : w.heap.size = g0 at *
    have HBB := Lib.hid hb
    have HG0 := Lib.hid hg0
    clear hb hg0
    have HBw2 := Lib.hid (HB1.out.trans (HB2.out.mono (by omega)))
    have HR2 := Lib.hid (HR.out.below (HBw2.out.mono hB))
    have HGG := Lib.hid (HG.out.below HB2.out hz1)
    have e4 : getE 2 32 2 4 = 0 := by decide
    have e8 : getE 2 32 6 8 = 0 := by decide
    have HE4 := Lib.hid e4
    have HE8 := Lib.hid e8
    have HDK := Lib.hid (decC_ok HL.out)
    have hdb := HDK.out.d
    have hxb := HDK.out.x
    clear e4 e8 HB1 HB2 HG
    go_wp2_with fail
    refine (Get_any 2 (some ad) 32 c l 2 4 w2 B HR2.out (by omega) (by omega)).mono ?_
    rintro e w' ⟨rfl, rfl⟩
    rw [HE4.out]
    go_wp2_with fail
    refine (Get_any 2 (some ad) 32 c l 6 8 w2 B HR2.out (by omega) (by omega)).mono ?_
    rintro e w' ⟨rfl, rfl⟩
    rw [HE8.out]
    change 0 ≤ ((getV 2 l 32 2 4 : Nat) : Int) ∧ ((getV 2 l 32 2 4 : Nat) : Int) < 4294967296 at hdb
    change 0 ≤ ((getV 2 l 32 6 8 : Nat) : Int) ∧ ((getV 2 l 32 6 8 : Nat) : Int) < 18446744073709551616 at hxb
    have HDC := Lib.hid (show decC l = ⟨k, f, (getV 2 l 32 2 4 : Nat), (getV 2 l 32 6 8 : Nat), ((l.drop 14).take 16).map fun x => (x.toNat : Int)⟩ by rw [← HK.out, ← HF.out]; rfl)
    generalize getV 2 l 32 2 4 = dn at *
    generalize getV 2 l 32 6 8 = xn at *
    have h2c : w2.cell? ⟨b, 2, none⟩ = some (.int .u32 0) := by rw [blk_cell HC2.out, HC1.out]; rfl
    have h3c : w2.cell? ⟨b, 3, none⟩ = some (.int .u64 0) := by rw [blk_cell HC2.out, HC1.out]; rfl
    have h2f : w2.frozen? ⟨b, 2, none⟩ = false := frozen_of_row _ _ _ _ _ HC2.out
    have h3f : w2.frozen? ⟨b, 3, none⟩ = false := frozen_of_row _ _ _ _ _ HC2.out
    go_wp2_with fail
    obtain ⟨c2, hc2⟩ : ∃ c2 : Cmd, c2 = ⟨k, f, (dn : Int), (xn : Int), noMark⟩ := ⟨_, rfl⟩
    have c2ok : c2.OK := by rw [hc2]; exact ⟨⟨hk0, by show k < 256; omega⟩, ⟨hf0, by show f < 256; omega⟩, hdb, hxb, rfl, zeroC_ok.m⟩
    have hblk : CmdBlk ((w2.setCell ⟨b, 2, none⟩ (.int .u32 (dn : Int))).setCell ⟨b, 3, none⟩ (.int .u64 (xn : Int))) b c2 := by
      have h := blk_set (blk_set HC2.out (i := 2) (.int .u32 (dn : Int))) (i := 3) (.int .u64 (xn : Int))
      rw [HC1.out] at h
      rw [hc2]
      exact h
    have HB3 := Lib.hid (show Below b w2 ((w2.setCell ⟨b, 2, none⟩ (.int .u32 (dn : Int))).setCell ⟨b, 3, none⟩ (.int .u64 (xn : Int))) from ((Below.refl b w2).setCell (p := ⟨b, 2, none⟩) (Nat.le_refl b) _).setCell (p := ⟨b, 3, none⟩) (Nat.le_refl b) _)
    have HC3 := Lib.hid hblk
    have hz3 := HB3.out.size
    clear hblk h2c h3c h2f h3f
    generalize (w2.setCell ⟨b, 2, none⟩ (.int .u32 (dn : Int))).setCell ⟨b, 3, none⟩ (.int .u64 (xn : Int)) = w3 at *
    have hM : ((l.drop 14).take 16).length = 16 := by simp [HL.out]
    have HDC' := Lib.hid (show decC l = { c2 with m := ((l.drop 14).take 16).map fun x => (x.toNat : Int) } by rw [HDC.out, hc2])
    have HMR := Lib.hid (show RB w3 B (some (ad.add 14)) 16 ((l.drop 14).take 16) by
      have h := ((HR2.out.below (HB3.out.mono (by omega))).cut (k := 14) (cap := c) (by omega) hc)
      rw [if_neg (by omega)] at h
      exact h.take (k := 16) (by omega))
    generalize (l.drop 14).take 16 = M at *
    have HML := Lib.hid hM
    have HK2 := Lib.hid c2ok
    have HX2 := Lib.hid hc2
    clear hM hc2 c2ok
    have hsl : ∀ W, (Instr.slice 26 (.slice (some ad) 32 c) (some (.int .i64 14)) none none).run Try.prog W = .ok (.slice (some (ad.add 14)) 18 (c - 14)) W := fun W => cut_lo ad 14 32 hc (by omega) W
    generalize ad.add 14 = ad14 at *
    have HMC := Lib.hid (show ∀ j v, (bv M)[j]? = some v → w3.drew.cell? (ad14.add j) = some v by
      intro j v hv
      obtain ⟨ad', e, _, hc⟩ := Reads.some_ HMR.out (by rw [length_bv, HML.out]; omega)
      obtain rfl := Option.some.inj e
      exact hc.get hv)
    go_region_held3 (fun w' => True) (trivial) (first | (refine step_copy_splice (by rfl) (.tmp 44) (.tmp 46) 26 26 (by rfl) 5 Try.underlying26 (by kernel_rfl) (some ⟨b, 4, none⟩) (some ad14) 16 16 18 (c - 14) (by rfl) (by rfl) b 4 c2.cells 68 (by exact HC3.out) (bv M) (by rw [length_bv, HML.out]; rfl) (fun _ => ⟨rfl, ad14, rfl, HMC.out⟩) (by rw [length_bv, HML.out, HK2.out.size]; omega) (bv_one M) b w2 (by exact HB3.out.drew) (Nat.le_refl _) ?_; intro w4 hg4 hb4))
    have hb4' := hg4.out
    rw [splice_mark HK2.out M HML.out, ← HDC'.out] at hb4'
    have HC4 := Lib.hid (show CmdBlk w4 b (decC l) from hb4')
    have HB4 := Lib.hid (HBw2.out.trans (hb4.mono (by omega)))
    have HG4 := Lib.hid (HGG.out.below hb4 (by omega))
    have hz4 := hb4.size
    have hbz : b < w4.heap.size := (Array.getElem?_eq_some_iff.1 hb4').1
    clear hg4 hb4 hb4' HMC HMR HC3 HB3 HC2 HDC HDC' HGG HR2 HML HX2 HK2
    have HS := Lib.hid (fun W => Check_any (decC l) W HDK.out)
    have HL4 := Lib.hid (fun W => @cmd_loadAt (decC l) HDK.out W b)
    have HR4 := Lib.hid (blk_range HC4.out)
    have HI4 := Lib.hid (show (Try.prog.info? 68).map (·.size) = some (decC l).cells.length by rw [HDK.out.size]; kernel_rfl)
    have HFE := Lib.hid (show decE l = if tailB l = true ∧ checkN (decC l) ≠ 1 then 3 else checkN (decC l) by unfold decE; rw [if_pos HL.out])
    have HFR := Lib.hid (show decR l = if decE l = 0 then decC l else zeroC from rfl)
    have HT := Lib.hid (show tailB l = (bt l 30 != 0 || bt l 31 != 0) from rfl)
    have hE := checkN_ok (decC l)
    generalize hD : decC l = D at *
    unfold Cmd.v at HS
    obtain ⟨Y, hY⟩ : ∃ Y, D.cells.toArray = Y := ⟨_, rfl⟩
    rw [hY] at HS
    have HY := Lib.hid hY
    have hYs : Y.size = 20 := by rw [← hY]; exact cmd_size HDK.out
    clear hY hD
    generalize decE l = ER at *
    generalize decR l = CR at *
    generalize tailB l = tb at *
    generalize checkN D = E at *
    go_wp2_with (refine wpList_load_mid rfl 68 _ rfl b 0 rfl D.cells _ HR4.out Try.underlying68 rfl HI4.out ?_; rw [HY.out])
    refine (HS.out _).mono ?_
    rintro e w5 ⟨rfl, hb5⟩
    have HB5 := Lib.hid (HB4.out.trans (hb5.mono (by omega)))
    have HC5 := Lib.hid (HC4.out.below hb5 hbz)
    have HG5 := Lib.hid (HG4.out.below hb5 (by omega))
    have HR5 := Lib.hid (HR.out.below (HB5.out.mono hB))
    obtain ⟨_, hh, hab', q30⟩ := HR5.out.at_ (k := 30) (by omega)
    obtain rfl := Option.some.inj hh
    obtain ⟨_, hh', _, q31⟩ := HR5.out.at_ (k := 31) (by omega)
    obtain rfl := Option.some.inj hh'
    have q31' : w5.cell? ⟨(ad.add 30).block, (ad.add 30).off + 1, none⟩ = some (.int .u8 (bt l 31)) := q31
    clear hb5 HS HR4 HC4 HG4 HB4 HR5 hh hh' q31 hsl q0 q1
    have hsl : ∀ W, (Instr.slice 26 (.slice (some ad) 32 c) (some (.int .i64 30)) none none).run Try.prog W = .ok (.slice (some (ad.add 30)) 2 (c - 30)) W := fun W => cut_lo ad 30 32 hc (by omega) W
    generalize ad.add 30 = ad30 at *
    generalize bt l 30 = t30 at *
    generalize bt l 31 = t31 at *
    have HR5' := Lib.hid (blk_range HC5.out)
    have hsz : (storeCells ⟨g0, 0, none⟩ zc.toList).run Try.prog w5 = .ok () (w5.setRow g0 zc) := by rw [← HZ.out]; exact cmd_store zeroC_ok zeroC_ok HG5.out
    have hsy : (storeCells ⟨g0, 0, none⟩ Y.toList).run Try.prog w5 = .ok () (w5.setRow g0 Y) := by rw [← HY.out]; exact cmd_store HDK.out zeroC_ok HG5.out
    have HBz := Lib.hid (fun X => Sh.below_setRow HB5.out (Nat.le_refl g0) X)
    have HCz := Lib.hid (show CmdBlk (w5.setRow g0 zc) g0 zeroC by rw [← HZ.out]; exact HG5.out.set zeroC)
    have HCy := Lib.hid (show CmdBlk (w5.setRow g0 Y) g0 D by rw [← HY.out]; exact HG5.out.set D)
    rcases hE with rfl | rfl | rfl | rfl
    · by_cases h30 : t30 = 0
      · subst h30
        by_cases h31 : t31 = 0
        · subst h31
          have hER : ER = 0 := by rw [HFE.out, HT.out]; simp []
          have hCR : CR = D := by rw [HFR.out, if_pos hER]
          have HER := Lib.hid hER
          have HCR := Lib.hid hCR
          clear hER hCR
          go_wp2_with (refine wpList_load_mid rfl 68 _ rfl b 0 rfl D.cells _ HR5'.out Try.underlying68 rfl HI4.out ?_; rw [HY.out])
          exact bodyPost_ret (v := .tuple #[D.v, .int .i64 0]) (dec_results (by rfl) _ _ g0 D HDK.out HCy.out _ (by rfl) (by rfl)) rfl ⟨by rw [HER.out, HCR.out], by rw [HG0.out]; exact HBz.out _⟩
        · have n31 : (t31 != 0) = true := by rw [bne_iff_ne]; exact h31
          clear h31
          have hER : ER = 3 := by rw [HFE.out, HT.out]; simp [n31]
          have hCR : CR = zeroC := by rw [HFR.out, if_neg (by rw [hER]; decide)]
          have HER := Lib.hid hER
          have HCR := Lib.hid hCR
          clear hER hCR
          go_wp2_with fail
          exact bodyPost_ret (v := .tuple #[zeroC.v, .int .i64 3]) (dec_results (by rfl) _ _ g0 zeroC zeroC_ok HCz.out _ (by rfl) (by rfl)) rfl ⟨by rw [HER.out, HCR.out], by rw [HG0.out]; exact HBz.out _⟩
      · have n30 : (t30 != 0) = true := by rw [bne_iff_ne]; exact h30
        clear h30
        have hER : ER = 3 := by rw [HFE.out, HT.out]; simp [n30]
        have hCR : CR = zeroC := by rw [HFR.out, if_neg (by rw [hER]; decide)]
        have HER := Lib.hid hER
        have HCR := Lib.hid hCR
        clear hER hCR
        go_wp2_with fail
        exact bodyPost_ret (v := .tuple #[zeroC.v, .int .i64 3]) (dec_results (by rfl) _ _ g0 zeroC zeroC_ok HCz.out _ (by rfl) (by rfl)) rfl ⟨by rw [HER.out, HCR.out], by rw [HG0.out]; exact HBz.out _⟩
    · by_cases h30 : t30 = 0
      · subst h30
        by_cases h31 : t31 = 0
        · subst h31
          have hER : ER = 1 := by rw [HFE.out, HT.out]; simp []
          have hCR : CR = zeroC := by rw [HFR.out, if_neg (by rw [hER]; decide)]
          have HER := Lib.hid hER
          have HCR := Lib.hid hCR
          clear hER hCR
          go_wp2_with fail
          exact bodyPost_ret (v := .tuple #[zeroC.v, .int .i64 1]) (dec_results (by rfl) _ _ g0 zeroC zeroC_ok HCz.out _ (by rfl) (by rfl)) rfl ⟨by rw [HER.out, HCR.out], by rw [HG0.out]; exact HBz.out _⟩
        · have n31 : (t31 != 0) = true := by rw [bne_iff_ne]; exact h31
          clear h31
          have hER : ER = 1 := by rw [HFE.out, HT.out]; simp [n31]
          have hCR : CR = zeroC := by rw [HFR.out, if_neg (by rw [hER]; decide)]
          have HER := Lib.hid hER
          have HCR := Lib.hid hCR
          clear hER hCR
          go_wp2_with fail
          exact bodyPost_ret (v := .tuple #[zeroC.v, .int .i64 1]) (dec_results (by rfl) _ _ g0 zeroC zeroC_ok HCz.out _ (by rfl) (by rfl)) rfl ⟨by rw [HER.out, HCR.out], by rw [HG0.out]; exact HBz.out _⟩
      · have n30 : (t30 != 0) = true := by rw [bne_iff_ne]; exact h30
        clear h30
        have hER : ER = 1 := by rw [HFE.out, HT.out]; simp [n30]
        have hCR : CR = zeroC := by rw [HFR.out, if_neg (by rw [hER]; decide)]
        have HER := Lib.hid hER
        have HCR := Lib.hid hCR
        clear hER hCR
        go_wp2_with fail
        exact bodyPost_ret (v := .tuple #[zeroC.v, .int .i64 1]) (dec_results (by rfl) _ _ g0 zeroC zeroC_ok HCz.out _ (by rfl) (by rfl)) rfl ⟨by rw [HER.out, HCR.out], by rw [HG0.out]; exact HBz.out _⟩
    · by_cases h30 : t30 = 0
      · subst h30
        by_cases h31 : t31 = 0
        · subst h31
          have hER : ER = 3 := by rw [HFE.out, HT.out]; simp []
          have hCR : CR = zeroC := by rw [HFR.out, if_neg (by rw [hER]; decide)]
          have HER := Lib.hid hER
          have HCR := Lib.hid hCR
          clear hER hCR
          go_wp2_with fail
          exact bodyPost_ret (v := .tuple #[zeroC.v, .int .i64 3]) (dec_results (by rfl) _ _ g0 zeroC zeroC_ok HCz.out _ (by rfl) (by rfl)) rfl ⟨by rw [HER.out, HCR.out], by rw [HG0.out]; exact HBz.out _⟩
        · have n31 : (t31 != 0) = true := by rw [bne_iff_ne]; exact h31
          clear h31
          have hER : ER = 3 := by rw [HFE.out, HT.out]; simp [n31]
          have hCR : CR = zeroC := by rw [HFR.out, if_neg (by rw [hER]; decide)]
          have HER := Lib.hid hER
          have HCR := Lib.hid hCR
          clear hER hCR
          go_wp2_with fail
          exact bodyPost_ret (v := .tuple #[zeroC.v, .int .i64 3]) (dec_results (by rfl) _ _ g0 zeroC zeroC_ok HCz.out _ (by rfl) (by rfl)) rfl ⟨by rw [HER.out, HCR.out], by rw [HG0.out]; exact HBz.out _⟩
      · have n30 : (t30 != 0) = true := by rw [bne_iff_ne]; exact h30
        clear h30
        have hER : ER = 3 := by rw [HFE.out, HT.out]; simp [n30]
        have hCR : CR = zeroC := by rw [HFR.out, if_neg (by rw [hER]; decide)]
        have HER := Lib.hid hER
        have HCR := Lib.hid hCR
        clear hER hCR
        go_wp2_with fail
        exact bodyPost_ret (v := .tuple #[zeroC.v, .int .i64 3]) (dec_results (by rfl) _ _ g0 zeroC zeroC_ok HCz.out _ (by rfl) (by rfl)) rfl ⟨by rw [HER.out, HCR.out], by rw [HG0.out]; exact HBz.out _⟩
    · by_cases h30 : t30 = 0
      · subst h30
        by_cases h31 : t31 = 0
        · subst h31
          have hER : ER = 11 := by rw [HFE.out, HT.out]; simp []
          have hCR : CR = zeroC := by rw [HFR.out, if_neg (by rw [hER]; decide)]
          have HER := Lib.hid hER
          have HCR := Lib.hid hCR
          clear hER hCR
          go_wp2_with fail
          exact bodyPost_ret (v := .tuple #[zeroC.v, .int .i64 11]) (dec_results (by rfl) _ _ g0 zeroC zeroC_ok HCz.out _ (by rfl) (by rfl)) rfl ⟨by rw [HER.out, HCR.out], by rw [HG0.out]; exact HBz.out _⟩
        · have n31 : (t31 != 0) = true := by rw [bne_iff_ne]; exact h31
          clear h31
          have hER : ER = 3 := by rw [HFE.out, HT.out]; simp [n31]
          have hCR : CR = zeroC := by rw [HFR.out, if_neg (by rw [hER]; decide)]
          have HER := Lib.hid hER
          have HCR := Lib.hid hCR
          clear hER hCR
          go_wp2_with fail
          exact bodyPost_ret (v := .tuple #[zeroC.v, .int .i64 3]) (dec_results (by rfl) _ _ g0 zeroC zeroC_ok HCz.out _ (by rfl) (by rfl)) rfl ⟨by rw [HER.out, HCR.out], by rw [HG0.out]; exact HBz.out _⟩
      · have n30 : (t30 != 0) = true := by rw [bne_iff_ne]; exact h30
        clear h30
        have hER : ER = 3 := by rw [HFE.out, HT.out]; simp [n30]
        have hCR : CR = zeroC := by rw [HFR.out, if_neg (by rw [hER]; decide)]
        have HER := Lib.hid hER
        have HCR := Lib.hid hCR
        clear hER hCR
        go_wp2_with fail
        exact bodyPost_ret (v := .tuple #[zeroC.v, .int .i64 3]) (dec_results (by rfl) _ _ g0 zeroC zeroC_ok HCz.out _ (by rfl) (by rfl)) rfl ⟨by rw [HER.out, HCR.out], by rw [HG0.out]; exact HBz.out _⟩
  · have hne : ((n : Int) != 32) = true := by rw [bne_iff_ne]; omega
    have e2 : decE l = 2 := by unfold decE; rw [if_neg (by rw [HL.out]; exact h32)]
    have e1 : decR l = zeroC := by unfold decR; rw [if_neg (by rw [e2]; decide)]
    rw [e1, e2]
    have hst := cmd_store_new zeroC_ok zeroC_ok w
    rw [HZ.out] at hst
    clear e1 e2 h32
    go_enter Try.func51, Try.ntmps51
    go_wp2_with fail
    refine bodyPost_ret (v := .tuple #[zeroC.v, .int .i64 2]) ?_ rfl ⟨rfl, (Below.refl _ _).alloc (Nat.le_refl _) _⟩
    have hld := cmd_load zeroC_ok (cmd_new_blk w zeroC)
    rw [HZ.out] at hld
    rw [results_cell_tmp Try.results51]
    simp [asAddr, hld]
end Go.Proofs.Ytobmopjfbgkfbaa
