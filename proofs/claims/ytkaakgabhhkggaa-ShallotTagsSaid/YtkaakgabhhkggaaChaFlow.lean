/-
  Flows in memory; contracts of chacha.New and of Flow.Next. No conditions but that a flow lies at the address and its place is within the longest stream.
-/
import Derived.Test.YtkaakgabhhkggaaChaPiece
import Derived.Deep.RegionHeld3
namespace Go.Proofs.Ytkaakgabhhkggaa
open Go Go.RowKit Go.Sh

/-- block p, of type ty, begins with a flow: its key, its place, then the cells rest -/
structure FlowAt (w : World) (ty : TypeId) (p : Nat) (rest : List Value) (key : List UInt8) (u : Nat) : Prop where
  blk : w.heap[p]? = some (.cells (bv key ++ .int .i64 (u : Int) :: rest).toArray ty (0, 0))
  len : key.length = 32
section
variable {w w' : World} {ty : TypeId} {p u : Nat} {rest : List Value} {key : List UInt8}
theorem FlowAt.keep (h : FlowAt w ty p rest key u) (hk : w'.heap[p]? = w.heap[p]?) : FlowAt w' ty p rest key u := ⟨hk.trans h.blk, h.len⟩
theorem FlowAt.lt (h : FlowAt w ty p rest key u) : p < w.heap.size := (Array.getElem?_eq_some_iff.1 h.blk).1
theorem FlowAt.below {B : Nat} (h : FlowAt w ty p rest key u) (hb : Below B w w') (hp : p < B) : FlowAt w' ty p rest key u := h.keep (hb.block p hp)
theorem FlowAt.used (h : FlowAt w ty p rest key u) : w.cell? ⟨p, 32, none⟩ = some (.int .i64 (u : Int)) := by
  rw [blk_cell h.blk, List.getElem?_toArray, List.getElem?_append_right (by rw [length_bv, h.len]; exact Nat.le_refl _), length_bv, h.len]
  rfl
theorem FlowAt.free (h : FlowAt w ty p rest key u) (i : Nat) : w.frozen? ⟨p, i, none⟩ = false := frozen_of_row _ _ i _ _ h.blk
theorem FlowAt.rb (h : FlowAt w ty p rest key u) : RB w (p + 1) (some ⟨p, 0, none⟩) 32 key := by
  refine ⟨by rw [length_bv, h.len], .inr ⟨_, rfl, Nat.lt_succ_self _, fun j hj => ?_⟩⟩
  rw [add_mk, blk_cell h.blk, List.getElem?_toArray, Nat.zero_add, List.getElem?_append_left hj]
theorem FlowAt.set (h : FlowAt w ty p rest key u) (v : Nat) : FlowAt (w.setCell ⟨p, 32, none⟩ (.int .i64 (v : Int))) ty p rest key v := by
  refine ⟨?_, h.len⟩
  rw [blk_set h.blk]
  congr 2
  rw [List.setIfInBounds_toArray]
  congr 1
  rw [List.set_append_right _ _ (by rw [length_bv, h.len]; exact Nat.le_refl _), length_bv, h.len]
  rfl
end

/-- what New hands back -/
def NewPost (w : World) (n : Nat) (key : List UInt8) (e : Ending) (w' : World) : Prop :=
  (n = 32 ∧ ∃ p, e = .returned (.tuple #[.pointer (some ⟨p, 0, none⟩), .int .i64 0]) ∧ w.heap.size ≤ p ∧ FlowAt w' 72 p [] key 0 ∧ Below w.heap.size w w') ∨
  (n ≠ 32 ∧ e = .returned (.tuple #[.pointer none, .int .i64 2]) ∧ w = w')

set_option maxRecDepth 100000 in
set_option maxHeartbeats 1000000 in
theorem New_any (A : Option Addr) (n c : Nat) (key : List UInt8) (w : World) (B : Nat) (hk : RB w B A n key) (hB : B ≤ w.heap.size) :
    Calls Try.prog 12 #[.slice A n c] w (NewPost w n key) := by
  by_cases hn : n = 32
  · subst hn
    have hl := hk.len
    obtain ⟨ad, rfl, hadb, hcell⟩ := Reads.some_ hk (by rw [length_bv, hl]; omega)
    have hz : ∀ W : World, (zeroValue 72).run Try.prog W = .ok (.agg (bv (zs 32) ++ [Value.int .i64 0]).toArray) W := fun _ => by kernel_rfl
    have hzs : (bv (zs 32) ++ [Value.int .i64 0]).toArray.size = 33 := rfl
    have HZ := Lib.hid (show (bv (zs 32) ++ [Value.int .i64 0]).toArray.toList.drop 32 = [.int .i64 0] from rfl)
    generalize (bv (zs 32) ++ [Value.int .i64 0]).toArray = zc at *
    have hze : ¬ zc = #[] := by intro h; rw [h] at hzs; cases hzs
    have HC := Lib.hid hcell
    have HL := Lib.hid hl
    clear hcell hk hl
    have hsrc : ∀ j v, (bv key)[j]? = some v → (w.alloc (.cells zc 72)).cell? (ad.add j) = some v := by
      intro j v hv
      have h1 := HC.out.get hv
      rw [← h1]
      exact World.cell?_alloc_lt _ _ _ (by rw [block_of_add]; omega)
    have HSRC := Lib.hid hsrc
    clear hsrc
    have HROW := Lib.hid (show (w.alloc (.cells zc 72)).setRow w.heap.size (zc.toList.take 0 ++ (bv key ++ zc.toList.drop (0 + (bv key).length))).toArray = w.alloc (.cells (bv key ++ [Value.int .i64 0]).toArray 72) by
      rw [length_bv, HL.out, List.take_zero, List.nil_append, Nat.zero_add, HZ.out, alloc_setRow])
    go_enter Try.func12, Try.ntmps12
    go_wp2_with (refine wpList_copy_own rfl (.tmp 13) (.tmp 14) 22 22 rfl 5 Try.underlying22 (by kernel_rfl) w.heap.size 0 32 32 ad 32 c rfl rfl zc 72 (heap_alloc_new w _) (bv key) (by rw [length_bv, HL.out]; rfl) HSRC.out (by rw [length_bv, HL.out, hzs]; omega) (bv_one key) ?_; rw [HROW.out])
    go_ret2
    exact .inl ⟨rfl, w.heap.size, rfl, Nat.le_refl _, ⟨heap_alloc_new w _, HL.out⟩, (Below.refl _ _).alloc (Nat.le_refl _) _⟩
  · have h2 : ((n : Int) != 32) = true := by rw [bne_iff_ne]; omega
    clear hk
    go_enter Try.func12, Try.ntmps12
    go_wp2
    go_ret2
    exact .inr ⟨hn, rfl, rfl⟩

/-- what Next says and leaves -/
def nxtE (u : Nat) (n : Int) : Int := if n < 0 ∨ 65536 < n then 1 else if 65536 - (u : Int) < n then 11 else 0
def nxtL (key : List UInt8) (u : Nat) (n : Int) : List UInt8 := if nxtE u n = 0 then sbytes key u n.toNat else []
def nxtU (u : Nat) (n : Int) : Nat := if nxtE u n = 0 then u + n.toNat else u
/-- bytes in new memory and an error's number; the flow stands at u'; nothing else that was there has turned -/
def FlowPost (w : World) (ty : TypeId) (p : Nat) (rest : List Value) (key : List UInt8) (u' : Nat) (l : List UInt8) (er : Int) (e : Ending) (w' : World) : Prop :=
  ∃ A n c, e = .returned (.tuple #[.slice A n c, .int .i64 er]) ∧ l.length = n ∧ w'.ownsRow w.heap.size 5 1 (.slice A n c) n (bv l) ∧ FlowAt w' ty p rest key u' ∧ w.grownBy w' (some p)

set_option maxRecDepth 100000 in
set_option maxHeartbeats 1000000 in
theorem Next_any (ty : TypeId) (p : Nat) (rest : List Value) (key : List UInt8) (u : Nat) (n : Int) (w : World) (hf : FlowAt w ty p rest key u) (hu : u ≤ 65536) :
    Calls Try.prog 32 #[.pointer (some ⟨p, 0, none⟩), .int .i64 n] w (FlowPost w ty p rest key (nxtU u n) (nxtL key u n) (nxtE u n)) := by
  have HF := Lib.hid hf
  have hused := hf.used
  have hfree := hf.free 32
  have hlt := hf.lt
  clear hf
  by_cases h1 : n < 0 ∨ 65536 < n
  · have e1 : nxtE u n = 1 := by unfold nxtE; rw [if_pos h1]
    have e2 : nxtL key u n = [] := by unfold nxtL; rw [e1]; rfl
    have e3 : nxtU u n = u := by unfold nxtU; rw [e1]; rfl
    rw [e1, e2, e3]
    have h1' : n < 0 ∨ (¬ n < 0 ∧ 65536 < n) := by omega
    rcases h1' with h | ⟨h, h'⟩
    · go_enter Try.func32, Try.ntmps32
      go_wp2_with fail
      go_ret2
      exact ⟨none, 0, 0, rfl, rfl, World.ownsRow_nil _ _ _ _, HF.out, World.grownBy.refl _ _⟩
    · go_enter Try.func32, Try.ntmps32
      go_wp2_with fail
      go_ret2
      exact ⟨none, 0, 0, rfl, rfl, World.ownsRow_nil _ _ _ _, HF.out, World.grownBy.refl _ _⟩
  by_cases h2 : 65536 - (u : Int) < n
  · have e1 : nxtE u n = 11 := by unfold nxtE; rw [if_neg h1, if_pos h2]
    have e2 : nxtL key u n = [] := by unfold nxtL; rw [e1]; rfl
    have e3 : nxtU u n = u := by unfold nxtU; rw [e1]; rfl
    rw [e1, e2, e3]
    have h3 : ¬ n < 0 := by omega
    have h4 : ¬ 65536 < n := by omega
    clear h1 e1 e2 e3
    go_enter Try.func32, Try.ntmps32
    go_wp2_with fail
    go_ret2
    exact ⟨none, 0, 0, rfl, rfl, World.ownsRow_nil _ _ _ _, HF.out, World.grownBy.refl _ _⟩
  · have e1 : nxtE u n = 0 := by unfold nxtE; rw [if_neg h1, if_neg h2]
    have e2 : nxtL key u n = sbytes key u n.toNat := by unfold nxtL; rw [e1]; rfl
    have e3 : nxtU u n = u + n.toNat := by unfold nxtU; rw [e1]; rfl
    rw [e1, e2, e3]
    have h3 : 0 ≤ n := by omega
    have h4 : n ≤ 65536 := by omega
    obtain ⟨m, rfl⟩ := Int.eq_ofNat_of_zero_le h3
    rw [Int.toNat_natCast]
    clear h1 e1 e2 e3
    go_enter Try.func32, Try.ntmps32
    go_wp2_with fail
    go_region_held3 (fun w' => w'.cell? ⟨p, 32, none⟩ = some (.int .i64 (u : Int))) (go_keep) (first | (go_at_call 46; refine (piece_any _ _ key u m _ (p + 1) (by exact HF.out.rb) (by exact hlt) (by omega)).mono ?_; rintro e w1 ⟨g1, c1, rfl, ho1, hb1⟩; have k0 := (hb1.cell (p := ⟨p, 32, none⟩) hlt).trans hused))
    have hb1' : Below w.heap.size w w1 := Below.trans (Below.refl _ _).drew hb1
    have F1 := Lib.hid (HF.out.below hb1' hlt)
    have f1 := F1.out.free 32
    have k1 := F1.out.used
    have O1 := Lib.hid ho1
    have G1 := Lib.hid (show w.grownBy w1 (some p) from ⟨hb1'.os, hb1'.tape, hb1'.output, hb1'.size, fun k hk _ => hb1'.block k hk⟩)
    clear ho1 hb1 hb1' k0 hused hfree
    go_wp2_with fail
    go_ret2
    have e4 : (u : Int) + (m : Int) = ((u + m : Nat) : Int) := by omega
    rw [e4]
    refine ⟨_, m, c1, rfl, length_sbytes _ _ _, ?_, F1.out.set (u + m), ?_⟩
    · exact O1.out.kept (grown_setCell w1 p 32 _) (.inr (by have := (O1.out.lt g1 rfl).1; simp [Value.ownBlock]; intro h; rw [h] at this; exact absurd hlt (by simpa using this)))
    · exact grown_trans G1.out (grown_setCell w1 p 32 _)
end Go.Proofs.Ytkaakgabhhkggaa
