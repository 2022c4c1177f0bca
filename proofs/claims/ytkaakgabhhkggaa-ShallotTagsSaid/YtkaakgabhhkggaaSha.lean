/-
  The sum's words in plain Lean, rows of words in memory, and contracts of sha.right, sha.Start and sha.Constants. No conditions but that words have 32 bits.
-/
import Derived.Test.YtkaakgabhhkggaaCha
import Derived.Test.YtkaakgabhhkggaaMid
namespace Go.Proofs.Ytkaakgabhhkggaa
open Go Go.RowKit Go.Sh

/-- x turned to the right by k -/
def rr (x : Int) (k : Nat) : Int := rl x (32 - k)
theorem rr_w (x : Int) (k : Nat) : W32 (rr x k) := rl_w _ _
theorem right_bits : ∀ k : Nat, k < 32 → 1 ≤ k → bits .and .u64 (IntKind.u64.wrap (-(k : Int))) 31 = ((32 - k : Nat) : Int) := by decide
set_option maxRecDepth 100000 in
theorem right_any (x : Int) (k : Nat) (hx : W32 x) (h1 : 1 ≤ k) (h2 : k < 32) (w : World) :
    Calls Try.prog 57 #[.int .u32 x, .int .i64 (k : Int)] w (fun e w' => e = .returned (.int .u32 (rr x k)) ∧ w = w') := by
  have hb := right_bits k h2 h1
  go_enter Try.func57, Try.ntmps57
  go_wp2_with fail
  refine (rot_any x (-(k : Int)) _ (32 - k) hx rfl hb (by omega) _).mono ?_
  rintro e w' ⟨rfl, rfl⟩
  go_wp2
  go_ret
  exact ⟨rfl, rfl⟩

/-- block p is a row of words -/
def RowW (w : World) (ty : TypeId) (p : Nat) (s : List Int) : Prop := w.heap[p]? = some (.cells (wv s).toArray ty (0, 0))
section
variable {w w' : World} {ty : TypeId} {p k : Nat} {s : List Int}
theorem RowW.cell (h : RowW w ty p s) (hk : k < s.length) : w.cell? ⟨p, k, none⟩ = some (.int .u32 (it s k)) := by
  rw [blk_cell h, List.getElem?_toArray, wv_at s k hk]
theorem RowW.free (h : RowW w ty p s) (i : Nat) : w.frozen? ⟨p, i, none⟩ = false := frozen_of_row _ _ i _ _ h
theorem RowW.set (h : RowW w ty p s) (i : Nat) (x : Int) : RowW (w.setCell ⟨p, i, none⟩ (.int .u32 x)) ty p (s.set i x) := by
  unfold RowW
  rw [blk_set h, wv_set]
theorem RowW.lt (h : RowW w ty p s) : p < w.heap.size := (Array.getElem?_eq_some_iff.1 h).1
theorem RowW.keep (h : RowW w ty p s) (hk : w'.heap[p]? = w.heap[p]?) : RowW w' ty p s := hk.trans h
theorem RowW.below {B : Nat} (h : RowW w ty p s) (hb : Below B w w') (hp : p < B) : RowW w' ty p s := h.keep (hb.block p hp)
theorem RowW.grown {r : Option Nat} (h : RowW w ty p s) (hg : w.grownBy w' r) (hr : r ≠ some p) : RowW w' ty p s := h.keep (hg.block p h.lt (Ne.symm hr))
theorem RowW.drewN (h : RowW w ty p s) (n : Nat) : RowW (w.drewN n) ty p s := h
theorem RowW.new (w : World) (ty : TypeId) (s : List Int) : RowW (w.alloc (.cells (wv s).toArray ty)) ty w.heap.size s := heap_alloc_new w _
theorem RowW.size (_ : RowW w ty p s) : (wv s).toArray.size = s.length := by rw [List.size_toArray, length_wv]
end
theorem storeW_new (w : World) (ty : TypeId) {r s : List Int} (h : r.length = s.length) : (storeCells ⟨w.heap.size, 0, none⟩ (wv r).toArray.toList).run Try.prog (w.alloc (.cells (wv s).toArray ty)) = .ok () (w.alloc (.cells (wv r).toArray ty)) :=
  run_cells_new w _ _ _ (by rw [List.size_toArray, List.size_toArray, length_wv, length_wv, h]) (wv_one r)
set_option maxRecDepth 100000 in
theorem results_cellW {fn : Func} {t : Tmp} {ty : TypeId} (h : fn.results = #[.cell t ty]) (ts : Array Value) (P : Program) (w : World) (ad : Addr) (v : Value) (h2 : ts.getD t undef = .pointer (some ad)) (h3 : (loadVar ty ad).run P w = .ok v w) :
    (results fn ts).run P w = .ok v w := by
  have h2' : ts[t]?.getD undef = .pointer (some ad) := by simpa using h2
  simp [results, h, h2', asAddr, h3]
set_option maxRecDepth 100000 in
theorem info8 : (Try.prog.info? 36).map (·.size) = some 8 := by kernel_rfl
set_option maxRecDepth 100000 in
theorem info64 : (Try.prog.info? 90).map (·.size) = some 64 := by kernel_rfl
theorem RowW.load8 {w : World} {p : Nat} {s : List Int} (h : RowW w 36 p s) (hs : s.length = 8) : (loadVar 36 ⟨p, 0, none⟩).run Try.prog w = .ok (.agg (wv s).toArray) w :=
  run_loadVar_mid w p 0 _ (wv s) _ (blk_range h) Try.underlying36 rfl (by rw [length_wv, hs]; exact info8)
theorem RowW.load64 {w : World} {p : Nat} {s : List Int} (h : RowW w 90 p s) (hs : s.length = 64) : (loadVar 90 ⟨p, 0, none⟩).run Try.prog w = .ok (.agg (wv s).toArray) w :=
  run_loadVar_mid w p 0 _ (wv s) _ (blk_range h) Try.underlying90 rfl (by rw [length_wv, hs]; exact info64)

def shStart : List Int := [0x6a09e667, 0xbb67ae85, 0x3c6ef372, 0xa54ff53a, 0x510e527f, 0x9b05688c, 0x1f83d9ab, 0x5be0cd19]
def shK : List Int := [
  0x428a2f98, 0x71374491, 0xb5c0fbcf, 0xe9b5dba5, 0x3956c25b, 0x59f111f1, 0x923f82a4, 0xab1c5ed5,
  0xd807aa98, 0x12835b01, 0x243185be, 0x550c7dc3, 0x72be5d74, 0x80deb1fe, 0x9bdc06a7, 0xc19bf174,
  0xe49b69c1, 0xefbe4786, 0x0fc19dc6, 0x240ca1cc, 0x2de92c6f, 0x4a7484aa, 0x5cb0a9dc, 0x76f988da,
  0x983e5152, 0xa831c66d, 0xb00327c8, 0xbf597fc7, 0xc6e00bf3, 0xd5a79147, 0x06ca6351, 0x14292967,
  0x27b70a85, 0x2e1b2138, 0x4d2c6dfc, 0x53380d13, 0x650a7354, 0x766a0abb, 0x81c2c92e, 0x92722c85,
  0xa2bfe8a1, 0xa81a664b, 0xc24b8b70, 0xc76c51a3, 0xd192e819, 0xd6990624, 0xf40e3585, 0x106aa070,
  0x19a4c116, 0x1e376c08, 0x2748774c, 0x34b0bcb5, 0x391c0cb3, 0x4ed8aa4a, 0x5b9cca4f, 0x682e6ff3,
  0x748f82ee, 0x78a5636f, 0x84c87814, 0x8cc70208, 0x90befffa, 0xa4506ceb, 0xbef9a3f7, 0xc67178f2]
theorem length_shK : shK.length = 64 := by decide
def AWb (s : List Int) : Bool := s.all fun x => decide (0 ≤ x) && decide (x ≤ 4294967295)
set_option maxRecDepth 100000 in
theorem AWb_aw {s : List Int} (h : AWb s = true) : AW s := fun x hx => by
  have := List.all_eq_true.1 h x hx
  simpa [W32] using this
theorem AW.shK : AW shK := AWb_aw (by decide)
theorem AW.shStart : AW shStart := AWb_aw (by decide)
/-- noughts -/
def zw (n : Nat) : List Int := List.replicate n 0
theorem length_zw (n : Nat) : (zw n).length = n := by simp [zw]
set_option maxRecDepth 100000 in
theorem zero8 : ∀ w : World, (zeroValue 36).run Try.prog w = .ok (.agg (wv (zw 8)).toArray) w := fun _ => by kernel_rfl
set_option maxRecDepth 100000 in
theorem zero64 : ∀ w : World, (zeroValue 90).run Try.prog w = .ok (.agg (wv (zw 64)).toArray) w := fun _ => by kernel_rfl

set_option maxHeartbeats 4000000 in
set_option maxRecDepth 100000 in
theorem Start_any (w : World) : Calls Try.prog 58 #[] w (fun e w' => e = .returned (.agg (wv shStart).toArray) ∧ Below w.heap.size w w') := by
  have hzero := zero8
  have hst := storeW_new w 36 (r := shStart) (s := zw 8) rfl
  have hbld : (((((((((wv (zw 8)).toArray.setIfInBounds 0 (.int .u32 1779033703)).setIfInBounds 1 (.int .u32 3144134277)).setIfInBounds 2 (.int .u32 1013904242)).setIfInBounds 3 (.int .u32 2773480762)).setIfInBounds 4 (.int .u32 1359893119)).setIfInBounds 5 (.int .u32 2600822924)).setIfInBounds 6 (.int .u32 528734635)).setIfInBounds 7 (.int .u32 1541459225)) = (wv shStart).toArray := by kernel_rfl
  have hzs : (wv (zw 8)).toArray.size = 8 := rfl
  have hxs : (wv shStart).toArray.size = 8 := rfl
  have HR := Lib.hid ((RowW.new w 36 shStart).load8 rfl)
  have HB := Lib.hid ((Below.refl w.heap.size w).alloc (Nat.le_refl _) (.cells (wv shStart).toArray 36))
  generalize hzc : (wv (zw 8)).toArray = zc at *
  generalize hX : (wv shStart).toArray = X at *
  have hze : ¬ zc = #[] := by intro h; rw [h] at hzs; cases hzs
  have hxe : ¬ X = #[] := by intro h; rw [h] at hxs; cases hxs
  clear hzc hX
  go_enter Try.func58, Try.ntmps58
  go_wp2_with fail
  (try simp only [Exit.inBlock, Exit.then])
  refine bodyPost_ret (v := .agg X) (results_cellW rfl _ _ _ ⟨w.heap.size, 0, none⟩ _ rfl HR.out) rfl ?_
  exact ⟨rfl, HB.out⟩
set_option maxHeartbeats 4000000 in
set_option maxRecDepth 100000 in
theorem Constants_any (w : World) : Calls Try.prog 56 #[] w (fun e w' => e = .returned (.agg (wv shK).toArray) ∧ Below w.heap.size w w') := by
  have hzero := zero64
  have hst := storeW_new w 90 (r := shK) (s := zw 64) rfl
  have hbld : (((((((((((((((((((((((((((((((((((((((((((((((((((((((((((((((((wv (zw 64)).toArray.setIfInBounds 0 (.int .u32 1116352408)).setIfInBounds 1 (.int .u32 1899447441)).setIfInBounds 2 (.int .u32 3049323471)).setIfInBounds 3 (.int .u32 3921009573)).setIfInBounds 4 (.int .u32 961987163)).setIfInBounds 5 (.int .u32 1508970993)).setIfInBounds 6 (.int .u32 2453635748)).setIfInBounds 7 (.int .u32 2870763221)).setIfInBounds 8 (.int .u32 3624381080)).setIfInBounds 9 (.int .u32 310598401)).setIfInBounds 10 (.int .u32 607225278)).setIfInBounds 11 (.int .u32 1426881987)).setIfInBounds 12 (.int .u32 1925078388)).setIfInBounds 13 (.int .u32 2162078206)).setIfInBounds 14 (.int .u32 2614888103)).setIfInBounds 15 (.int .u32 3248222580)).setIfInBounds 16 (.int .u32 3835390401)).setIfInBounds 17 (.int .u32 4022224774)).setIfInBounds 18 (.int .u32 264347078)).setIfInBounds 19 (.int .u32 604807628)).setIfInBounds 20 (.int .u32 770255983)).setIfInBounds 21 (.int .u32 1249150122)).setIfInBounds 22 (.int .u32 1555081692)).setIfInBounds 23 (.int .u32 1996064986)).setIfInBounds 24 (.int .u32 2554220882)).setIfInBounds 25 (.int .u32 2821834349)).setIfInBounds 26 (.int .u32 2952996808)).setIfInBounds 27 (.int .u32 3210313671)).setIfInBounds 28 (.int .u32 3336571891)).setIfInBounds 29 (.int .u32 3584528711)).setIfInBounds 30 (.int .u32 113926993)).setIfInBounds 31 (.int .u32 338241895)).setIfInBounds 32 (.int .u32 666307205)).setIfInBounds 33 (.int .u32 773529912)).setIfInBounds 34 (.int .u32 1294757372)).setIfInBounds 35 (.int .u32 1396182291)).setIfInBounds 36 (.int .u32 1695183700)).setIfInBounds 37 (.int .u32 1986661051)).setIfInBounds 38 (.int .u32 2177026350)).setIfInBounds 39 (.int .u32 2456956037)).setIfInBounds 40 (.int .u32 2730485921)).setIfInBounds 41 (.int .u32 2820302411)).setIfInBounds 42 (.int .u32 3259730800)).setIfInBounds 43 (.int .u32 3345764771)).setIfInBounds 44 (.int .u32 3516065817)).setIfInBounds 45 (.int .u32 3600352804)).setIfInBounds 46 (.int .u32 4094571909)).setIfInBounds 47 (.int .u32 275423344)).setIfInBounds 48 (.int .u32 430227734)).setIfInBounds 49 (.int .u32 506948616)).setIfInBounds 50 (.int .u32 659060556)).setIfInBounds 51 (.int .u32 883997877)).setIfInBounds 52 (.int .u32 958139571)).setIfInBounds 53 (.int .u32 1322822218)).setIfInBounds 54 (.int .u32 1537002063)).setIfInBounds 55 (.int .u32 1747873779)).setIfInBounds 56 (.int .u32 1955562222)).setIfInBounds 57 (.int .u32 2024104815)).setIfInBounds 58 (.int .u32 2227730452)).setIfInBounds 59 (.int .u32 2361852424)).setIfInBounds 60 (.int .u32 2428436474)).setIfInBounds 61 (.int .u32 2756734187)).setIfInBounds 62 (.int .u32 3204031479)).setIfInBounds 63 (.int .u32 3329325298)) = (wv shK).toArray := by kernel_rfl
  have hzs : (wv (zw 64)).toArray.size = 64 := rfl
  have hxs : (wv shK).toArray.size = 64 := rfl
  have HR := Lib.hid ((RowW.new w 90 shK).load64 rfl)
  have HB := Lib.hid ((Below.refl w.heap.size w).alloc (Nat.le_refl _) (.cells (wv shK).toArray 90))
  generalize hzc : (wv (zw 64)).toArray = zc at *
  generalize hX : (wv shK).toArray = X at *
  have hze : ¬ zc = #[] := by intro h; rw [h] at hzs; cases hzs
  have hxe : ¬ X = #[] := by intro h; rw [h] at hxs; cases hxs
  clear hzc hX
  go_enter Try.func56, Try.ntmps56
  go_wp2_with fail
  (try simp only [Exit.inBlock, Exit.then])
  refine bodyPost_ret (v := .agg X) (results_cellW rfl _ _ _ ⟨w.heap.size, 0, none⟩ _ rfl HR.out) rfl ?_
  exact ⟨rfl, HB.out⟩
end Go.Proofs.Ytkaakgabhhkggaa
