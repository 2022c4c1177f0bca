/-
  Contracts of shallotref02.right, First and Table. No conditions but that words have 32 bits.
-/
import Derived.Test.YtkaakgabhhkggaaSha
namespace Go.Proofs.Ytkaakgabhhkggaa
open Go Go.RowKit Go.Sh

theorem bits_or_comm (k : IntKind) (x y : Int) : bits .or k x y = bits .or k y x := by
  cases k <;> simp [bits, BitVec.or_comm]
theorem rr_eq (x : Int) (k : Nat) (h1 : 1 ≤ k) (h2 : k < 32) : bits .or .u32 (x / 2 ^ k) (x * 2 ^ (32 - k) % 4294967296) = rr x k := by
  rw [bits_or_comm]
  unfold rr rl
  rw [show 32 - (32 - k) = k by omega]

set_option maxRecDepth 100000 in
theorem RefRight_any (x : Int) (k : Nat) (hx : W32 x) (h1 : 1 ≤ k) (h2 : k < 32) (w : World) :
    Calls Try.prog 71 #[.int .u32 x, .int .i64 (k : Int)] w (fun e w' => e = .returned (.int .u32 (rr x k)) ∧ ∃ m, w' = w.drewN m) := by
  obtain ⟨x1, x2⟩ := hx
  have HE := Lib.hid (rr_eq x k h1 h2)
  have u1 : IntKind.i64.wrap (32 - (k : Int)) = ((32 - k : Nat) : Int) := by rw [IntKind.wrap_i64]; omega
  go_enter Try.func71, Try.ntmps71
  go_wp2
  go_quiet (fail)
  go_wp2
  go_ret
  exact ⟨by rw [← HE.out]; rfl, nq, rfl⟩
set_option maxHeartbeats 4000000 in
set_option maxRecDepth 100000 in
theorem RefFirst_any (w : World) : Calls Try.prog 62 #[] w (fun e w' => e = .returned (.agg (wv shStart).toArray) ∧ Below w.heap.size w w') := by
  have hzero := zero8
  have hst := storeW_new w 36 (r := shStart) (s := zw 8) rfl
  have hbld : (((((((((wv (zw 8)).toArray.setIfInBounds 0 (.int .u32 1779033703)).setIfInBounds 1 (.int .u32 3144134277)).setIfInBounds 2 (.int .u32 1013904242)).setIfInBounds 3 (.int .u32 2773480762)).setIfInBounds 4 (.int .u32 1359893119)).setIfInBounds 5 (.int .u32 2600822924)).setIfInBounds 6 (.int .u32 528734635)).setIfInBounds 7 (.int .u32 1541459225)) = (wv shStart).toArray := by kernel_rfl
  have hzs : (wv (zw 8)).toArray.size = 8 := rfl
  have hxs : (wv shStart).toArray.size = 8 := rfl
  have HR := Lib.hid ((RowW.new w 36 shStart).load8 rfl)
  have HB := Lib.hid ((Below.refl w.heap.size w).alloc (Nat.le_refl _) (.cells (wv shStart).toArray 36))
  generalize hzc : (wv (zw 8)).toArray = zc at *
  generalize hX : (wv shStart).toArray = X at *
  have hze : ¬ zc = #[] := by intro h; rw [h] at hzs; cases hzs
  have hxe : ¬ X = #[] := by intro h; rw [h] at hxs; cases hxs
  clear hzc hX
  go_enter Try.func62, Try.ntmps62
  go_wp2_with fail
  (try simp only [Exit.inBlock, Exit.then])
  refine bodyPost_ret (v := .agg X) (results_cellW rfl _ _ _ ⟨w.heap.size, 0, none⟩ _ rfl HR.out) rfl ?_
  exact ⟨rfl, HB.out⟩
set_option maxHeartbeats 4000000 in
set_option maxRecDepth 100000 in
theorem RefTable_any (w : World) : Calls Try.prog 70 #[] w (fun e w' => e = .returned (.agg (wv shK).toArray) ∧ Below w.heap.size w w') := by
  have hzero := zero64
  have hst := storeW_new w 90 (r := shK) (s := zw 64) rfl
  have hbld : (((((((((((((((((((((((((((((((((((((((((((((((((((((((((((((((((wv (zw 64)).toArray.setIfInBounds 0 (.int .u32 1116352408)).setIfInBounds 1 (.int .u32 1899447441)).setIfInBounds 2 (.int .u32 3049323471)).setIfInBounds 3 (.int .u32 3921009573)).setIfInBounds 4 (.int .u32 961987163)).setIfInBounds 5 (.int .u32 1508970993)).setIfInBounds 6 (.int .u32 2453635748)).setIfInBounds 7 (.int .u32 2870763221)).setIfInBounds 8 (.int .u32 3624381080)).setIfInBounds 9 (.int .u32 310598401)).setIfInBounds 10 (.int .u32 607225278)).setIfInBounds 11 (.int .u32 1426881987)).setIfInBounds 12 (.int .u32 1925078388)).setIfInBounds 13 (.int .u32 2162078206)).setIfInBounds 14 (.int .u32 2614888103)).setIfInBounds 15 (.int .u32 3248222580)).setIfInBounds 16 (.int .u32 3835390401)).setIfInBounds 17 (.int .u32 4022224774)).setIfInBounds 18 (.int .u32 264347078)).setIfInBounds 19 (.int .u32 604807628)).setIfInBounds 20 (.int .u32 770255983)).setIfInBounds 21 (.int .u32 1249150122)).setIfInBounds 22 (.int .u32 1555081692)).setIfInBounds 23 (.int .u32 1996064986)).setIfInBounds 24 (.int .u32 2554220882)).setIfInBounds 25 (.int .u32 2821834349)).setIfInBounds 26 (.int .u32 2952996808)).setIfInBounds 27 (.int .u32 3210313671)).setIfInBounds 28 (.int .u32 3336571891)).setIfInBounds 29 (.int .u32 3584528711)).setIfInBounds 30 (.int .u32 113926993)).setIfInBounds 31 (.int .u32 338241895)).setIfInBounds 32 (.int .u32 666307205)).setIfInBounds 33 (.int .u32 773529912)).setIfInBounds 34 (.int .u32 1294757372)).setIfInBounds 35 (.int .u32 1396182291)).setIfInBounds 36 (.int .u32 1695183700)).setIfInBounds 37 (.int .u32 1986661051)).setIfInBounds 38 (.int .u32 2177026350)).setIfInBounds 39 (.int .u32 2456956037)).setIfInBounds 40 (.int .u32 2730485921)).setIfInBounds 41 (.int .u32 2820302411)).setIfInBounds 42 (.int .u32 3259730800)).setIfInBounds 43 (.int .u32 3345764771)).setIfInBounds 44 (.int .u32 3516065817)).setIfInBounds 45 (.int .u32 3600352804)).setIfInBounds 46 (.int .u32 4094571909)).setIfInBounds 47 (.int .u32 275423344)).setIfInBounds 48 (.int .u32 430227734)).setIfInBounds 49 (.int .u32 506948616)).setIfInBounds 50 (.int .u32 659060556)).setIfInBounds 51 (.int .u32 883997877)).setIfInBounds 52 (.int .u32 958139571)).setIfInBounds 53 (.int .u32 1322822218)).setIfInBounds 54 (.int .u32 1537002063)).setIfInBounds 55 (.int .u32 1747873779)).setIfInBounds 56 (.int .u32 1955562222)).setIfInBounds 57 (.int .u32 2024104815)).setIfInBounds 58 (.int .u32 2227730452)).setIfInBounds 59 (.int .u32 2361852424)).setIfInBounds 60 (.int .u32 2428436474)).setIfInBounds 61 (.int .u32 2756734187)).setIfInBounds 62 (.int .u32 3204031479)).setIfInBounds 63 (.int .u32 3329325298)) = (wv shK).toArray := by kernel_rfl
  have hzs : (wv (zw 64)).toArray.size = 64 := rfl
  have hxs : (wv shK).toArray.size = 64 := rfl
  have HR := Lib.hid ((RowW.new w 90 shK).load64 rfl)
  have HB := Lib.hid ((Below.refl w.heap.size w).alloc (Nat.le_refl _) (.cells (wv shK).toArray 90))
  generalize hzc : (wv (zw 64)).toArray = zc at *
  generalize hX : (wv shK).toArray = X at *
  have hze : ¬ zc = #[] := by intro h; rw [h] at hzs; cases hzs
  have hxe : ¬ X = #[] := by intro h; rw [h] at hxs; cases hxs
  clear hzc hX
  go_enter Try.func70, Try.ntmps70
  go_wp2_with fail
  (try simp only [Exit.inBlock, Exit.then])
  refine bodyPost_ret (v := .agg X) (results_cellW rfl _ _ _ ⟨w.heap.size, 0, none⟩ _ rfl HR.out) rfl ?_
  exact ⟨rfl, HB.out⟩
end Go.Proofs.Ytkaakgabhhkggaa
