/-
  The walk of shallotlaw18.CodeLines: it returns true. Conditions: the sizes that slices can have, numbers that fit, and the table that strconv.Itoa reads.
-/
import Derived.Test.YtkmcjjoicpgjfaaDoorCodeAwk
import Derived.Test.YtkmcjjoicpgjfaaDoorVerTwin
namespace Go.Proofs.YtkmcjjoicpgjfaaDoor
open Go Go.RowKit Go.Sh

set_option maxHeartbeats 4000000 in
set_option maxRecDepth 100000 in
theorem CodeLines_walk (A : Option Addr) (n c : Nat) (l : List Ins) (w : World) (hr : RR w w.heap.size 3 A n (l.map Ins.cells)) (hok : ∀ i ∈ l, i.OK) (hn : n * 24 ≤ 140737488351232) (ht : TabOK w.heap.size w) :
    Calls Tryd.prog 3 #[.slice A n c] w (fun e w' => e = .returned (.bool true) ∧ Below w.heap.size w w') := by
  have HR := Lib.hid hr
  have HOK := Lib.hid hok
  have HT := Lib.hid ht
  have HL := Lib.hid (show l.length = n by have := hr.len; rw [List.length_map] at this; exact this)
  have HAW := Lib.hid (fun W h => awake18_any W h)
  have HLN := Lib.hid (fun (A4 : Option Addr) (c4 : Nat) (W : World) (h : RR W W.heap.size 3 A4 n (l.map Ins.cells)) (ht : TabOK W.heap.size W) =>
    (show Calls Tryd.prog 8 #[.agg #[.slice A4 n c4, .slice none 0 0, .slice none 0 0, .slice none 0 0, .int .i64 0, .int .i64 0, .int .i64 0, .int .i64 0]] W (fun e w' => ∃ A c, e = .returned (.slice A n c) ∧ w'.ownsRow W.heap.size 9 1 (.slice A n c) n (l.map lnV) ∧ Below W.heap.size W w')
      from Lines_any ⟨A4, n, c4, none, 0, 0, none, 0, 0, none, 0, 0⟩ ⟨l, [], [], [], 0, 0, 0, 0⟩ W W.heap.size h (Nat.le_refl _) hok (show n * 16 ≤ 140737488355328 by omega) ht))
  clear hr hok ht
  go_enter Tryd.func3, Tryd.ntmps3
  go_wp2_with fail
  refine (HAW.out w HT.out).mono ?_
  rintro e w1 ⟨rfl, hb1⟩
  have HB1 := Lib.hid hb1
  have hs1 := hb1.size
  have HR1 := Lib.hid (HR.out.below hb1)
  have hbE := (Below.refl w1.heap.size w1).alloc (Nat.le_refl _) (.cells #[] 33)
  have HON := Lib.hid (show (w1.alloc (.cells #[] 33)).ownsRow w1.heap.size 33 3 (.slice (some ⟨w1.heap.size, 0, none⟩) 0 0) 0 [] from World.ownsRow_lit w1 #[] 0 (Nat.le_refl _) (by simp) rfl)
  have HCE := Lib.hid (RR.reads (HR1.out.below (hbE.mono (by omega))) (by decide))
  have hzE : (w1.alloc (.cells #[] 33)).heap.size = w1.heap.size + 1 := by simp
  have HBE := Lib.hid (HB1.out.trans (hbE.mono (by omega)))
  have hbN : w.heap.size ≤ (w1.alloc (.cells #[] 33)).heap.size := by omega
  clear hb1 hbE HAW
  go_wp2_with (at_builtin; refine wl_app TIn (by rfl) (.tmp 7) (.tmp 8) (by rfl) (.slice (some ⟨w1.heap.size, 0, none⟩) 0 0) (by rfl) A n c (by rfl) w1.heap.size 0 [] HON.out w.heap.size _ HCE.out (ins_one _) ?c3 ?c4 ?c5 ?c6)
  case c3 => omega
  case c4 => omega
  case c5 => omega
  case c6 =>
    intro A4 c4 w4 hown hg _
    have HB4 := Lib.hid (HBE.out.grown hg hbN (fun k hk => Nat.le_trans hs1 (own_drop HON.out k hk)))
    have HN4 := Lib.hid (RR.of_own hown (by rw [List.length_map]; exact HL.out) (fun cs hcs => by obtain ⟨i, _, rfl⟩ := List.mem_map.1 hcs; rfl))
    have hs4 := HB4.out.size
    have HT4 := Lib.hid ((HT.out.on HB4.out (Nat.le_refl _)).more hs4)
    clear hown hg HON HCE HBE
    go_wp2_with fail
    refine (HLN.out A4 c4 w4 HN4.out HT4.out).mono ?_
    rintro e w5 ⟨A5, c5, rfl, ho5, hb5⟩
    have HB5 := Lib.hid (HB4.out.trans (hb5.mono hs4))
    have HO5 := Lib.hid ho5
    have hs5 := HB5.out.size
    have hnn : ((n : Int) != (n : Int)) = false := by simp
    clear ho5 hb5 HN4 HT4 HLN HB4
    go_wp2_with fail
    go_loopw [4, 19] (fun _ i wr => ∃ k : Nat, k ≤ n ∧ i = .int .i64 (k : Int) ∧ Below w5.heap.size w5 wr) (fun _ i _ => n - (intOf i).toNat)
    case atStart => exact ⟨0, by omega, rfl, Below.refl _ _⟩
    case round =>
      obtain ⟨k, hk, rfl, hb⟩ := hrel
      have HBr := Lib.hid hb
      have hzr := hb.size
      clear hb
      by_cases hlt : k < n
      · have dk : (k : Int) < (n : Int) := by omega
        obtain ⟨g5, hA5, hg5a, hg5b⟩ := own_at18 HO5.out (by omega)
        subst hA5
        obtain ⟨b, off, hA1, hbB, c0, c1, c2⟩ := ins_at (HR.out.below (HB5.out.trans (HBr.out.mono hs5))) hlt
        subst hA1
        have hst : wr.cell? ⟨g5, k, none⟩ = some (lnV (iat l k)) := by
          rw [HBr.out.cell (p := ⟨g5, k, none⟩) hg5b, HO5.out.cellAt k (by omega), List.getElem?_map, iat_eq (by have := HL.out; omega)]
          rfl
        have HLA := Lib.hid (fun W => Line_any (iat l k) (HOK.out _ (iat_mem (by have := HL.out; omega))) W)
        have hlv : lnV (iat l k) = .string ⟨(lnS (iat l k)).toArray⟩ := rfl
        rw [hlv] at hst
        clear hlv
        generalize (⟨(lnS (iat l k)).toArray⟩ : ByteArray) = LN at *
        generalize iat l k = st at *
        obtain ⟨op, a, bb⟩ := st
        simp only at c0 c1 c2 HLA
        have hg5r : g5 < wr.heap.size := by omega
        have hbr : b < wr.heap.size := by omega
        go_wp2_with fail
        go_region_held3 (fun w' => w'.cell? ⟨g5, k, none⟩ = some (.string LN) ∧ w'.cell? ⟨b, off + k * 3, none⟩ = some (.int .u8 (op.toNat : Int)) ∧ w'.cell? ⟨b, off + k * 3 + 1, none⟩ = some (.int .i64 a) ∧ w'.cell? ⟨b, off + k * 3 + 2, none⟩ = some (.int .i64 bb)) (go_keep) (first
          | (go_at_call 9; refine (HLA.out _).mono ?_; rintro e wq ⟨rfl, hbq⟩; have HBQ := Lib.hid (Below.trans ((Below.refl wr.heap.size wr).drew) hbq); have q0 := (HBQ.out.cell (p := ⟨g5, k, none⟩) (by show g5 < _; omega)).trans hst; have q1 := (HBQ.out.cell (p := ⟨b, off + k * 3, none⟩) (by show b < _; omega)).trans c0; have q2 := (HBQ.out.cell (p := ⟨b, off + k * 3 + 1, none⟩) (by show b < _; omega)).trans c1; have q3 := (HBQ.out.cell (p := ⟨b, off + k * 3 + 2, none⟩) (by show b < _; omega)).trans c2; clear hbq))
        have HBQ2 := Lib.hid (HBr.out.trans (HBQ.out.mono hzr))
        clear q0 q1 q2 q3 hst c0 c1 c2 HBQ
        go_wp2_with fail
        exact ⟨⟨k + 1, by omega, by go_num, HBQ2.out⟩, by simp [intOf]; omega⟩
      · obtain rfl : k = n := by omega
        have HBF := Lib.hid (HB5.out.trans (HBr.out.mono hs5))
        clear HBr
        go_wp2_with fail
        go_ret
        exact ⟨rfl, HBF.out⟩
end Go.Proofs.YtkmcjjoicpgjfaaDoor
