/-
  The walk of shallotlaw01.CodecGets: for every list of bytes and every list of looks the law returns true and writes nothing that was there. Conditions: the sizes that slices can have; each look's numbers fit an int.
-/
import Derived.Test.YtbmcbalofoledaaGet
import Derived.Test.YtbmcbalofoledaaOpen
import Derived.Deep.RegionHeld3
namespace Go.Proofs.Ytbmcbalofoledaa
open Go Go.RowKit Go.Sh

/-- a look: order, place, width -/
structure Look3 where
  o : Int
  a : Int
  d : Int
def Look3.ok (x : Look3) : Prop := (-9223372036854775808 ≤ x.o ∧ x.o ≤ 9223372036854775807) ∧ (-9223372036854775808 ≤ x.a ∧ x.a ≤ 9223372036854775807) ∧ (-9223372036854775808 ≤ x.d ∧ x.d ≤ 9223372036854775807)

def RLooks (w : World) (B : Nat) (A : Option Addr) (m : Nat) (f : Nat → Look3) : Prop :=
  0 < m → ∃ b off, A = some ⟨b, off, none⟩ ∧ b < B ∧ ∀ i, i < m → (f i).ok ∧ w.cell? ⟨b, off + i * 3, none⟩ = some (.int .i64 (f i).o) ∧ w.cell? ⟨b, off + i * 3 + 1, none⟩ = some (.int .i64 (f i).a) ∧ w.cell? ⟨b, off + i * 3 + 2, none⟩ = some (.int .i64 (f i).d)

set_option maxRecDepth 100000 in
/-- the looks among the arguments -/
theorem openLooks {H : Type} {enc : TypeId × Value → H} {W : World} {b0 : Nat} {r : Reach} {v : Value} {d : DataW H} {p : List MemPlace} (hok : Value.okWide Try.prog W r b0 39 v) (h : DataW.Trod enc Try.prog W 0 (fun _ => true) true 39 v d p) :
    ∃ A n c f, v = .slice A n c ∧ RLooks W W.heap.size A n f ∧ HasLen d n := by
  obtain ⟨A, n, c, rfl, _, hl, hx⟩ := openStructs Try.underlying39 Try.underlying44 (by kernel_rfl) (by kernel_rfl) (by simp) hok h
  rcases Nat.eq_zero_or_pos n with h0 | h0
  · subst h0
    exact ⟨A, 0, c, fun _ => ⟨0, 0, 0⟩, rfl, fun h => absurd h (by omega), hl⟩
  · obtain ⟨b, off, rfl, hb, hi⟩ := hx h0
    have key : ∀ i, i < n → ∃ x : Look3, x.ok ∧ W.cell? ⟨b, off + i * 3, none⟩ = some (.int .i64 x.o) ∧ W.cell? ⟨b, off + i * 3 + 1, none⟩ = some (.int .i64 x.a) ∧ W.cell? ⟨b, off + i * 3 + 2, none⟩ = some (.int .i64 x.d) := by
      intro i hin
      obtain ⟨fuel, hf⟩ := hi i hin
      obtain ⟨x0, y0, c0, t0⟩ := hf 0 _ rfl
      obtain ⟨x1, y1, c1, t1⟩ := hf 1 _ rfl
      obtain ⟨x2, y2, c2, t2⟩ := hf 2 _ rfl
      obtain ⟨z0, e0, _, w0⟩ := DataW.trod_int Try.underlying3 t0
      obtain ⟨z1, e1, _, w1⟩ := DataW.trod_int Try.underlying3 t1
      obtain ⟨z2, e2, _, w2⟩ := DataW.trod_int Try.underlying3 t2
      simp only [List.cons.injEq, and_true] at e0 e1 e2
      subst e0 e1 e2
      exact ⟨⟨z0, z1, z2⟩, ⟨bounds_i64 w0, bounds_i64 w1, bounds_i64 w2⟩, c0, c1, c2⟩
    have : Inhabited Look3 := ⟨⟨0, 0, 0⟩⟩
    obtain ⟨f, hf⟩ := Go.Deep.choose_lt key
    exact ⟨_, n, c, f, rfl, fun _ => ⟨b, off, rfl, hb, hf⟩, hl⟩

theorem CodecGets_walk (A : Option Addr) (n c : Nat) (l : List UInt8) (A' : Option Addr) (m c' : Nat) (f : Nat → Look3) (w : World) (hl : RB w w.heap.size A n l) (hn : n ≤ 140737488355328) (hf : RLooks w w.heap.size A' m f) (hm : m ≤ 140737488355328) :
    Calls Try.prog 6 #[.slice A n c, .slice A' m c'] w (LawPost w) := by
  have HL := Lib.hid hl
  have HF := Lib.hid hf
  clear hl hf
  go_enter Try.func6, Try.ntmps6
  go_wp2_with fail
  refine (Get_any 1 _ _ _ [9, 2, 1] 1 2 _ (w.heap.size + 1) (RB.lit w _ [9, 2, 1] _ rfl _ rfl) (by simp) (by omega)).mono ?_
  rintro e w1 ⟨rfl, rfl⟩
  rw [show getV 1 [9, 2, 1] ([9, 2, 1] : List UInt8).length 1 2 = 258 by decide, show getE 1 ([9, 2, 1] : List UInt8).length 1 2 = 0 by decide]
  obtain ⟨wa, hwa⟩ : ∃ wa, wa = w.alloc (.cells (bv [9, 2, 1]).toArray 5) := ⟨_, rfl⟩
  rw [← hwa]
  have HB := Lib.hid (show Below w.heap.size w wa by rw [hwa]; exact (Below.refl _ _).alloc (Nat.le_refl _) _)
  clear hwa
  go_wp2_with fail
  go_loopw [8, 9, 10, 11, 12, 26] (fun _ _ _ _ _ i wr => ∃ k : Nat, k ≤ m ∧ i = .int .i64 k ∧ Below w.heap.size w wr) (fun _ _ _ _ _ i _ => m - (intOf i).toNat)
  case atStart => exact ⟨0, by omega, rfl, HB.out⟩
  case round =>
    obtain ⟨k, hk, rfl, hb⟩ := hrel
    have HW := Lib.hid hb
    clear hb
    by_cases hlt : k < m
    · obtain ⟨b, off, rfl, hadb, hc⟩ := HF.out (by omega)
      obtain ⟨⟨⟨o1, o2⟩, ⟨a1, a2⟩, ⟨d1, d2⟩⟩, c0, c1, c2⟩ := hc k hlt
      clear hc
      rw [← HW.out.cell hadb] at c0 c1 c2
      generalize (f k).o = o at *
      generalize (f k).a = a at *
      generalize (f k).d = d at *
      go_wp2_with fail
      have hs := HW.out.size
      have hbw : Below w.heap.size w (wr.alloc (.cells #[.int .i64 o, .int .i64 a, .int .i64 d] 44)) := HW.out.alloc HW.out.size _
      go_region_held3 (fun w' => w'.cell? ⟨wr.heap.size, 0, none⟩ = some (.int .i64 o) ∧ w'.cell? ⟨wr.heap.size, 1, none⟩ = some (.int .i64 a) ∧ w'.cell? ⟨wr.heap.size, 2, none⟩ = some (.int .i64 d)) (go_keep) (first | (go_at_call 16; refine (Copy_any _ _ _ l _ w.heap.size (by exact ((HL.out.below HW.out).alloc hs _)) (by simp; omega) hn).mono ?_; rintro e w3 ⟨g3, c3, rfl, hown3, hb3⟩; have k0 := hb3.cell (p := ⟨wr.heap.size, 0, none⟩) (by simp); have k1 := hb3.cell (p := ⟨wr.heap.size, 1, none⟩) (by simp); have k2 := hb3.cell (p := ⟨wr.heap.size, 2, none⟩) (by simp); have HO3 := Lib.hid hown3; have HB3 := Lib.hid hb3; clear hown3 hb3) | (go_at_call 25; refine (Get_any _ _ _ _ l _ _ _ _ (RB.of_own HO3.out) hn ⟨a1, a2⟩).mono ?_; rintro e w4 ⟨rfl, rfl⟩))
      have HB3' := Lib.hid (show Below w.heap.size w w3 from hbw.drew.trans (HB3.out.mono (by simp; omega)))
      go_wp2_with fail
      refine (RefGet_any _ _ _ _ l _ _ _ _ (HL.out.below HB3'.out) hn ⟨a1, a2⟩).mono ?_
      rintro e w4 ⟨rfl, rfl⟩
      generalize getV o l n a d = gv
      generalize getE o n a d = ge
      have t1 : ((gv : Int) != (gv : Int)) = false := by simp
      have t2 : (ge != ge) = false := by simp
      clear k0 k1 k2 c0 c1 c2
      go_wp2
      exact ⟨⟨k + 1, by omega, by go_num, HB3'.out⟩, by simp [intOf]; omega⟩
    · go_wp2
      go_ret
      exact ⟨rfl, HW.out⟩
end Go.Proofs.Ytbmcbalofoledaa
