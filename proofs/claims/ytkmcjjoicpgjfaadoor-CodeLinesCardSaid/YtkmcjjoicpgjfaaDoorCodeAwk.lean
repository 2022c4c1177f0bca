/-
  Contract of shallotlaw18.awake: true. Conditions: the table that strconv.Itoa reads.
-/
import Derived.Test.YtkmcjjoicpgjfaaDoorCodeEnc
import Derived.Test.YtkmcjjoicpgjfaaDoorCodeLines
import Derived.Test.YtkmcjjoicpgjfaaDoorVerOwn
namespace Go.Proofs.YtkmcjjoicpgjfaaDoor
open Go Go.RowKit Go.Sh

theorem TabOK.more {B B' : Nat} {w : World} (h : TabOK B w) (hB : B ≤ B') : TabOK B' w := fun w' hb => h w' (hb.mono hB)
theorem own_at18 {w : World} {base e size n c : Nat} {A : Option Addr} {xs : List Value} (h : w.ownsRow base e size (.slice A n c) n xs) (hn : 0 < n) : ∃ g, A = some ⟨g, 0, none⟩ ∧ base ≤ g ∧ g < w.heap.size := by
  rcases h.2 with ⟨_, h0⟩ | ⟨g, cap, cur, hv, hb, hh, _⟩
  · omega
  · injection hv with hv
    exact ⟨g, hv, hb, (Array.getElem?_eq_some_iff.1 hh).1⟩
/-- the fixed program of one push -/
def p18 : Prg := ⟨[⟨1, -1, 0⟩], [], [], [], 0, 1, 0, 0⟩
theorem p18_ck : ckP p18 = 0 := by unfold ckP; decide
def b18 : List UInt8 := [115, 104, 108, 49, 0, 1, 0, 0, 0, 0, 0, 0, 0, 0, 0, 1, 0, 0, 0, 0, 0, 0, 1, 255, 255, 255, 255, 0, 0]
theorem p18_enc : encP p18 = b18 := by decide +kernel
theorem p18_line : p18.code.map lnV = [.string ⟨#[112, 117, 115, 104, 32, 45, 49]⟩] := by
  show [lnV ⟨1, -1, 0⟩] = _
  unfold lnV lnS
  have h1 : Lib.itoa (-1) = [45, 49] := by
    unfold Lib.itoa
    rw [if_pos (by decide), show Int.natAbs (-1) = 1 from rfl, Lib.decDigits_one (by decide)]
    rfl
  simp only
  rw [h1]
  rfl
/-- where it lies -/
def d18 (g : Nat) : Pad := ⟨some ⟨g, 0, none⟩, 1, 1, none, 0, 0, none, 0, 0, none, 0, 0⟩
theorem p18_at {W : World} {g B : Nat} {ty : TypeId} {fr : Nat × Nat} (h : W.heap[g]? = some (.cells #[.int .u8 1, .int .i64 (-1), .int .i64 0] ty fr)) (hB : g < B) : PR W B (d18 g) p18 := by
  have hz : RR W B 3 none 0 ([] : List (List Value)) := ⟨rfl, (fun _ h => by cases h), .inl rfl⟩
  have hc : ∀ k v, (#[.int .u8 1, .int .i64 (-1), .int .i64 0] : Array Value)[k]? = some v → W.cell? ⟨g, k, none⟩ = some v := fun k v hv => by rw [blk_cell h]; exact hv
  refine ⟨⟨rfl, fun cs hcs => ?_, .inr ⟨g, 0, rfl, hB, fun i cs hi j v hv => ?_⟩⟩, ⟨rfl, [], ⟨rfl, .inl rfl⟩, fun i hi => absurd hi (Nat.not_lt_zero _)⟩, ⟨rfl, [], ⟨rfl, .inl rfl⟩, fun i hi => absurd hi (Nat.not_lt_zero _)⟩, ⟨rfl, [], hz, fun i hi => absurd hi (Nat.not_lt_zero _)⟩, Nat.le_refl _, Nat.le_refl _, Nat.le_refl _, Nat.le_refl _, show 1 ≤ 140737488355328 by decide, Nat.zero_le _, Nat.zero_le _, Nat.zero_le _⟩
  · obtain ⟨x, _, rfl⟩ := List.mem_map.1 hcs
    rfl
  · refine hc _ _ ?_
    match i, j with
    | 0, 0 | 0, 1 | 0, 2 => obtain rfl := Option.some.inj hi; exact hv
    | 0, j + 3 => obtain rfl := Option.some.inj hi; simp [Ins.cells] at hv
    | i + 1, _ => simp [p18] at hi
set_option maxHeartbeats 4000000 in
set_option maxRecDepth 100000 in
theorem awake18_any (w : World) (ht : TabOK w.heap.size w) : Calls Tryd.prog 7 #[] w (fun e w' => e = .returned (.bool true) ∧ Below w.heap.size w w') := by
  have HE := Lib.hid (fun W g (h : W.heap[g]? = some (.cells #[.int .u8 1, .int .i64 (-1), .int .i64 0] 33 (0, 0))) (hg : g < W.heap.size) => Encode_any (d18 g) p18 W W.heap.size (p18_at h hg) (Nat.le_refl _))
  have HLN := Lib.hid (fun W g (h : W.heap[g]? = some (.cells #[.int .u8 1, .int .i64 (-1), .int .i64 0] 33 (0, 0))) (hg : g < W.heap.size) (ht : TabOK W.heap.size W) => Lines_any (d18 g) p18 W W.heap.size (p18_at h hg).code (Nat.le_refl _) (fun i hi => by
    obtain rfl : i = ⟨1, -1, 0⟩ := by simpa [p18] using hi
    exact ⟨⟨by decide, by decide⟩, by decide, by decide⟩) (show 1 * 16 ≤ 140737488355328 by decide) ht)
  rw [p18_ck, p18_enc] at HE
  rw [p18_line] at HLN
  obtain ⟨hz2, hc2, hd2, hb2⟩ := two_new w (.cells #[.int .u8 1, .int .i64 (-1), .int .i64 0] 33) (.cells #[.slice (some ⟨w.heap.size, 0, none⟩) 1 1, .slice none 0 0, .slice none 0 0, .slice none 0 0, .int .i64 0, .int .i64 1, .int .i64 0, .int .i64 0] 30)
  go_enter Tryd.func7, Tryd.ntmps7
  go_wp2_with fail
  generalize (w.alloc (.cells #[.int .u8 1, .int .i64 (-1), .int .i64 0] 33)).alloc (.cells #[.slice (some ⟨w.heap.size, 0, none⟩) 1 1, .slice none 0 0, .slice none 0 0, .slice none 0 0, .int .i64 0, .int .i64 1, .int .i64 0, .int .i64 0] 30) = w2 at *
  have HB2 := Lib.hid hb2
  have HC2 := Lib.hid hc2
  have HD2 := Lib.hid hd2
  have HT0 := Lib.hid ht
  clear hb2 hc2 hd2 ht
  refine (HE.out w2 w.heap.size HC2.out (by omega)).mono ?_
  rintro e w3 ⟨hb3, hpost⟩
  rcases hpost with ⟨hne, _⟩ | ⟨_, A, n, c, rfl, hn, ho⟩
  · exact absurd rfl hne
  have HB3 := Lib.hid (HB2.out.trans (hb3.mono (by omega)))
  have HC3 := Lib.hid ((hb3.block w.heap.size (by omega)).trans HC2.out)
  have HD3 := Lib.hid ((hb3.block (w.heap.size + 1) (by omega)).trans HD2.out)
  have HO3 := Lib.hid ho
  have hs3 := hb3.size
  obtain rfl : 29 = n := hn
  clear hb3 ho HE
  have m0 : w3.cell? ⟨w.heap.size + 1, 0, none⟩ = some (.slice (some ⟨w.heap.size, 0, none⟩) 1 1) := by rw [blk_cell HD3.out]; rfl
  have m1 : w3.cell? ⟨w.heap.size + 1, 1, none⟩ = some (.slice none 0 0) := by rw [blk_cell HD3.out]; rfl
  have m2 : w3.cell? ⟨w.heap.size + 1, 2, none⟩ = some (.slice none 0 0) := by rw [blk_cell HD3.out]; rfl
  have m3 : w3.cell? ⟨w.heap.size + 1, 3, none⟩ = some (.slice none 0 0) := by rw [blk_cell HD3.out]; rfl
  have m4 : w3.cell? ⟨w.heap.size + 1, 4, none⟩ = some (.int .i64 0) := by rw [blk_cell HD3.out]; rfl
  have m5 : w3.cell? ⟨w.heap.size + 1, 5, none⟩ = some (.int .i64 1) := by rw [blk_cell HD3.out]; rfl
  have m6 : w3.cell? ⟨w.heap.size + 1, 6, none⟩ = some (.int .i64 0) := by rw [blk_cell HD3.out]; rfl
  have m7 : w3.cell? ⟨w.heap.size + 1, 7, none⟩ = some (.int .i64 0) := by rw [blk_cell HD3.out]; rfl
  go_wp2_with fail
  refine (HLN.out w3 w.heap.size HC3.out (by omega) ((HT0.out.on HB3.out (Nat.le_refl _)).more (by omega))).mono ?_
  rintro e w4 ⟨A4, c4, rfl, ho4, hb4⟩
  have HB4 := Lib.hid (HB3.out.trans (hb4.mono (by omega)))
  obtain ⟨g3, rfl, _, _⟩ := own_at18 HO3.out (by decide)
  obtain ⟨g4, rfl, _, _⟩ := own_at18 ho4 (show 0 < 1 by decide)
  have HO4 := Lib.hid (own_later HO3.out hb4)
  have x0 := HO4.out.cellAt 0 (by decide)
  have x5 := HO4.out.cellAt 5 (by decide)
  have x22 := HO4.out.cellAt 22 (by decide)
  have x26 := HO4.out.cellAt 26 (by decide)
  have y0 := ho4.cellAt 0 (show 0 < 1 * 1 by decide)
  clear m0 m1 m2 m3 m4 m5 m6 m7 hb4 ho4 HO3 HO4 HLN
  rw [show (d18 w.heap.size).n1 = 1 from rfl]
  simp only [b18, bv, List.map_cons, List.getElem?_cons_succ, List.getElem?_cons_zero] at x0 x5 x22 x26 y0
  go_wp2_with fail
  go_ret
  exact ⟨rfl, HB4.out⟩
end Go.Proofs.YtkmcjjoicpgjfaaDoor
