/-
  Contract of frame.allZero; a part read as a result. No conditions but the sizes that slices can have.
-/
import Derived.Test.YtobmopjfbgkfbaaFrame
import Derived.Test.YtobmopjfbgkfbaaGet
import Derived.Laws.ResultCell
namespace Go.Proofs.Ytobmopjfbgkfbaa
open Go Go.RowKit Go.Sh

def allZ (l : List UInt8) : Bool := l.all fun x => x == 0
theorem allZ_iff {l : List UInt8} : allZ l = true ↔ ∀ j, j < l.length → bt l j = 0 := by
  unfold allZ
  rw [List.all_eq_true]
  constructor
  · intro h j hj
    have := h _ (List.getElem_mem hj)
    simp only [beq_iff_eq] at this
    simp [bt, hj, this]
  · intro h x hx
    obtain ⟨j, hj, rfl⟩ := List.getElem_of_mem hx
    have := h j hj
    simp only [bt, List.getD_eq_getElem?_getD, List.getElem?_eq_getElem hj, Option.getD_some] at this
    simp only [beq_iff_eq]
    exact UInt8.toNat_inj.1 (by rw [show (0 : UInt8).toNat = 0 from rfl]; omega)
theorem allZ_any (A : Option Addr) (n c : Nat) (l : List UInt8) (w : World) (B : Nat) (hr : RB w B A n l) (hn : n ≤ 140737488355328) :
    Calls Try.prog 64 #[.slice A n c] w (fun e w' => e = .returned (.bool (allZ l)) ∧ w = w') := by
  have HL := Lib.hid hr.len
  have HR := Lib.hid hr
  clear hr
  have HZ := Lib.hid (allZ_iff (l := l))
  generalize allZ l = z at *
  go_enter Try.func64, Try.ntmps64
  go_wp2
  go_loop [4, 7] (fun _ i => ∃ k : Nat, k ≤ n ∧ i = .int .i64 k ∧ ∀ j, j < k → bt l j = 0) (fun _ i => n - (intOf i).toNat)
  case atStart => exact ⟨0, by omega, rfl, fun j hj => absurd hj (by omega)⟩
  case round =>
    obtain ⟨k, hk, rfl, hall⟩ := hrel
    have HA := Lib.hid hall
    clear hall
    by_cases hlt : k < n
    · obtain ⟨ad, rfl, _, hc⟩ := HR.out.at_ hlt
      by_cases h0 : bt l k = 0
      · have hb : (bt l k != 0) = false := by simp [h0]
        have H0 := Lib.hid h0
        clear h0
        go_wp2
        refine ⟨⟨k + 1, by omega, by go_num, fun j hj => ?_⟩, by simp [intOf]; omega⟩
        by_cases hjk : j < k
        · exact HA.out j hjk
        · obtain rfl : j = k := by omega
          exact H0.out
      · have hb : (bt l k != 0) = true := by rw [bne_iff_ne]; exact h0
        have hz : z = false := by
          cases z with
          | false => rfl
          | true => exact absurd (HZ.out.1 rfl k (by rw [HL.out]; exact hlt)) h0
        subst hz
        clear h0
        go_wp2
        go_ret
        exact ⟨rfl, rfl⟩
    · obtain rfl : k = n := by omega
      have hz : z = true := HZ.out.2 (fun j hj => HA.out j (by rw [← HL.out]; exact hj))
      subst hz
      go_wp2
      go_ret
      exact ⟨rfl, rfl⟩

theorem part_load {w : World} {b : Nat} {p : Pt} {A : Option Addr} {n c : Nat} (h : PBlk w b p (.slice A n c)) : (loadVar 56 ⟨b, 0, none⟩).run Try.prog w = .ok (.agg (pcell p (.slice A n c)).toArray) w :=
  run_loadVar_mid w b 0 _ (pcell p (.slice A n c)) _ (blk_range h) Try.underlying56 rfl infoP
theorem part_results {fn : Func} (hf : fn.results = #[.cell 2 56, .tmp 3]) (ts : Array Value) (w : World) (b : Nat) (p : Pt) (A : Option Addr) (n c : Nat) (h : PBlk w b p (.slice A n c)) (e : Value) (h2 : ts.getD 2 undef = .pointer (some ⟨b, 0, none⟩)) (h3 : ts.getD 3 undef = e) :
    (results fn ts).run Try.prog w = .ok (.tuple #[.agg (pcell p (.slice A n c)).toArray, e]) w := by
  rw [results_cell_tmp hf, h2, h3]
  simp [asAddr, part_load h]
/-- a part, its data new memory, and an error's number are handed back; nothing that was there has turned -/
def RetPt (w : World) (p : Pt) (er : Int) (e : Ending) (w' : World) : Prop :=
  ∃ A n c, e = .returned (.tuple #[.agg (pcell p (.slice A n c)).toArray, .int .i64 er]) ∧ w'.ownsRow w.heap.size 5 1 (.slice A n c) n (bv p.d) ∧ Below w.heap.size w w'
end Go.Proofs.Ytobmopjfbgkfbaa
