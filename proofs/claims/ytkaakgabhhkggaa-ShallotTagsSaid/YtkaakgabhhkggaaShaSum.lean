/-
  Contracts of sha.padding, Hash.Write, sha.New and Hash.Len. Conditions: a hash lies at the address; what is written is not among the bytes of the hash; the sizes that slices can have.
-/
import Derived.Test.YtkaakgabhhkggaaShaAdd
namespace Go.Proofs.Ytkaakgabhhkggaa
open Go Go.RowKit Go.Sh

/-- a slice of lists of bytes that reads as ls also when block p has turned -/
def PartsAt (w : World) (p : Nat) (A : Option Addr) (m : Nat) (ls : List (List UInt8)) : Prop :=
  ls.length = m ∧ ∃ vs : List Value, (∀ w', w.grownBy w' (some p) → ∃ B, Reads w' B 1 A m vs) ∧ ∀ k, k < m → ∃ Ai ni ci, vs[k]? = some (.slice Ai ni ci) ∧ ni ≤ ci ∧ ∀ w', w.grownBy w' (some p) → ∃ B, RB w' B Ai ni (lat ls k)
theorem PartsAt.of_below {w : World} {p B m : Nat} {A : Option Addr} {ls : List (List UInt8)} (h : RBB w B A m ls) (hB : B ≤ p) (hp : p < w.heap.size) : PartsAt w p A m ls := by
  obtain ⟨h1, vs, hr, hi⟩ := h
  have hk : ∀ w', w.grownBy w' (some p) → ∀ q : Addr, q.block < B → w'.cell? q = w.cell? q := fun w' hg q hq => hg.cell_far q (by omega) (by intro h; injection h with h; omega)
  refine ⟨h1, vs, fun w' hg => ⟨B, hr.keep (hk w' hg)⟩, fun k hkm => ?_⟩
  obtain ⟨Ai, ni, ci, hv, hle, hrb⟩ := hi k hkm
  exact ⟨Ai, ni, ci, hv, hle, fun w' hg => ⟨B, hrb.keep (hk w' hg)⟩⟩
theorem PartsAt.grown {w w' : World} {p m : Nat} {A : Option Addr} {ls : List (List UInt8)} (h : PartsAt w p A m ls) (hg : w.grownBy w' (some p)) : PartsAt w' p A m ls := by
  obtain ⟨h1, vs, hr, hi⟩ := h
  refine ⟨h1, vs, fun w2 hg2 => hr w2 (sh_trans hg hg2), fun k hkm => ?_⟩
  obtain ⟨Ai, ni, ci, hv, hle, hrb⟩ := hi k hkm
  exact ⟨Ai, ni, ci, hv, hle, fun w2 hg2 => hrb w2 (sh_trans hg hg2)⟩
theorem flat_take_succ (ls : List (List UInt8)) (k : Nat) (hk : k < ls.length) : (ls.take (k + 1)).flatten = (ls.take k).flatten ++ lat ls k := by
  have e : ls.take (k + 1) = ls.take k ++ [lat ls k] := by
    rw [List.take_add_one, List.getElem?_eq_getElem hk]
    simp [lat, List.getElem?_eq_getElem hk]
  rw [e]
  simp
theorem flat_take_le (ls : List (List UInt8)) (k : Nat) : (ls.take k).flatten.length ≤ ls.flatten.length := by
  have e : ls.flatten = (ls.take k).flatten ++ (ls.drop k).flatten := by rw [← List.flatten_append, List.take_append_drop]
  rw [e, List.length_append]
  omega

set_option maxRecDepth 100000 in
set_option maxHeartbeats 1000000 in
theorem Write_any (ty : TypeId) (p : Nat) (rest : List Value) (l : List UInt8) (A : Option Addr) (m c : Nat) (ls : List (List UInt8)) (w : World) (hH : HashAt w ty p rest l) (hP : PartsAt w p A m ls) (hn : l.length + ls.flatten.length ≤ 4611686018427387904) (hm : m ≤ 281474976710656) :
    Calls Try.prog 10 #[.pointer (some ⟨p, 0, none⟩), .slice A m c] w (fun e w' => e = .returned (.pointer (some ⟨p, 0, none⟩)) ∧ HashAt w' ty p rest (l ++ ls.flatten) ∧ w.grownBy w' (some p)) := by
  have HH := Lib.hid hH
  have HP := Lib.hid hP
  clear hH hP
  go_enter Try.func10, Try.ntmps10
  go_wp2_with fail
  go_loopw [6, 9] (fun _ i wr => ∃ k : Nat, k ≤ m ∧ i = .int .i64 (k : Int) ∧ HashAt wr ty p rest (l ++ (ls.take k).flatten) ∧ w.grownBy wr (some p)) (fun _ i _ => m - (intOf i).toNat)
  case atStart => exact ⟨0, Nat.zero_le _, rfl, by rw [List.take_zero, List.flatten_nil, List.append_nil]; exact HH.out, World.grownBy.refl _ _⟩
  case round =>
    obtain ⟨k, hk, rfl, hh, hg⟩ := hrel
    have HHr := Lib.hid hh
    have HG := Lib.hid hg
    clear hh hg
    by_cases hlt : k < m
    · obtain ⟨h1, vs, hr, hi⟩ := HP.out.grown HG.out
      obtain ⟨B, hr0⟩ := hr wr (World.grownBy.refl _ _)
      obtain ⟨Ai, ni, ci, hv, hle, hrb⟩ := hi k hlt
      obtain ⟨ad, u, rfl, _, hx, hcell⟩ := Reads.at_ hr0 hlt
      rw [hv] at hx
      obtain rfl := Option.some.inj hx
      have HRB := Lib.hid hrb
      have HV := Lib.hid h1
      have hni : ni = (lat ls k).length := by obtain ⟨B, h⟩ := hrb wr (World.grownBy.refl _ _); exact h.len.symm
      have hfl := flat_take_succ ls k (by omega)
      have hfl2 := flat_take_le ls (k + 1)
      have HSZ := Lib.hid (show (l ++ (ls.take k).flatten).length + ni ≤ 4611686018427387904 by
        rw [hfl, List.length_append] at hfl2
        rw [List.length_append, hni]
        omega)
      have HFL := Lib.hid hfl
      clear hr hr0 hi hv hrb h1 hni hfl hfl2
      go_wp2_with fail
      refine (add_any ty p rest (l ++ (ls.take k).flatten) Ai ni ci (lat ls k) wr HHr.out HRB.out hle HSZ.out).mono ?_
      rintro e w2 ⟨rfl, hh, hg⟩
      have HH2 := Lib.hid (show HashAt w2 ty p rest (l ++ (ls.take (k + 1)).flatten) by rw [HFL.out, ← List.append_assoc]; exact hh)
      have HG2 := Lib.hid (sh_trans HG.out hg)
      clear hh hg
      go_wp2_with fail
      exact ⟨⟨k + 1, by omega, by go_num, HH2.out, HG2.out⟩, by simp [intOf]; omega⟩
    · obtain rfl : k = m := by omega
      have HHr' := Lib.hid (show HashAt wr ty p rest (l ++ ls.flatten) by have := HHr.out; rw [List.take_of_length_le (by rw [HP.out.1]; exact Nat.le_refl _)] at this; exact this)
      go_wp2_with fail
      go_ret
      exact ⟨rfl, HHr'.out, HG.out⟩

/-- the cells of a hash into which nothing was written -/
def hash0 : List Value := hc (zw 8) (zs 64) 0 []
theorem hash0_rep : HRep (zw 8) (zs 64) [] := ⟨rfl, AWb_aw (by decide), length_zs 64, fun h => absurd h (by decide), rfl⟩
set_option maxRecDepth 100000 in
theorem zero_hash : ∀ w : World, (zeroValue 39).run Try.prog w = .ok (.agg hash0.toArray) w := fun _ => by kernel_rfl
theorem HashAt.new (w : World) : HashAt (w.alloc (.cells hash0.toArray 39)) 39 w.heap.size [] [] := ⟨zw 8, zs 64, heap_alloc_new w _, hash0_rep⟩

end Go.Proofs.Ytkaakgabhhkggaa
