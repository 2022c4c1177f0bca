/-
  Slices of parts: as cells; read below a block; rows of the call's own whose data are rows of the call's own. No statement of the seat is proved here.
-/
import Derived.Test.YtkaakgabhhkggaaPart
import Derived.Test.YtkaakgabhhkggaaRowsOf
import Derived.Test.YtkaakgabhhkggaaMid
namespace Go.Proofs.Ytkaakgabhhkggaa
open Go Go.RowKit Go.Sh

/-- a part's cells; its data is the slice s -/
def pcell (p : Pt) (s : Value) : List Value := [.int .u8 p.k, .int .u64 p.id, .int .i64 p.ix, .int .i64 p.ct, s]
theorem length_pcell (p : Pt) (s : Value) : (pcell p s).length = 5 := rfl
def pcells : List Pt → List Value → List Value
  | p :: ps, s :: ss => pcell p s ++ pcells ps ss
  | _, _ => []
set_option maxRecDepth 100000 in
theorem length_pcells : ∀ (ps : List Pt) (ss : List Value), ss.length = ps.length → (pcells ps ss).length = ps.length * 5
  | [], _, _ => by cases ‹List Value› <;> rfl
  | p :: ps, s :: ss, h => by
    rw [pcells, List.length_append, length_pcell, length_pcells ps ss (by simpa using h), List.length_cons]
    omega
  | p :: ps, [], h => by simp at h
set_option maxRecDepth 100000 in
theorem pcells_append : ∀ (ps qs : List Pt) (ss ts : List Value), ss.length = ps.length → pcells (ps ++ qs) (ss ++ ts) = pcells ps ss ++ pcells qs ts
  | [], qs, [], ts, _ => rfl
  | [], qs, s :: ss, ts, h => by simp at h
  | p :: ps, qs, s :: ss, ts, h => by
    rw [List.cons_append, List.cons_append, pcells, pcells, pcells_append ps qs ss ts (by simpa using h), List.append_assoc]
  | p :: ps, qs, [], ts, h => by simp at h
/-- part k of ps (a plain definition: the walk leaves it standing) -/
def pat (ps : List Pt) (k : Nat) : Pt := ps.getD k ⟨0, 0, 0, 0, []⟩
theorem pat_mem {ps : List Pt} {k : Nat} (h : k < ps.length) : pat ps k ∈ ps := by
  unfold pat
  rw [List.getD_eq_getElem?_getD, List.getElem?_eq_getElem h]
  exact List.getElem_mem _
theorem pat_eq {ps : List Pt} {k : Nat} (h : k < ps.length) : ps[k]? = some (pat ps k) := by
  unfold pat
  rw [List.getD_eq_getElem?_getD, List.getElem?_eq_getElem h, Option.getD_some]
theorem take_psnoc (ps : List Pt) (k : Nat) (hk : k < ps.length) : ps.take (k + 1) = ps.take k ++ [pat ps k] := by
  rw [List.take_succ_eq_append_getElem hk]
  congr 2
  have := pat_eq hk
  rw [List.getElem?_eq_getElem hk] at this
  exact Option.some.inj this
set_option maxRecDepth 100000 in
theorem pcells_at : ∀ (ps : List Pt) (ss : List Value) (k j : Nat) (s : Value) (v : Value), ss.length = ps.length → ss[k]? = some s → (pcell (pat ps k) s)[j]? = some v → (pcells ps ss)[k * 5 + j]? = some v
  | [], ss, k, j, s, v, h, hs, _ => by
    have : ss = [] := List.eq_nil_of_length_eq_zero (by simpa using h)
    subst this
    simp at hs
  | p :: ps, [], k, j, s, v, h, _, _ => by simp at h
  | p :: ps, s' :: ss, 0, j, s, v, h, hs, hv => by
    have e : s' = s := by simpa using hs
    subst e
    have hj : j < 5 := by have := (List.getElem?_eq_some_iff.1 hv).1; rw [length_pcell] at this; exact this
    rw [pcells, Nat.zero_mul, Nat.zero_add, List.getElem?_append_left (by rw [length_pcell]; exact hj)]
    exact hv
  | p :: ps, s' :: ss, k + 1, j, s, v, h, hs, hv => by
    rw [pcells, List.getElem?_append_right (by rw [length_pcell]; omega), length_pcell, show (k + 1) * 5 + j - 5 = k * 5 + j by omega]
    exact pcells_at ps ss k j s v (by simpa using h) (by simpa using hs) hv
set_option maxRecDepth 100000 in
theorem pcells_set : ∀ (ps : List Pt) (ss : List Value) (k : Nat) (p : Pt) (s : Value), ss.length = ps.length → k < ps.length → (pcells ps ss).take (k * 5) ++ pcell p s ++ (pcells ps ss).drop (k * 5 + 5) = pcells (ps.set k p) (ss.set k s)
  | [], _, _, _, _, _, h => by simp at h
  | q :: ps, [], _, _, _, h, _ => by simp at h
  | q :: ps, t :: ss, 0, p, s, _, _ => by
    rw [pcells, Nat.zero_mul, List.take_zero, List.nil_append, Nat.zero_add, List.drop_left' (by rw [length_pcell])]
    rfl
  | q :: ps, t :: ss, k + 1, p, s, h, hk => by
    have ih := pcells_set ps ss k p s (by simpa using h) (by simpa using hk)
    rw [pcells, show (k + 1) * 5 = (pcell q t).length + k * 5 by rw [length_pcell]; omega, List.take_length_add_append, show (pcell q t).length + k * 5 + 5 = (pcell q t).length + (k * 5 + 5) by omega, List.drop_length_add_append, List.append_assoc, List.append_assoc, ← List.append_assoc ((pcells ps ss).take (k * 5)), ih]
    rfl
theorem pcell_one (p : Pt) (A : Option Addr) (n c : Nat) : ∀ u ∈ pcell p (.slice A n c), u.oneCell' = true := by
  intro u hu
  simp only [pcell, List.mem_cons, List.not_mem_nil, or_false] at hu
  rcases hu with rfl | rfl | rfl | rfl | rfl <;> rfl
def SlV (s : Value) : Prop := ∃ A n c, s = .slice A n c
theorem pcells_one : ∀ (ps : List Pt) (ss : List Value), (∀ s ∈ ss, SlV s) → ∀ u ∈ pcells ps ss, u.oneCell' = true
  | [], ss, _, u, hu => by cases ss <;> simp [pcells] at hu
  | p :: ps, [], _, u, hu => by simp [pcells] at hu
  | p :: ps, s :: ss, h, u, hu => by
    rw [pcells, List.mem_append] at hu
    rcases hu with hu | hu
    · obtain ⟨A, n, c, rfl⟩ := h s (by simp)
      exact pcell_one p A n c u hu
    · exact pcells_one ps ss (fun x hx => h x (List.mem_cons_of_mem _ hx)) u hu

/-- '.slice A m c' holds m parts that read as ps; all lies below block B -/
def RP (w : World) (B : Nat) (A : Option Addr) (m : Nat) (ps : List Pt) : Prop :=
  ps.length = m ∧ ∃ ss : List Value, ss.length = m ∧ Reads w B 5 A m (pcells ps ss) ∧ ∀ i, i < m → ∃ Ai ni ci, ss[i]? = some (.slice Ai ni ci) ∧ ni ≤ ci ∧ RB w B Ai ni (pat ps i).d
section
variable {w w' : World} {B B' m : Nat} {A : Option Addr} {ps : List Pt}
theorem RP.len (h : RP w B A m ps) : ps.length = m := h.1
theorem RP.keep (h : RP w B A m ps) (hk : ∀ p : Addr, p.block < B → w'.cell? p = w.cell? p) : RP w' B A m ps := by
  obtain ⟨h1, ss, h2, h3, h4⟩ := h
  refine ⟨h1, ss, h2, h3.keep hk, fun i hi => ?_⟩
  obtain ⟨Ai, ni, ci, h5, h6, h7⟩ := h4 i hi
  exact ⟨Ai, ni, ci, h5, h6, h7.keep hk⟩
theorem RP.below (h : RP w B A m ps) (hb : Below B w w') : RP w' B A m ps := h.keep fun _ hp => hb.cell hp
theorem RP.more (h : RP w B A m ps) (hB : B ≤ B') : RP w B' A m ps := by
  obtain ⟨h1, ss, h2, h3, h4⟩ := h
  refine ⟨h1, ss, h2, h3.more hB, fun i hi => ?_⟩
  obtain ⟨Ai, ni, ci, h5, h6, h7⟩ := h4 i hi
  exact ⟨Ai, ni, ci, h5, h6, h7.more hB⟩
theorem RP.drewN (h : RP w B A m ps) (k : Nat) : RP (w.drewN k) B A m ps := h
/-- part k: its cells and its data -/
theorem RP.at_ {k : Nat} (h : RP w B A m ps) (hk : k < m) : ∃ ad Ai ni ci, A = some ad ∧ ad.block < B ∧ (∀ j v, (pcell (pat ps k) (.slice Ai ni ci))[j]? = some v → w.cell? (ad.add (k * 5 + j)) = some v) ∧ ni ≤ ci ∧ RB w B Ai ni (pat ps k).d := by
  obtain ⟨h1, ss, h2, h3, h4⟩ := h
  obtain ⟨Ai, ni, ci, h5, h6, h7⟩ := h4 k hk
  have hl : (pcells ps ss).length = m * 5 := h3.1
  obtain ⟨ad, e, hb, hc⟩ := h3.some_ (by omega)
  exact ⟨ad, Ai, ni, ci, e, hb, fun j v hv => hc.get (pcells_at ps ss k j _ v (by omega) h5 hv), h6, h7⟩
end
section
variable {w w' : World} {base m : Nat} {v : Value} {ps : List Pt} {ss : List Value}
end
/-- m noughts -/
def zp : Pt := ⟨0, 0, 0, 0, []⟩
set_option maxRecDepth 100000 in
theorem made_parts (n : Nat) : (madeCells #[.int .u8 0, .int .u64 0, .int .i64 0, .int .i64 0, .slice none 0 0] (n * 5)).toList = pcells (List.replicate n zp) (List.replicate n (.slice none 0 0)) := by
  apply List.ext_getElem?
  intro i
  by_cases hi : i < n * 5
  · have hk : i / 5 < n := by omega
    have hj : i % 5 < 5 := by omega
    have h2 : (List.replicate n (Value.slice none 0 0))[i / 5]? = some (.slice none 0 0) := by simp [hk]
    have h3 : pat (List.replicate n zp) (i / 5) = zp := by simp [pat, hk]
    have e : i = i / 5 * 5 + i % 5 := by omega
    have hv : ∃ v, (pcell zp (.slice none 0 0))[i % 5]? = some v ∧ (#[Value.int .u8 0, .int .u64 0, .int .i64 0, .int .i64 0, .slice none 0 0] : Array Value)[i % 5]! = v := by
      have : i % 5 = 0 ∨ i % 5 = 1 ∨ i % 5 = 2 ∨ i % 5 = 3 ∨ i % 5 = 4 := by omega
      rcases this with h | h | h | h | h <;> rw [h] <;> exact ⟨_, rfl, rfl⟩
    obtain ⟨v, hv1, hv2⟩ := hv
    have h4 := pcells_at (List.replicate n zp) (List.replicate n (.slice none 0 0)) (i / 5) (i % 5) (.slice none 0 0) v (by simp) h2 (by rw [h3]; exact hv1)
    rw [← e] at h4
    rw [h4]
    simp [madeCells, hi]
    simpa using hv2
  · rw [List.getElem?_eq_none (by rw [Array.length_toList, size_madeCells]; omega), List.getElem?_eq_none (by rw [length_pcells _ _ (by simp)]; simp; omega)]
end Go.Proofs.Ytkaakgabhhkggaa
