/-
  Contract of dir.Route: for each stop the node with its name, with the stop's delay and flags, in new memory, or an error. Conditions: the fields fit their types; the sizes that slices can have.
-/
import Derived.Test.YtkmcjjoicpgjfaaDoorDirWords
namespace Go.Proofs.YtkmcjjoicpgjfaaDoor
open Go Go.RowKit Go.Sh

/-- a stop: name, delay, flags -/
structure Sp where
  nm : ByteArray
  dl : Int
  fl : Int
def Sp.cells (s : Sp) : List Value := [.string s.nm, .int .i64 s.dl, .int .i64 s.fl]
structure Sp.OK (s : Sp) : Prop where
  dl : -9223372036854775808 ≤ s.dl ∧ s.dl ≤ 9223372036854775807
  fl : -9223372036854775808 ≤ s.fl ∧ s.fl ≤ 9223372036854775807
def sat (ss : List Sp) (k : Nat) : Sp := ss.getD k ⟨⟨#[]⟩, 0, 0⟩
theorem sat_eq {ss : List Sp} {k : Nat} (h : k < ss.length) : ss[k]? = some (sat ss k) := by
  unfold sat
  rw [List.getD_eq_getElem?_getD, List.getElem?_eq_getElem h, Option.getD_some]
theorem sat_mem {ss : List Sp} {k : Nat} (h : k < ss.length) : sat ss k ∈ ss := List.mem_of_getElem? (sat_eq h)
theorem stop_at {w : World} {B n : Nat} {A : Option Addr} {ss : List Sp} (h : RR w B 3 A n (ss.map Sp.cells)) {k : Nat} (hk : k < n) :
    ∃ b off, A = some ⟨b, off, none⟩ ∧ b < B ∧ w.cell? ⟨b, off + k * 3, none⟩ = some (.string (sat ss k).nm) ∧ w.cell? ⟨b, off + k * 3 + 1, none⟩ = some (.int .i64 (sat ss k).dl) ∧ w.cell? ⟨b, off + k * 3 + 2, none⟩ = some (.int .i64 (sat ss k).fl) := by
  have hl : ss.length = n := by rw [← h.len, List.length_map]
  obtain ⟨b, off, cs, rfl, hb, hcs, _, hr⟩ := h.at_ hk
  have e : cs = (sat ss k).cells := by
    rw [List.getElem?_map, sat_eq (by omega)] at hcs
    exact (Option.some.inj hcs).symm
  subst e
  exact ⟨b, off, rfl, hb, hr 0 _ rfl, hr 1 _ rfl, hr 2 _ rfl⟩
def spIn (s : Sp) : Prop := (0 ≤ s.dl ∧ s.dl ≤ 1000000) ∧ (0 ≤ s.fl ∧ s.fl ≤ 255)
/-- hop h is stop s at the node with its name -/
def Met (ns : List Hp) (s : Sp) (h : Hp) : Prop :=
  ∃ k, k < ns.length ∧ (hat ns k).nm.toList = s.nm.toList ∧ h = ⟨(hat ns k).nm, (hat ns k).id, (hat ns k).ks, s.dl, s.fl⟩
theorem Met.ok {ns : List Hp} {s : Sp} {h : Hp} (m : Met ns s h) (hok : ∀ h ∈ ns, h.OK) (hs : spIn s) : h.OK := by
  obtain ⟨k, hk, _, rfl⟩ := m
  have ok := hok _ (hat_mem hk)
  obtain ⟨h1, h2⟩ := hs
  exact ⟨ok.id, ok.l, ok.o, by show -9223372036854775808 ≤ s.dl ∧ s.dl ≤ 9223372036854775807; omega, by show -9223372036854775808 ≤ s.fl ∧ s.fl ≤ 9223372036854775807; omega⟩
/-- the hops found, then noughts -/
def hopTo (n : Nat) (hs : List Hp) : List Value := ((hs ++ List.replicate (n - hs.length) zHop).map Hp.cells).flatten
theorem hops_sizes {hs : List Hp} (hok : ∀ h ∈ hs, h.OK) : ∀ cs ∈ hs.map Hp.cells, cs.length = 68 := by
  intro cs hcs
  obtain ⟨h, hh, rfl⟩ := List.mem_map.1 hcs
  exact (hok h hh).size
theorem length_hops {hs : List Hp} (hok : ∀ h ∈ hs, h.OK) : ((hs.map Hp.cells).flatten).length = hs.length * 68 := by
  rw [flat_len (hops_sizes hok), List.length_map]
theorem hopTo_put {n : Nat} {hs : List Hp} (hok : ∀ h ∈ hs, h.OK) (h : Hp) (hl : hs.length < n) : (hopTo n hs).take (hs.length * 68) ++ (h.cells ++ (hopTo n hs).drop (hs.length * 68 + 68)) = hopTo n (hs ++ [h]) := by
  obtain ⟨m, hm⟩ : ∃ m, n - hs.length = m + 1 := ⟨n - hs.length - 1, by omega⟩
  have hm2 : n - (hs ++ [h]).length = m := by rw [List.length_append, List.length_singleton]; omega
  have hF := length_hops hok
  have hz := zHop_ok.size
  unfold hopTo
  rw [hm, hm2, List.replicate_succ]
  simp only [List.map_append, List.map_cons, List.map_nil, List.flatten_append, List.flatten_cons, List.flatten_nil, List.append_nil]
  rw [List.take_left' hF, ← List.drop_drop, List.drop_left' hF, List.drop_left' hz]
  simp
theorem length_hopTo {n : Nat} {hs : List Hp} (hok : ∀ h ∈ hs, h.OK) (hl : hs.length ≤ n) : (hopTo n hs).length = n * 68 := by
  have h := length_hops (hs := hs ++ List.replicate (n - hs.length) zHop) (fun h hh => by
    rcases List.mem_append.1 hh with h1 | h1
    · exact hok h h1
    · rw [List.eq_of_mem_replicate h1]; exact zHop_ok)
  unfold hopTo
  rw [h, List.length_append, List.length_replicate, show hs.length + (n - hs.length) = n by omega]
theorem made_hops (n : Nat) : (madeCells zHop.cells.toArray (n * 68)).toList = hopTo n [] := by
  have hok : ∀ h ∈ List.replicate n zHop, h.OK := fun h hh => by rw [List.eq_of_mem_replicate hh]; exact zHop_ok
  have e0 : hopTo n [] = ((List.replicate n zHop).map Hp.cells).flatten := by simp [hopTo]
  rw [e0]
  apply List.ext_getElem?
  intro j
  by_cases hj : j < n * 68
  · obtain ⟨v, hv⟩ : ∃ v, zHop.cells[j % 68]? = some v := ⟨_, List.getElem?_eq_getElem (by rw [zHop_ok.size]; omega)⟩
    have e1 := flat_at (hops_sizes hok) (j / 68) zHop.cells (by rw [List.getElem?_map, List.getElem?_replicate, if_pos (by omega)]; rfl) (j % 68) v hv
    rw [show j / 68 * 68 + j % 68 = j by omega] at e1
    rw [e1]
    have hs : zHop.cells.toArray.size = 68 := by rw [List.size_toArray, zHop_ok.size]
    simp only [madeCells, hs, Array.toList_map, Array.toList_range, List.getElem?_map, List.getElem?_range hj, Option.map_some]
    rw [Array.getElem!_eq_getD, Array.getD_eq_getD_getElem?, List.getElem?_toArray, hv]
    rfl
  · rw [List.getElem?_eq_none (by rw [Array.length_toList, size_madeCells]; omega), List.getElem?_eq_none (by rw [length_hops hok, List.length_replicate]; omega)]
theorem hat_append {hs : List Hp} {h : Hp} {i : Nat} (hi : i < hs.length) : hat (hs ++ [h]) i = hat hs i := by
  unfold hat
  rw [List.getD_eq_getElem?_getD, List.getD_eq_getElem?_getD, List.getElem?_append_left hi]
theorem hat_last (hs : List Hp) (h : Hp) : hat (hs ++ [h]) hs.length = h := by
  unfold hat
  rw [List.getD_eq_getElem?_getD, List.getElem?_append_right (Nat.le_refl _), Nat.sub_self]
  rfl
/-- what Route hands back -/
def RoutePost (w : World) (ns : List Hp) (ss : List Sp) (e : Ending) (w' : World) : Prop :=
  Below w.heap.size w w' ∧ ((∃ er : Int, er ≠ 0 ∧ e = .returned (.tuple #[.slice none 0 0, .int .i64 er])) ∨
    ((1 ≤ ss.length ∧ ss.length ≤ 5) ∧ chkN ns = 0 ∧ (∀ i, i < ss.length → spIn (sat ss i)) ∧ ∃ g hs, hs.length = ss.length ∧ (∀ i, i < ss.length → Met ns (sat ss i) (hat hs i)) ∧ (∀ h ∈ hs, h.OK) ∧
      RR w' w'.heap.size 68 (some ⟨g, 0, none⟩) ss.length (hs.map Hp.cells) ∧ e = .returned (.tuple #[.slice (some ⟨g, 0, none⟩) ss.length ss.length, .int .i64 0])))

end Go.Proofs.YtkmcjjoicpgjfaaDoor
