/-
  Rows of nodes, hops and stops; contracts of shallottop.nodes and dir.Total. Conditions: the fields fit their types; the sizes that slices can have.
-/
import Derived.Test.YtkmcjjoicpgjfaaDoorDirFind
import Derived.Test.YtkmcjjoicpgjfaaDoorCmdTell
namespace Go.Proofs.YtkmcjjoicpgjfaaDoor
open Go Go.RowKit Go.Sh

theorem rr_reads {w : World} {B size n : Nat} {A : Option Addr} {css : List (List Value)} (h : RR w B size A n css) (hs : 0 < size) : Reads w B size A n css.flatten := by
  obtain ⟨h1, h2, h3⟩ := h
  have hfl := flat_len h2
  refine ⟨by rw [hfl, h1], ?_⟩
  rcases h3 with rfl | ⟨b, off, rfl, hb, hr⟩
  · exact .inl rfl
  · refine .inr ⟨_, rfl, hb, fun j hj => ?_⟩
    have hi : j / size < css.length := Nat.div_lt_of_lt_mul (by rw [Nat.mul_comm]; omega)
    have hcs := List.getElem?_eq_getElem hi
    have hm : j % size < (css[j / size]).length := by rw [h2 _ (List.getElem_mem hi)]; exact Nat.mod_lt _ hs
    have hf := flat_at h2 _ _ hcs (j % size) _ (List.getElem?_eq_getElem hm)
    have hcell := hr _ _ hcs (j % size) _ (List.getElem?_eq_getElem hm)
    have e : j / size * size + j % size = j := by rw [Nat.mul_comm]; exact Nat.div_add_mod j size
    rw [e] at hf
    rw [hf, add_mk, show off + j = off + j / size * size + j % size by omega]
    exact hcell
set_option maxRecDepth 100000 in
theorem TND : STy Tryd.prog 150 149 (.agg zHop.node.toArray) 66 88 := ⟨Tryd.underlying150, by kernel_rfl, rfl, by decide⟩
theorem nodes_one {ns : List Hp} (hok : ∀ h ∈ ns, h.OK) : ∀ v ∈ (ns.map Hp.node).flatten, v.oneCell' = true := by
  intro v hv
  obtain ⟨cs, hcs, hv⟩ := List.mem_flatten.1 hv
  obtain ⟨h, hh, rfl⟩ := List.mem_map.1 hcs
  exact Hp.node_one (hok h hh) v hv
theorem nodes_sizes {ns : List Hp} (hok : ∀ h ∈ ns, h.OK) : ∀ cs ∈ ns.map Hp.node, cs.length = 66 := by
  intro cs hcs
  obtain ⟨h, hh, rfl⟩ := List.mem_map.1 hcs
  exact Hp.node_len (hok h hh)
/-- the delays of the first k hops -/
def dlSum (hs : List Hp) : Nat → Int
  | 0 => 0
  | k + 1 => dlSum hs k + (hat hs k).dl
theorem dlSum_le (hs : List Hp) (hb : ∀ i, i < hs.length → 0 ≤ (hat hs i).dl ∧ (hat hs i).dl ≤ 1000000) : ∀ k, k ≤ hs.length → 0 ≤ dlSum hs k ∧ dlSum hs k ≤ 1000000 * (k : Int)
  | 0, _ => by simp [dlSum]
  | k + 1, hk => by
    have h := dlSum_le hs hb k (by omega)
    have h2 := hb k (by omega)
    simp only [dlSum]
    omega
end Go.Proofs.YtkmcjjoicpgjfaaDoor
