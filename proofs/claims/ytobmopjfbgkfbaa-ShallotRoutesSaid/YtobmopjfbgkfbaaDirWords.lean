/-
  Rows of nodes, hops and stops; contracts of shallottop.nodes and dir.Total. Conditions: the fields fit their types; the sizes that slices can have.
-/
import Derived.Test.YtobmopjfbgkfbaaDirFind
import Derived.Test.YtobmopjfbgkfbaaCmdTell
namespace Go.Proofs.Ytobmopjfbgkfbaa
open Go Go.RowKit Go.Sh

theorem rr_reads {w : World} {B size n : Nat} {A : Option Addr} {css : List (List Value)} (h : RR w B size A n css) (hs : 0 < size) : Reads w B size A n css.flatten := by
  obtain ⟨h1, h2, h3⟩ := h
  have hfl := flat_len h2
  refine ⟨by rw [hfl, h1], ?_⟩
  rcases h3 with rfl | ⟨b, off, rfl, hb, hr⟩
  · exact .inl rfl
  · refine .inr ⟨_, rfl, hb, fun j hj => ?_⟩
    have hi : j / size < css.length := Nat.div_lt_of_lt_mul (by rw [Nat.mul_comm]; omega)
    have hcs := List.getElem?_eq_getElem hi
    have hm : j % size < (css[j / size]).length := by rw [h2 _ (List.getElem_mem hi)]; exact Nat.mod_lt _ hs
    have hf := flat_at h2 _ _ hcs (j % size) _ (List.getElem?_eq_getElem hm)
    have hcell := hr _ _ hcs (j % size) _ (List.getElem?_eq_getElem hm)
    have e : j / size * size + j % size = j := by rw [Nat.mul_comm]; exact Nat.div_add_mod j size
    rw [e] at hf
    rw [hf, add_mk, show off + j = off + j / size * size + j % size by omega]
    exact hcell
set_option maxRecDepth 100000 in
theorem TND : STy Try.prog 88 92 (.agg zHop.node.toArray) 66 88 := ⟨Try.underlying88, by kernel_rfl, rfl, by decide⟩
theorem nodes_one {ns : List Hp} (hok : ∀ h ∈ ns, h.OK) : ∀ v ∈ (ns.map Hp.node).flatten, v.oneCell' = true := by
  intro v hv
  obtain ⟨cs, hcs, hv⟩ := List.mem_flatten.1 hv
  obtain ⟨h, hh, rfl⟩ := List.mem_map.1 hcs
  exact Hp.node_one (hok h hh) v hv
theorem nodes_sizes {ns : List Hp} (hok : ∀ h ∈ ns, h.OK) : ∀ cs ∈ ns.map Hp.node, cs.length = 66 := by
  intro cs hcs
  obtain ⟨h, hh, rfl⟩ := List.mem_map.1 hcs
  exact Hp.node_len (hok h hh)
set_option maxRecDepth 100000 in
theorem nodes_any (A : Option Addr) (n c : Nat) (ns : List Hp) (w : World) (B : Nat) (hr : RR w B 66 A n (ns.map Hp.node)) (hok : ∀ h ∈ ns, h.OK) (hB : B ≤ w.heap.size) (hn : n * 88 ≤ 140737488355328) :
    Calls Try.prog 48 #[.slice A n c] w (fun e w' => ∃ A' c', e = .returned (.slice A' n c') ∧ RR w' w'.heap.size 66 A' n (ns.map Hp.node) ∧ Below w.heap.size w w') := by
  have HRD := Lib.hid (rr_reads hr)
  have HL := Lib.hid (show ns.length = n by rw [← hr.len, List.length_map])
  have HONE := Lib.hid (nodes_one hok)
  have HSZ := Lib.hid (nodes_sizes hok)
  clear hr hok
  go_enter Try.func48, Try.ntmps48
  go_wp2_with (at_builtin; refine wl_app TND rfl (.tmp 3) (.tmp 4) rfl (.slice (some ⟨w.heap.size, 0, none⟩) 0 0) rfl A n c rfl w.heap.size 0 [] ?h1 B ((ns.map Hp.node).flatten) ?h2 HONE.out (by omega) (by omega) (by simp) ?h6)
  case h1 => exact World.ownsRow_lit w #[] 0 (Nat.le_refl _) (by simp) rfl
  case h2 => exact Reads.alloc (HRD.out (by decide)) hB _
  case h6 =>
    intro A1 c1 w1 hown hg _
    try simp only [Nat.zero_add, List.nil_append] at hown ⊢
    go_wp2_with fail
    go_ret
    exact ⟨_, _, rfl, RR.of_own hown (by rw [List.length_map, HL.out]) HSZ.out, ((Below.refl _ _).alloc (Nat.le_refl _) _).grown hg (by simp) (by simp [Value.ownBlock])⟩

/-- the delays of the first k hops -/
def dlSum (hs : List Hp) : Nat → Int
  | 0 => 0
  | k + 1 => dlSum hs k + (hat hs k).dl
theorem dlSum_le (hs : List Hp) (hb : ∀ i, i < hs.length → 0 ≤ (hat hs i).dl ∧ (hat hs i).dl ≤ 1000000) : ∀ k, k ≤ hs.length → 0 ≤ dlSum hs k ∧ dlSum hs k ≤ 1000000 * (k : Int)
  | 0, _ => by simp [dlSum]
  | k + 1, hk => by
    have h := dlSum_le hs hb k (by omega)
    have h2 := hb k (by omega)
    simp only [dlSum]
    omega
set_option maxRecDepth 100000 in
theorem Total_any (A : Option Addr) (n c : Nat) (hs : List Hp) (w : World) (B : Nat) (hr : RR w B 68 A n (hs.map Hp.cells)) (hok : ∀ h ∈ hs, h.OK) (hb : ∀ i, i < hs.length → 0 ≤ (hat hs i).dl ∧ (hat hs i).dl ≤ 1000000) (hn : n ≤ 5) :
    Calls Try.prog 55 #[.slice A n c] w (fun e w' => e = .returned (.int .i64 (dlSum hs n)) ∧ ∃ m, w' = w.drewN m) := by
  have HL := Lib.hid (show hs.length = n by rw [← hr.len, List.length_map])
  have HR := Lib.hid hr
  have HOK := Lib.hid hok
  have HD := Lib.hid (fun k (hk : k ≤ n) => dlSum_le hs hb k (by rw [HL.out]; exact hk))
  have HS := Lib.hid (show ∀ k, dlSum hs (k + 1) = dlSum hs k + (hat hs k).dl from fun k => rfl)
  have HS0 := Lib.hid (show dlSum hs 0 = 0 from rfl)
  have HBB := Lib.hid hb
  clear hr hok hb
  generalize dlSum hs = f at *
  go_enter Try.func55, Try.ntmps55
  go_wp2_with fail
  go_loopw [3, 4, 7] (fun s _ i wr => ∃ k : Nat, k ≤ n ∧ i = .int .i64 (k : Int) ∧ s = .int .i64 (f k) ∧ ∃ m, wr = w.drewN m) (fun _ _ i _ => n - (intOf i).toNat)
  case atStart => exact ⟨0, by omega, rfl, by rw [HS0.out], 0, rfl⟩
  case round =>
    obtain ⟨k, hk, rfl, rfl, md, rfl⟩ := hrel
    by_cases hlt : k < n
    · obtain ⟨wq, hwq⟩ : ∃ wq, w.drewN md = wq := ⟨_, rfl⟩
      have HRq := Lib.hid (show RR wq B 68 A n (hs.map Hp.cells) by rw [← hwq]; exact HR.out)
      rw [hwq]
      have HWQ := Lib.hid hwq
      clear hwq
      obtain ⟨b, off, rfl, hbB, _, q66, _⟩ := hop_at HRq.out HOK.out hlt
      have h1 := HD.out k hk
      have h2 := HBB.out k (by rw [HL.out]; exact hlt)
      have h3 := HS.out k
      generalize (hat hs k).dl = dl at *
      obtain ⟨s, hs'⟩ : ∃ s, f k = s := ⟨_, rfl⟩
      rw [hs'] at h1 h3 ⊢
      have H3 := Lib.hid h3
      obtain ⟨h1a, h1b⟩ := h1
      obtain ⟨h2a, h2b⟩ := h2
      have h1c : s ≤ 5000000 := by omega
      have u1 : IntKind.i64.wrap (s + dl) = s + dl := by rw [IntKind.wrap_i64]; omega
      clear hs' h3 h1b
      go_wp2_with fail
      exact ⟨⟨k + 1, by omega, by go_num, by rw [H3.out], md, by rw [← HWQ.out]⟩, by simp [intOf]; omega⟩
    · obtain rfl : k = n := by omega
      go_wp2_with fail
      go_ret
      exact ⟨rfl, md, rfl⟩
end Go.Proofs.Ytobmopjfbgkfbaa
