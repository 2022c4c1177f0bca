/-
  Contracts of command.Told.Last, command.Told.Wait and command.Tell. Conditions: the fields fit their types; the size that a slice can have.
-/
import Derived.Test.YtkmcjjoicpgjfaaDoorCmdRows
namespace Go.Proofs.YtkmcjjoicpgjfaaDoor
open Go Go.RowKit Go.Sh

theorem told_new (w : World) (c : Cmd) (t : TypeId) : (w.alloc (.cells c.cells.toArray t)).cell? ⟨w.heap.size, 0, none⟩ = some (.int .u8 c.k) ∧ (w.alloc (.cells c.cells.toArray t)).cell? ⟨w.heap.size, 2, none⟩ = some (.int .u32 c.d) :=
  ⟨(cmd_new w c t).k, (cmd_new w c t).d⟩
/-- the row of Tell when k of the n have been put -/
def tellTo (cl : List Cmd) (n k : Nat) : List Cmd := cl.take k ++ List.replicate (n - k) zeroC
theorem tellTo_ok {cl : List Cmd} (h : ∀ c ∈ cl, c.OK) (n k : Nat) : ∀ c ∈ tellTo cl n k, c.OK := by
  intro c hc
  rcases List.mem_append.1 hc with h1 | h1
  · exact h c (List.mem_of_mem_take h1)
  · rw [List.eq_of_mem_replicate h1]; exact zeroC_ok
theorem made_cmds (n : Nat) : (madeCells zeroC.v.cells (n * 20)).toList = cmdsV (List.replicate n zeroC) := by
  have hok : ∀ c ∈ List.replicate n zeroC, c.OK := fun c hc => by rw [List.eq_of_mem_replicate hc]; exact zeroC_ok
  have hz : zeroC.v.cells = zeroC.cells.toArray := rfl
  apply List.ext_getElem?
  intro j
  by_cases hj : j < n * 20
  · obtain ⟨v, hv⟩ : ∃ v, zeroC.cells[j % 20]? = some v := ⟨_, List.getElem?_eq_getElem (by rw [zeroC_ok.size]; omega)⟩
    have e1 := cmdsV_at (List.replicate n zeroC) hok (j / 20) zeroC (by rw [List.getElem?_replicate, if_pos (by omega)]) (j % 20) v hv
    rw [show j / 20 * 20 + j % 20 = j by omega] at e1
    rw [e1]
    have hs : zeroC.cells.toArray.size = 20 := cmd_size zeroC_ok
    simp only [madeCells, hz, hs, Array.toList_map, Array.toList_range, List.getElem?_map, List.getElem?_range hj, Option.map_some]
    rw [Array.getElem!_eq_getD, Array.getD_eq_getD_getElem?, List.getElem?_toArray, hv]
    rfl
  · rw [List.getElem?_eq_none (by rw [Array.length_toList, size_madeCells]; omega), List.getElem?_eq_none (by rw [length_cmdsV _ hok, List.length_replicate]; omega)]
/-- one more is put -/
theorem tell_put {cl : List Cmd} {n k : Nat} {c : Cmd} (h : ∀ c ∈ cl, c.OK) (hl : cl.length = n) (hc : cl[k]? = some c) :
    (cmdsV (tellTo cl n k)).take (k * 20) ++ c.cells ++ (cmdsV (tellTo cl n k)).drop (k * 20 + 20) = cmdsV (tellTo cl n (k + 1)) := by
  have hk : k < cl.length := (List.getElem?_eq_some_iff.1 hc).1
  have e : cl.take (k + 1) = cl.take k ++ [c] := by
    rw [List.take_succ_eq_append_getElem hk, (List.getElem?_eq_some_iff.1 hc).2]
  have hok1 : ∀ c ∈ cl.take k, c.OK := fun c hc => h c (List.mem_of_mem_take hc)
  have l1 : (cmdsV (cl.take k)).length = k * 20 := by rw [length_cmdsV _ hok1, List.length_take]; congr 1; omega
  have e2 : List.replicate (n - k) zeroC = zeroC :: List.replicate (n - (k + 1)) zeroC := by rw [show n - k = (n - (k + 1)) + 1 by omega, List.replicate_succ]
  unfold tellTo
  rw [e, cmdsV_append, cmdsV_append, cmdsV_append, e2, cmdsV_cons, List.take_left' l1]
  rw [← List.append_assoc (cmdsV (cl.take k)) zeroC.cells, List.drop_left' (by rw [List.length_append, l1, zeroC_ok.size])]
  simp [cmdsV]
theorem own_whole {w : World} {base e size g n : Nat} {xs : List Value} (h : w.ownsRow base e size (.slice (some ⟨g, 0, none⟩) n n) n xs) : w.heap[g]? = some (.cells xs.toArray e (0, 0)) := by
  rcases h.2 with ⟨h', _⟩ | ⟨g', cap, cur, h', _, hg, _, _, hs, ht⟩
  · cases h'
  · injection h' with h1 _ h2
    injection h1 with h1
    injection h1 with h1
    subst h1
    subst h2
    rw [hg, ← ht, List.take_of_length_le (by rw [Array.length_toList, hs]; exact Nat.le_refl _)]
set_option maxRecDepth 100000 in
theorem own_of_whole {w : World} {base e size g n : Nat} {xs : List Value} (h : w.heap[g]? = some (.cells xs.toArray e (0, 0))) (hl : xs.length = n * size) (hb : base ≤ g) (hn : n ≤ maxLen) : w.ownsRow base e size (.slice (some ⟨g, 0, none⟩) n n) n xs :=
  ⟨hl, .inr ⟨g, n, xs.toArray, rfl, hb, h, Nat.le_refl _, hn, by simpa using hl, by rw [← hl]; simp⟩⟩

/-- make of n commands -/
theorem wl_makeC {t e : TypeId} (T : STy Tryd.prog t e zeroC.v 20 32) {w : World} {ops : Array Oper} {rest : List Oper} {o : Oper} {a : Act} {Q : Exit → Act → World → Prop}
    (hw : Region.wanted o (yielded ops a.tmps) = true) (l c : Operand) (hop : o.op = Op.makeSlice t l c) (kl kc : IntKind) (L C : Int) (hl : a.eval l = .int kl L) (hc : a.eval c = .int kc C)
    (n : Nat) (hL : L = (n : Int)) (hC : C = (n : Int)) (b2 : n * 32 ≤ 281474976710656) (base : Nat) (b4 : base ≤ w.heap.size)
    (hK : ∀ w', w'.ownsRow base e 20 (.slice (some ⟨w.heap.size, 0, none⟩) n n) n (cmdsV (List.replicate n zeroC)) → w.grownBy w' none → w.heap.size < w'.heap.size → wpList Tryd.prog ops Q rest (a.put o.dst (.slice (some ⟨w.heap.size, 0, none⟩) n n)) w') :
    wpList Tryd.prog ops Q (o :: rest) a w :=
  wl_make T hw l c hop kl kc L C hl hc n hL hC (by omega) (by omega) base b4 fun w' h1 h2 h3 => hK w' (by rw [made_cmds] at h1; exact h1) h2 h3

end Go.Proofs.YtkmcjjoicpgjfaaDoor
