/-
  A part among the arguments, by value. No statement of the seat is proved here.
-/
import Derived.Test.YtgdelilanackhaaParts
import Derived.Test.YtgdelilanackhaaOpenD
namespace Go.Proofs.Ytgdelilanackhaa
open Go Go.RowKit Go.Sh Go.ChangeShapes Go.WideShapes Go.ChangeAt

/-- bytes in a cell -/
theorem openBc {H : Type} {enc : TypeId × Value → H} {P : Program} {W : World} {fuel : Nat} {t e : TypeId} {v : Value} {y : DataW H × List MemPlace} (he : P.underlying t = some (.slice e)) (hu : P.underlying e = some (.int .u8)) (hcu : P.cellsOf e = 1)
    (hf : DataW.trod enc P W 0 (fun _ => true) true fuel t [v] = some y) :
    ∃ A n c l, v = .slice A n c ∧ RB W W.heap.size A n l ∧ n ≤ c ∧ HasLen y.1 n := by
  rcases open_ints he hu hcu hf with ⟨hcs, hx⟩ | ⟨x, l, cc, zs, hcs, _, hll, hmm, hz, hx, hcell, hwz⟩
  · obtain rfl : v = .slice none 0 0 := by simpa using hcs
    subst hx
    exact ⟨none, 0, 0, [], rfl, RB.none_, Nat.le_refl _, .inl ⟨rfl, rfl⟩⟩
  · obtain rfl : v = .slice (some x) l cc := by simpa using hcs
    subst hx
    simp only [if_true] at hz
    have hlen : (toB (zs.take l)).length = l := by simp [toB]; omega
    refine ⟨some x, l, cc, toB (zs.take l), rfl, ⟨by rw [length_bv, hlen]; omega, ?_⟩, hll, .inr ⟨_, _, rfl, by simp [lits]; omega⟩⟩
    rcases Nat.eq_zero_or_pos l with h0 | h0
    · left
      apply List.eq_nil_of_length_eq_zero
      rw [length_bv, hlen, h0]
    refine .inr ⟨x, rfl, ?_, fun j hj => ?_⟩
    · have := hcell 0 (by omega)
      have hb := World.block_lt_of_cell? W _ this
      rw [block_of_add] at hb
      exact hb
    · rw [length_bv, hlen] at hj
      rw [bv_at _ _ (by rw [hlen]; exact hj), hcell j (by omega), bt_toB _ _ (by rw [List.length_take]; omega) (fun q hq => hwz q (List.mem_of_mem_take hq))]
      congr 2
      simp [hj]

def HasPart {H : Type} (d : DataW H) (n : Nat) : Prop := ∃ d0 d1 d2 d3 d4, d = .agg [d0, d1, d2, d3, d4] ∧ HasLen d4 n
theorem cells47 : Try.prog.cellsOf 47 = 5 := by kernel_rfl
theorem openPartCs {H : Type} {enc : TypeId × Value → H} {W : World} {fuel : Nat} {cs : List Value} {y : DataW H × List MemPlace}
    (hf : DataW.trod enc Try.prog W 0 (fun _ => true) true fuel 47 cs = some y) :
    ∃ (p : Pt) (A : Option Addr) (n c : Nat), cs = pcell p (.slice A n c) ∧ p.OK ∧ RB W W.heap.size A n p.d ∧ n ≤ c ∧ HasPart y.1 n := by
  obtain ⟨ys, q', _, hag, hlen, hyl, hfield⟩ := DataW.trod_struct Try.underlying47 hf
  rw [cells47] at hlen
  have hys : ys.length = 5 := hyl
  match cs, hlen, ys, hys with
  | [v0, v1, v2, v3, v4], _, [y0, y1, y2, y3, y4], _ =>
    have t0 : DataW.trod enc Try.prog W 0 (fun _ => true) true q' 5 [v0] = some y0 := by
      have h := hfield 0 _ rfl
      simpa [show Try.prog.cellsOf 5 = 1 by kernel_rfl] using h
    have t1 : DataW.trod enc Try.prog W 0 (fun _ => true) true q' 22 [v1] = some y1 := by
      have h := hfield 1 _ rfl
      simpa [show Try.prog.cellsOf 22 = 1 by kernel_rfl] using h
    have t2 : DataW.trod enc Try.prog W 0 (fun _ => true) true q' 3 [v2] = some y2 := by
      have h := hfield 2 _ rfl
      simpa [show Try.prog.cellsOf 3 = 1 by kernel_rfl] using h
    have t3 : DataW.trod enc Try.prog W 0 (fun _ => true) true q' 3 [v3] = some y3 := by
      have h := hfield 3 _ rfl
      simpa [show Try.prog.cellsOf 3 = 1 by kernel_rfl] using h
    have t4 : DataW.trod enc Try.prog W 0 (fun _ => true) true q' 23 [v4] = some y4 := by
      have h := hfield 4 _ rfl
      simpa [show Try.prog.cellsOf 23 = 1 by kernel_rfl] using h
    obtain ⟨z0, e0, _, w0⟩ := DataW.trod_int Try.underlying5 t0
    obtain ⟨z1, e1, _, w1⟩ := DataW.trod_int Try.underlying22 t1
    obtain ⟨z2, e2, _, w2⟩ := DataW.trod_int Try.underlying3 t2
    obtain ⟨z3, e3, _, w3⟩ := DataW.trod_int Try.underlying3 t3
    obtain ⟨A, n, c, l, rfl, hr, hle, hl⟩ := openBc Try.underlying23 Try.underlying5 (by kernel_rfl) t4
    simp only [List.cons.injEq, and_true] at e0 e1 e2 e3
    subst e0 e1 e2 e3
    have b0 := bounds_u8 w0
    have b1 := bounds_u64 w1
    subst hag
    have q0 : 0 ≤ z0 ∧ z0 < 256 := by omega
    have q1 : 0 ≤ z1 ∧ z1 < 18446744073709551616 := by omega
    exact ⟨⟨z0, z1, z2, z3, l⟩, A, n, c, rfl, ⟨q0, q1, bounds_i64 w2, bounds_i64 w3⟩, hr, hle, _, _, _, _, _, rfl, hl⟩
theorem openPart {H : Type} {enc : TypeId × Value → H} {W : World} {b0 : Nat} {r : Reach} {v : Value} {d : DataW H} {p : List MemPlace}
    (hok : Value.okWide Try.prog W r b0 47 v) (h : DataW.Trod enc Try.prog W 0 (fun _ => true) true 47 v d p) :
    ∃ (q : Pt) (A : Option Addr) (n c : Nat), v = .agg #[.int .u8 q.k, .int .u64 q.id, .int .i64 q.ix, .int .i64 q.ct, .slice A n c] ∧ q.OK ∧ RB W W.heap.size A n q.d ∧ n ≤ c ∧ HasPart d n := by
  obtain ⟨cs, rfl, hsz, _⟩ : ∃ cs, v = .agg cs ∧ cs.size = Try.prog.cellsOf 47 ∧ Row.okWide Try.prog W r b0 47 cs := by
    simpa [Value.okWide, Try.underlying47] using hok
  obtain ⟨fuel, hf⟩ := h
  obtain ⟨q, A, n, c, e, h1, h2, h3, h4⟩ := openPartCs hf
  refine ⟨q, A, n, c, ?_, h1, h2, h3, h4⟩
  have e' : cs.toList = pcell q (.slice A n c) := by simpa [Value.cells] using e
  have : cs = (pcell q (.slice A n c)).toArray := by rw [← e']
  rw [this]
  rfl
theorem sizedPart {H : Type} {ts : List TypeId} {ds : List (DataW H)} (hsz : ((DataW.weightsEach Try.prog ts ds).all fun x => decide (x ≤ reachBytes)) = true) {j : Nat} {d : DataW H} {n : Nat}
    (h1 : ts[j]? = some 47) (h2 : ds[j]? = some d) (hd : HasPart d n) : n ≤ 140737488351232 := by
  obtain ⟨d0, d1, d2, d3, d4, rfl, hl⟩ := hd
  rcases hl with ⟨_, rfl⟩ | ⟨es, sp, rfl, hl⟩
  · omega
  · have hmem : (es.length + sp.length) * Try.prog.bytesOf 5 ∈ DataW.weightsEach Try.prog ts ds := by
      refine DataW.weights_mem_each h1 h2 _ ?_
      rw [DataW.weights, Try.underlying47]
      refine DataW.weights_mem_each (j := 4) (t := 23) rfl rfl _ ?_
      simp [DataW.weights, Try.underlying23]
    have := of_decide_eq_true (List.all_eq_true.1 hsz _ hmem)
    rw [show Try.prog.bytesOf 5 = 1 by kernel_rfl] at this
    simp only [reachBytes] at this
    omega
end Go.Proofs.Ytgdelilanackhaa
