/-
  Arguments of a law, opened into the words of YtbmcbalofoledaaWords: a []byte argument reads as a list of bytes. Over any program; no statement of the seat is proved here.
-/
import Derived.Test.YtbmcbalofoledaaWords
import Derived.ProofKit
import Derived.OpenShut
import Derived.ShutString
import Derived.ChangeOld
import Derived.SizedLaws
import Derived.Deep.Slices
namespace Go.Sh
open Go Go.RowKit Go.ChangeShapes Go.WideShapes Go.ChangeAt

/-- what the datum of a slice says of its length -/
def HasLen {H : Type} (d : DataW H) (n : Nat) : Prop := (d = .nil ∧ n = 0) ∨ ∃ es sp, d = .slice es sp ∧ es.length = n

/-- numbers that fit a byte, as bytes -/
def toB (zs : List Int) : List UInt8 := zs.map fun z => UInt8.ofNat z.toNat
theorem bt_toB (zs : List Int) (k : Nat) (hk : k < zs.length) (h : ∀ n ∈ zs, (Lit.int .u8 n).wf = true) : bt (toB zs) k = zs.getD k 0 := by
  have hm : zs[k] ∈ zs := List.getElem_mem hk
  have hw := h _ hm
  have hb : 0 ≤ zs[k] ∧ zs[k] ≤ 255 := by
    simp [Lit.wf, IntKind.min, IntKind.max, IntKind.signed, IntKind.bits] at hw
    omega
  have e1 : (toB zs).getD k 0 = UInt8.ofNat zs[k].toNat := by simp [toB, hk]
  have e2 : zs.getD k 0 = zs[k] := by simp [hk]
  unfold bt
  rw [e1, e2]
  simp
  omega

theorem openB {H : Type} {enc : TypeId × Value → H} {P : Program} {W : World} {b0 : Nat} {r : Reach} {t e : TypeId} {v : Value} {d : DataW H} {p : List MemPlace} (ht : P.underlying t = some (.slice e)) (he : P.underlying e = some (.int .u8)) (hc : P.cellsOf e = 1)
    (hok : Value.okWide P W r b0 t v) (h : DataW.Trod enc P W 0 (fun _ => true) true t v d p) :
    ∃ A n c l, v = .slice A n c ∧ RB W W.heap.size A n l ∧ n ≤ c ∧ HasLen d n := by
  obtain ⟨A, n, c, rfl⟩ := okWide_slice ht hok
  obtain ⟨fuel, hf⟩ := h
  rcases open_ints ht he hc hf with ⟨hcs, hx⟩ | ⟨x, n', c', zs, hcs, _, hl, hm, hz, hx, hcell, hwz⟩
  · simp [Value.cells] at hcs
    obtain ⟨rfl, rfl, rfl⟩ := hcs
    injection hx with hd _
    exact ⟨none, 0, 0, [], rfl, RB.none_, Nat.le_refl _, .inl ⟨hd, rfl⟩⟩
  · simp [Value.cells] at hcs
    obtain ⟨rfl, rfl, rfl⟩ := hcs
    injection hx with hd _
    simp only [if_true] at hz
    refine ⟨some x, n, c, toB (zs.take n), rfl, ?_, hl, .inr ⟨_, _, hd, ?_⟩⟩
    · have hlen : (toB (zs.take n)).length = n := by simp [toB]; omega
      refine ⟨by rw [length_bv, hlen]; omega, fun h0 => ⟨x, rfl, ?_, fun j u hu => ?_⟩⟩
      · have := hcell 0 (by omega)
        have hb := World.block_lt_of_cell? W _ this
        rw [block_of_add] at hb
        exact hb
      · have hj : j < n := by
          have := (List.getElem?_eq_some_iff.1 hu).1
          rw [length_bv, hlen] at this
          exact this
        rw [bv_at _ _ (by rw [hlen]; exact hj)] at hu
        obtain rfl := Option.some.inj hu
        rw [hcell j (by omega), bt_toB _ _ (by rw [List.length_take]; omega) (fun q hq => hwz q (List.mem_of_mem_take hq))]
        congr 2
        simp [hj]
    · simp [lits]; omega

theorem sizedLen {H : Type} {P : Program} {ts : List TypeId} {ds : List (DataW H)} (hsz : ((DataW.weightsEach P ts ds).all fun x => decide (x ≤ reachBytes)) = true) {j : Nat} {t e : TypeId} {d : DataW H} {n : Nat}
    (h1 : ts[j]? = some t) (h2 : ds[j]? = some d) (ht : P.underlying t = some (.slice e)) (hb : 1 ≤ P.bytesOf e) (hd : HasLen d n) : n ≤ 140737488351232 := by
  rcases hd with ⟨_, rfl⟩ | ⟨es, sp, rfl, hl⟩
  · omega
  · have := sized_slice hsz h1 h2 ht
    have h3 : (es.length + sp.length) * 1 ≤ (es.length + sp.length) * P.bytesOf e := Nat.mul_le_mul_left _ hb
    simp only [reachBytes] at this
    omega
end Go.Sh
