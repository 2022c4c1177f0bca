/-
  Contracts of dir.named and dir.At: the first node with a name or a number. Conditions: the fields fit their types; the sizes that slices can have.
-/
import Derived.Test.YtkmcjjoicpgjfaaDoorDirCheck
import Derived.Test.YtkmcjjoicpgjfaaDoorHops
namespace Go.Proofs.YtkmcjjoicpgjfaaDoor
open Go Go.RowKit Go.Sh

set_option maxRecDepth 100000 in
theorem results_ct {fn : Func} {t u : Tmp} {ty : TypeId} (h : fn.results = #[.cell t ty, .tmp u]) (ts : Array Value) (P : Program) (w : World) (ad : Addr) (v : Value) (h2 : ts.getD t undef = .pointer (some ad)) (h3 : (loadVar ty ad).run P w = .ok v w) :
    (results fn ts).run P w = .ok (.tuple #[v, ts.getD u undef]) w := by
  have h2' : ts[t]?.getD undef = .pointer (some ad) := by simpa using h2
  simp [results, h, h2', asAddr, h3]
set_option maxRecDepth 100000 in
theorem info_node : (Tryd.prog.info? 149).map (·.size) = some 66 := by kernel_rfl
theorem Hp.node_one {h : Hp} (ok : h.OK) : ∀ v ∈ h.node, v.oneCell' = true := by
  intro v hv
  simp only [Hp.node, List.mem_cons] at hv
  rcases hv with rfl | rfl | hv
  · rfl
  · rfl
  · exact ok.o v hv
/-- the first node that has the property, or none -/
def NodePost (w : World) (ns : List Hp) (Pr : Hp → Prop) (e : Ending) (w' : World) : Prop :=
  Below w.heap.size w w' ∧ ((∃ k, k < ns.length ∧ Pr (hat ns k) ∧ (∀ j, j < k → ¬ Pr (hat ns j)) ∧ e = .returned (.tuple #[.agg (hat ns k).node.toArray, .int .i64 0])) ∨ ((∀ j, j < ns.length → ¬ Pr (hat ns j)) ∧ e = .returned (.tuple #[.agg zHop.node.toArray, .int .i64 4])))

end Go.Proofs.YtkmcjjoicpgjfaaDoor
