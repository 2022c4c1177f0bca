/-
  '==' on arrays and structs of integers, as one equation of the run. Over any program; no statement of the seat is proved here.
-/
import Derived.DeepKeys
import Derived.WalkKit
namespace Go.Sh
open Go Go.RowKit

/-- '==' at a type of plain keys (integers, arrays and structs of such) tells whether the cells are equal -/
theorem equalIn_keys {P : Program} {t : TypeId} {m : Nat} (hk : P.keyTypeAt m t = true) (d : Nat) (hm : m ≤ d) {x y : Value} {D D' : Nat} {lx ly : List Lit} (fx : x.formed P t = true) (fy : y.formed P t = true)
    (hx : P.keyLits D t x.cells.toList = some lx) (hy : P.keyLits D' t y.cells.toList = some ly) (b : Bool) (hb : b = true ↔ lx = ly) (w : World) : (Op.equalIn d t x y).run P w = .ok b w := by
  obtain ⟨r, hr, hiff⟩ := run_equalIn_deep (d - m) m t hk w _ _ x y lx ly fx fy hx hy
  rw [show d - m + m = d by omega] at hr
  rw [hr]
  congr 1
  rw [Bool.eq_iff_iff, hiff, hb]
end Go.Sh
