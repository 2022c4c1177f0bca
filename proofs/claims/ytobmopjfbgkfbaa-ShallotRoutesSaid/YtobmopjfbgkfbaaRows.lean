/-
  No cell of these rows narrows 'for every input' (looked for: loops, veiled, ifaces, maps, wideKeys, modest, calm, conditions, laid).
  DERIVED. THE GIVEN ROWS OF THIS SEAT. 5 by the template 'for every input the law returns true; each argument reads behind the call as it read before'; 0 by the template 'total and deterministic' (their statements: YtobmopjfbgkfbaaTotals.lean).
  GIVEN WITH THE SEED: the statements are not yours to turn. If you find one false, say at which input.
  Laid BY PROGRAM, IN A SANDBOX (cutbox-rows.mjs): the forced cells as the released guide's own fill.sh prints them over the translation ced287bbf559d4ff… (all of the seat's roots in one cut). By AI agents, Wed Nov 11 2026. No macro, syntax, notation, axiom, sorry.
-/
import Derived.Test.YtobmopjfbgkfbaaChecked
import GoSem.Claim
import GoSem.ClaimJoined
import GoSem.ClaimMapViews
import Derived.JoinedTies
import Derived.KernelRfl
namespace Go.Proofs.Ytobmopjfbgkfbaa
/- THE CELL 'sum', in the pinned program and in every row, IS THE sha256 OF THE DUMP (.gsa) THAT YtobmopjfbgkfbaaProg.lean LOADS. Nothing in Lean hashes anything: it is a label: what it is worth is what the hold of that sum in a sandbox is worth. -/
noncomputable def Try.pinned : Pinned := { name := "ytobmopjfbgkfbaa", sum := "ced287bbf559d4ff384270dba156f17d2174eac18d43f537158b4dc077e6f5ac", checked := Try.checked }
namespace Rows
def none {H : Type} : Left H := { results := [], args := [] }

/-- 'shallottop.ShallotBytes': WHATEVER THE INPUT: true; the input reads as it did. -/
def shallotBytesSpec : ChangeSpec := { name := "shallotBytes", fn := fun _ => fun
  | [d1, d2] => { results := [.lit (.bool true)], args := [d1, d2] }
  | _ => none }
def shallotBytesRow : OpenClaim := { program := "ytobmopjfbgkfbaa", sum := "ced287bbf559d4ff384270dba156f17d2174eac18d43f537158b4dc077e6f5ac", func := "shallot/shallottop.ShallotBytes", spec := "shallotBytes", apart := false }
def ShallotBytesSaid : Prop := shallotBytesRow.holds Try.pinned (OpenSpec.ofChange shallotBytesSpec)

/-- ITS FALSE NEIGHBOUR: 'it returns false'. Refute it at one input. -/
def shallotBytesWrong : ChangeSpec := { name := "shallotBytes", fn := fun _ => fun
  | [d1, d2] => { results := [.lit (.bool false)], args := [d1, d2] }
  | _ => none }
def ShallotBytesWrongFalsely : Prop := shallotBytesRow.holds Try.pinned (OpenSpec.ofChange shallotBytesWrong)

/-- 'shallottop.ShallotParts': WHATEVER THE INPUT: true; the input reads as it did. -/
def shallotPartsSpec : ChangeSpec := { name := "shallotParts", fn := fun _ => fun
  | [d1, d2, d3] => { results := [.lit (.bool true)], args := [d1, d2, d3] }
  | _ => none }
def shallotPartsRow : OpenClaim := { program := "ytobmopjfbgkfbaa", sum := "ced287bbf559d4ff384270dba156f17d2174eac18d43f537158b4dc077e6f5ac", func := "shallot/shallottop.ShallotParts", spec := "shallotParts", apart := false }
def ShallotPartsSaid : Prop := shallotPartsRow.holds Try.pinned (OpenSpec.ofChange shallotPartsSpec)

/-- ITS FALSE NEIGHBOUR: 'it returns false'. Refute it at one input. -/
def shallotPartsWrong : ChangeSpec := { name := "shallotParts", fn := fun _ => fun
  | [d1, d2, d3] => { results := [.lit (.bool false)], args := [d1, d2, d3] }
  | _ => none }
def ShallotPartsWrongFalsely : Prop := shallotPartsRow.holds Try.pinned (OpenSpec.ofChange shallotPartsWrong)

/-- 'shallotlaw10.CommandPaths': WHATEVER THE INPUT: true; the input reads as it did. -/
def commandPathsSpec : ChangeSpec := { name := "commandPaths", fn := fun _ => fun
  | [d1, d2] => { results := [.lit (.bool true)], args := [d1, d2] }
  | _ => none }
def commandPathsRow : OpenClaim := { program := "ytobmopjfbgkfbaa", sum := "ced287bbf559d4ff384270dba156f17d2174eac18d43f537158b4dc077e6f5ac", func := "shallot/shallotlaw10.CommandPaths", spec := "commandPaths", apart := false }
def CommandPathsSaid : Prop := commandPathsRow.holds Try.pinned (OpenSpec.ofChange commandPathsSpec)

/-- ITS FALSE NEIGHBOUR: 'it returns false'. Refute it at one input. -/
def commandPathsWrong : ChangeSpec := { name := "commandPaths", fn := fun _ => fun
  | [d1, d2] => { results := [.lit (.bool false)], args := [d1, d2] }
  | _ => none }
def CommandPathsWrongFalsely : Prop := commandPathsRow.holds Try.pinned (OpenSpec.ofChange commandPathsWrong)

/-- 'shallotlaw01.CodecKeeps': WHATEVER THE INPUT: true; the input reads as it did. -/
def codecKeepsSpec : ChangeSpec := { name := "codecKeeps", fn := fun _ => fun
  | [d1, d2] => { results := [.lit (.bool true)], args := [d1, d2] }
  | _ => none }
def codecKeepsRow : OpenClaim := { program := "ytobmopjfbgkfbaa", sum := "ced287bbf559d4ff384270dba156f17d2174eac18d43f537158b4dc077e6f5ac", func := "shallot/shallotlaw01.CodecKeeps", spec := "codecKeeps", apart := false }
def CodecKeepsSaid : Prop := codecKeepsRow.holds Try.pinned (OpenSpec.ofChange codecKeepsSpec)

/-- ITS FALSE NEIGHBOUR: 'it returns false'. Refute it at one input. -/
def codecKeepsWrong : ChangeSpec := { name := "codecKeeps", fn := fun _ => fun
  | [d1, d2] => { results := [.lit (.bool false)], args := [d1, d2] }
  | _ => none }
def CodecKeepsWrongFalsely : Prop := codecKeepsRow.holds Try.pinned (OpenSpec.ofChange codecKeepsWrong)

/-- 'shallottop.ShallotRoutes': WHATEVER THE INPUT: true; the input reads as it did. -/
def shallotRoutesSpec : ChangeSpec := { name := "shallotRoutes", fn := fun _ => fun
  | [d1, d2, d3] => { results := [.lit (.bool true)], args := [d1, d2, d3] }
  | _ => none }
def shallotRoutesRow : OpenClaim := { program := "ytobmopjfbgkfbaa", sum := "ced287bbf559d4ff384270dba156f17d2174eac18d43f537158b4dc077e6f5ac", func := "shallot/shallottop.ShallotRoutes", spec := "shallotRoutes", apart := false }
def ShallotRoutesSaid : Prop := shallotRoutesRow.holds Try.pinned (OpenSpec.ofChange shallotRoutesSpec)

/-- ITS FALSE NEIGHBOUR: 'it returns false'. Refute it at one input. -/
def shallotRoutesWrong : ChangeSpec := { name := "shallotRoutes", fn := fun _ => fun
  | [d1, d2, d3] => { results := [.lit (.bool false)], args := [d1, d2, d3] }
  | _ => none }
def ShallotRoutesWrongFalsely : Prop := shallotRoutesRow.holds Try.pinned (OpenSpec.ofChange shallotRoutesWrong)

/- THE SECOND FORM. 'bulk': how many values and letters a reading holds, each counted each time it is reached (what is shared counts as often as it is met; a slice's spare places count too). A statement '..UptoSaid' is the law's where the arguments, and the package variables that the reading takes, are together of bulk at most 1048576: NARROWER than '..Said'. Prove '..Said' where nothing that the law and all that it calls make is longer than what came in: it says more and counts as full. Else prove '..UptoSaid'. A law counts once. -/
mutual
def uptoBulk {H : Type} : DataW H → Nat
  | .lit (.string bytes) => bytes.length + 1
  | .lit _ => 1
  | .nil => 1
  | .ptr d => uptoBulk d + 1
  | .slice elems spare => uptoBulkAll elems + uptoBulkAll spare + 1
  | .agg parts => uptoBulkAll parts + 1
  | .iface _ d => uptoBulk d + 1
  | .map entries => uptoBulkEntries entries + 1
  | .held _ => 1
def uptoBulkAll {H : Type} : List (DataW H) → Nat
  | [] => 0
  | d :: r => uptoBulk d + uptoBulkAll r
def uptoBulkEntries {H : Type} : List (Lit × DataW H) → Nat
  | [] => 0
  | x :: r => uptoBulkEntry x + uptoBulkEntries r
def uptoBulkEntry {H : Type} : Lit × DataW H → Nat
  | (.string bytes, d) => bytes.length + uptoBulk d + 1
  | (_, d) => uptoBulk d + 1
 end
def uptoSmall : (H : Type) → List (DataW H) → Bool := fun _ ds => decide (uptoBulkAll ds ≤ 1048576)
def OpenSpec.upto (s : _root_.Go.ChangeSpec) : _root_.Go.OpenSpec := { _root_.Go.OpenSpec.ofChange s with cond := some uptoSmall }

/-- 'shallottop.ShallotBytes', WHERE WHAT IT READS IS OF BULK AT MOST 1048576: true; the input reads as it did. -/
def shallotBytesUptoRow : OpenClaim := { program := "ytobmopjfbgkfbaa", sum := "ced287bbf559d4ff384270dba156f17d2174eac18d43f537158b4dc077e6f5ac", func := "shallot/shallottop.ShallotBytes", spec := "shallotBytes", apart := false, narrowed := true }
def ShallotBytesUptoSaid : Prop := shallotBytesUptoRow.holds Try.pinned (OpenSpec.upto shallotBytesSpec)

/-- 'shallottop.ShallotParts', WHERE WHAT IT READS IS OF BULK AT MOST 1048576: true; the input reads as it did. -/
def shallotPartsUptoRow : OpenClaim := { program := "ytobmopjfbgkfbaa", sum := "ced287bbf559d4ff384270dba156f17d2174eac18d43f537158b4dc077e6f5ac", func := "shallot/shallottop.ShallotParts", spec := "shallotParts", apart := false, narrowed := true }
def ShallotPartsUptoSaid : Prop := shallotPartsUptoRow.holds Try.pinned (OpenSpec.upto shallotPartsSpec)

/-- 'shallotlaw10.CommandPaths', WHERE WHAT IT READS IS OF BULK AT MOST 1048576: true; the input reads as it did. -/
def commandPathsUptoRow : OpenClaim := { program := "ytobmopjfbgkfbaa", sum := "ced287bbf559d4ff384270dba156f17d2174eac18d43f537158b4dc077e6f5ac", func := "shallot/shallotlaw10.CommandPaths", spec := "commandPaths", apart := false, narrowed := true }
def CommandPathsUptoSaid : Prop := commandPathsUptoRow.holds Try.pinned (OpenSpec.upto commandPathsSpec)

/-- 'shallotlaw01.CodecKeeps', WHERE WHAT IT READS IS OF BULK AT MOST 1048576: true; the input reads as it did. -/
def codecKeepsUptoRow : OpenClaim := { program := "ytobmopjfbgkfbaa", sum := "ced287bbf559d4ff384270dba156f17d2174eac18d43f537158b4dc077e6f5ac", func := "shallot/shallotlaw01.CodecKeeps", spec := "codecKeeps", apart := false, narrowed := true }
def CodecKeepsUptoSaid : Prop := codecKeepsUptoRow.holds Try.pinned (OpenSpec.upto codecKeepsSpec)

/-- 'shallottop.ShallotRoutes', WHERE WHAT IT READS IS OF BULK AT MOST 1048576: true; the input reads as it did. -/
def shallotRoutesUptoRow : OpenClaim := { program := "ytobmopjfbgkfbaa", sum := "ced287bbf559d4ff384270dba156f17d2174eac18d43f537158b4dc077e6f5ac", func := "shallot/shallottop.ShallotRoutes", spec := "shallotRoutes", apart := false, narrowed := true }
def ShallotRoutesUptoSaid : Prop := shallotRoutesUptoRow.holds Try.pinned (OpenSpec.upto shallotRoutesSpec)

end Rows
end Go.Proofs.Ytobmopjfbgkfbaa
