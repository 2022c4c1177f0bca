/-
  DERIVED. GIVEN WITH THE SEED: THE CARDS: each row of YtgmjpnnblhkbpaaDoorRows.lean that lists a variable, with what it lists TIED to the program's text (the seventh form; the later family's looks); each row that meets fmt, with fmt's text TOLD by the authors' own Lean function (tested against real Go, not proved from fmt's source: count such statements apart). THE CARD IS WHAT COUNTS. Prove the row's statement (the work); the ties are given (YtgmjpnnblhkbpaaDoorTie.lean); close each card by the builder's one call (the guide's Derived/Test/ToyasCard.lean, 'card_holds'). Laid BY PROGRAM, IN A SANDBOX (cutbox-door.mjs). By AI agents, Wed Nov 11 2026. No macro, syntax, notation, axiom, sorry.
-/
import Derived.Test.YtgmjpnnblhkbpaaDoorRows
import GoSem.ClaimSeven
namespace Go.Proofs.YtgmjpnnblhkbpaaDoor
namespace Rows

/-- THE TIED CARD OF 'shallottop.ShallotTexts'. -/
def shallotTextsCard : Claim7 := { stood := { row := shallotTextsRow, standIns := [], harness := (true, "1f03f32f93a7290b5c67bea803e7e2d11fc215f68d69798cbfc64e8ddc735cf6"), looks := false }, kinds := [], alts := [], laidByText := true, laidKinds := [.data, .data, .data], laidTests := true, laidLooks := .later }
def ShallotTextsCardSaid : Prop := Claim7.holds Tryd.pinned (.plain (OpenSpec.ofChange shallotTextsSpec)) shallotTextsCard

/-- THE SECOND FORM's CARD OF 'shallottop.ShallotTexts'. -/
def shallotTextsUptoCard : Claim7 := { stood := { row := shallotTextsUptoRow, standIns := [], harness := (true, "1f03f32f93a7290b5c67bea803e7e2d11fc215f68d69798cbfc64e8ddc735cf6"), looks := false }, kinds := [], alts := [], laidByText := true, laidKinds := [.data, .data, .data], laidTests := true, laidLooks := .later }
def ShallotTextsUptoCardSaid : Prop := Claim7.holds Tryd.pinned (.plain (OpenSpec.upto shallotTextsSpec)) shallotTextsUptoCard
end Rows
end Go.Proofs.YtgmjpnnblhkbpaaDoor
