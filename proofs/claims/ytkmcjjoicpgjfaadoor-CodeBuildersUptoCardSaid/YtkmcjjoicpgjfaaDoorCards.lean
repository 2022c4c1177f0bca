/-
  DERIVED. GIVEN WITH THE SEED: THE CARDS: each row of YtkmcjjoicpgjfaaDoorRows.lean that lists a variable, with what it lists TIED to the program's text (the seventh form; the later family's looks); each row that meets fmt, with fmt's text TOLD by the authors' own Lean function (tested against real Go, not proved from fmt's source: count such statements apart). THE CARD IS WHAT COUNTS. Prove the row's statement (the work); the ties are given (YtkmcjjoicpgjfaaDoorTie.lean); close each card by the builder's one call (the guide's Derived/Test/ToyasCard.lean, 'card_holds'). Laid BY PROGRAM, IN A SANDBOX (cutbox-door.mjs). By AI agents, Wed Nov 11 2026. No macro, syntax, notation, axiom, sorry.
-/
import Derived.Test.YtkmcjjoicpgjfaaDoorRows
import GoSem.ClaimSeven
namespace Go.Proofs.YtkmcjjoicpgjfaaDoor
namespace Rows

/-- THE TIED CARD OF 'shallotlaw18.CodeLines'. -/
def codeLinesCard : Claim7 := { stood := { row := codeLinesRow, standIns := [], harness := (true, "f52690dc6baa7d96c89c525958aa682f40c248aafde002f57c08bb6b455e9f3a"), looks := false }, kinds := [], alts := [], laidByText := true, laidKinds := [.data, .data, .data], laidTests := true, laidLooks := .later }
def CodeLinesCardSaid : Prop := Claim7.holds Tryd.pinned (.plain (OpenSpec.ofChange codeLinesSpec)) codeLinesCard

/-- THE TIED CARD OF 'shallotlaw18.CodeBuilders'. -/
def codeBuildersCard : Claim7 := { stood := { row := codeBuildersRow, standIns := [], harness := (true, "f52690dc6baa7d96c89c525958aa682f40c248aafde002f57c08bb6b455e9f3a"), looks := false }, kinds := [], alts := [], laidByText := true, laidKinds := [.data, .data, .data], laidTests := true, laidLooks := .later }
def CodeBuildersCardSaid : Prop := Claim7.holds Tryd.pinned (.plain (OpenSpec.ofChange codeBuildersSpec)) codeBuildersCard

/-- THE TIED CARD OF 'shallotlaw18.CodeDecodes'. -/
def codeDecodesCard : Claim7 := { stood := { row := codeDecodesRow, standIns := [], harness := (true, "f52690dc6baa7d96c89c525958aa682f40c248aafde002f57c08bb6b455e9f3a"), looks := false }, kinds := [], alts := [], laidByText := true, laidKinds := [.data, .data, .data], laidTests := true, laidLooks := .later }
def CodeDecodesCardSaid : Prop := Claim7.holds Tryd.pinned (.plain (OpenSpec.ofChange codeDecodesSpec)) codeDecodesCard

/-- THE TIED CARD OF 'shallotlaw18.CodeKeeps'. -/
def codeKeepsCard : Claim7 := { stood := { row := codeKeepsRow, standIns := [], harness := (true, "f52690dc6baa7d96c89c525958aa682f40c248aafde002f57c08bb6b455e9f3a"), looks := false }, kinds := [], alts := [], laidByText := true, laidKinds := [.data, .data, .data], laidTests := true, laidLooks := .later }
def CodeKeepsCardSaid : Prop := Claim7.holds Tryd.pinned (.plain (OpenSpec.ofChange codeKeepsSpec)) codeKeepsCard

/-- THE SECOND FORM's CARD OF 'shallotlaw18.CodeLines'. -/
def codeLinesUptoCard : Claim7 := { stood := { row := codeLinesUptoRow, standIns := [], harness := (true, "f52690dc6baa7d96c89c525958aa682f40c248aafde002f57c08bb6b455e9f3a"), looks := false }, kinds := [], alts := [], laidByText := true, laidKinds := [.data, .data, .data], laidTests := true, laidLooks := .later }
def CodeLinesUptoCardSaid : Prop := Claim7.holds Tryd.pinned (.plain (OpenSpec.upto codeLinesSpec)) codeLinesUptoCard

/-- THE SECOND FORM's CARD OF 'shallotlaw18.CodeBuilders'. -/
def codeBuildersUptoCard : Claim7 := { stood := { row := codeBuildersUptoRow, standIns := [], harness := (true, "f52690dc6baa7d96c89c525958aa682f40c248aafde002f57c08bb6b455e9f3a"), looks := false }, kinds := [], alts := [], laidByText := true, laidKinds := [.data, .data, .data], laidTests := true, laidLooks := .later }
def CodeBuildersUptoCardSaid : Prop := Claim7.holds Tryd.pinned (.plain (OpenSpec.upto codeBuildersSpec)) codeBuildersUptoCard

/-- THE SECOND FORM's CARD OF 'shallotlaw18.CodeDecodes'. -/
def codeDecodesUptoCard : Claim7 := { stood := { row := codeDecodesUptoRow, standIns := [], harness := (true, "f52690dc6baa7d96c89c525958aa682f40c248aafde002f57c08bb6b455e9f3a"), looks := false }, kinds := [], alts := [], laidByText := true, laidKinds := [.data, .data, .data], laidTests := true, laidLooks := .later }
def CodeDecodesUptoCardSaid : Prop := Claim7.holds Tryd.pinned (.plain (OpenSpec.upto codeDecodesSpec)) codeDecodesUptoCard

/-- THE SECOND FORM's CARD OF 'shallotlaw18.CodeKeeps'. -/
def codeKeepsUptoCard : Claim7 := { stood := { row := codeKeepsUptoRow, standIns := [], harness := (true, "f52690dc6baa7d96c89c525958aa682f40c248aafde002f57c08bb6b455e9f3a"), looks := false }, kinds := [], alts := [], laidByText := true, laidKinds := [.data, .data, .data], laidTests := true, laidLooks := .later }
def CodeKeepsUptoCardSaid : Prop := Claim7.holds Tryd.pinned (.plain (OpenSpec.upto codeKeepsSpec)) codeKeepsUptoCard
end Rows
end Go.Proofs.YtkmcjjoicpgjfaaDoor
