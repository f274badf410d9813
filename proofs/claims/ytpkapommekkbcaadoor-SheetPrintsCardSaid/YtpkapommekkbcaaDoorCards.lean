/-
  DERIVED. GIVEN WITH THE SEED: THE CARDS: each row of YtpkapommekkbcaaDoorRows.lean that lists a variable, with what it lists TIED to the program's text (the seventh form; the later family's looks); each row that meets fmt, with fmt's text TOLD by the authors' own Lean function (tested against real Go, not proved from fmt's source: count such statements apart). THE CARD IS WHAT COUNTS. Prove the row's statement (the work); the ties are given (YtpkapommekkbcaaDoorTie.lean); close each card by the builder's one call (the guide's Derived/Test/ToyasCard.lean, 'card_holds'). Laid BY PROGRAM, IN A SANDBOX (cutbox-door.mjs). By AI agents, Wed Nov 11 2026. No macro, syntax, notation, axiom, sorry.
-/
import Derived.Test.YtpkapommekkbcaaDoorRows
import GoSem.ClaimSeven
namespace Go.Proofs.YtpkapommekkbcaaDoor
namespace Rows

/-- THE TIED CARD OF 'topiarylaw03.SheetPrints'. -/
def sheetPrintsCard : Claim7 := { stood := { row := sheetPrintsRow, standIns := [], harness := (true, "564a803d83409ab7ecaf31256932c868c18b52727f23547081397b65eda189e8"), looks := false }, kinds := [], alts := [], laidByText := true, laidKinds := [.data, .data, .data], laidTests := true, laidLooks := .later }
def SheetPrintsCardSaid : Prop := Claim7.holds Tryd.pinned (.plain (OpenSpec.ofChange sheetPrintsSpec)) sheetPrintsCard

/-- THE SECOND FORM's CARD OF 'topiarylaw03.SheetPrints'. -/
def sheetPrintsUptoCard : Claim7 := { stood := { row := sheetPrintsUptoRow, standIns := [], harness := (true, "564a803d83409ab7ecaf31256932c868c18b52727f23547081397b65eda189e8"), looks := false }, kinds := [], alts := [], laidByText := true, laidKinds := [.data, .data, .data], laidTests := true, laidLooks := .later }
def SheetPrintsUptoCardSaid : Prop := Claim7.holds Tryd.pinned (.plain (OpenSpec.upto sheetPrintsSpec)) sheetPrintsUptoCard
end Rows
end Go.Proofs.YtpkapommekkbcaaDoor
