/-
  DERIVED. GIVEN WITH THE SEED: THE CARDS: each row of YtgcbnndbeoekgaaDoorRows.lean that lists a variable, with what it lists TIED to the program's text (the seventh form; the later family's looks); each row that meets fmt, with fmt's text TOLD by the authors' own Lean function (tested against real Go, not proved from fmt's source: count such statements apart). THE CARD IS WHAT COUNTS. Prove the row's statement (the work); the ties are given (YtgcbnndbeoekgaaDoorTie.lean); close each card by the builder's one call (the guide's Derived/Test/ToyasCard.lean, 'card_holds'). Laid BY PROGRAM, IN A SANDBOX (cutbox-door.mjs). By AI agents, Wed Nov 11 2026. No macro, syntax, notation, axiom, sorry.
-/
import Derived.Test.YtgcbnndbeoekgaaDoorRows
import GoSem.ClaimSeven
namespace Go.Proofs.YtgcbnndbeoekgaaDoor
namespace Rows

/-- THE TIED CARD OF 'topiarylaw15.UnifyRights'. -/
def unifyRightsCard : Claim7 := { stood := { row := unifyRightsRow, standIns := [], harness := (true, "b0d9cfdad5aef361cf89fb0443a34939ac291df95c06b08da7713b1971208b8e"), looks := false }, kinds := [], alts := [], laidByText := true, laidKinds := [.data, .data, .data], laidTests := true, laidLooks := .later }
def UnifyRightsCardSaid : Prop := Claim7.holds Tryd.pinned (.plain (OpenSpec.ofChange unifyRightsSpec)) unifyRightsCard

/-- THE TIED CARD OF 'topiarylaw15.UnifyBack'. -/
def unifyBackCard : Claim7 := { stood := { row := unifyBackRow, standIns := [], harness := (true, "b0d9cfdad5aef361cf89fb0443a34939ac291df95c06b08da7713b1971208b8e"), looks := false }, kinds := [], alts := [], laidByText := true, laidKinds := [.data, .data, .data], laidTests := true, laidLooks := .later }
def UnifyBackCardSaid : Prop := Claim7.holds Tryd.pinned (.plain (OpenSpec.ofChange unifyBackSpec)) unifyBackCard

/-- THE TIED CARD OF 'topiarylaw15.UnifyAlike'. -/
def unifyAlikeCard : Claim7 := { stood := { row := unifyAlikeRow, standIns := [], harness := (true, "b0d9cfdad5aef361cf89fb0443a34939ac291df95c06b08da7713b1971208b8e"), looks := false }, kinds := [], alts := [], laidByText := true, laidKinds := [.data, .data, .data], laidTests := true, laidLooks := .later }
def UnifyAlikeCardSaid : Prop := Claim7.holds Tryd.pinned (.plain (OpenSpec.ofChange unifyAlikeSpec)) unifyAlikeCard

/-- THE TIED CARD OF 'topiarylaw15.UnifyMost'. -/
def unifyMostCard : Claim7 := { stood := { row := unifyMostRow, standIns := [], harness := (true, "b0d9cfdad5aef361cf89fb0443a34939ac291df95c06b08da7713b1971208b8e"), looks := false }, kinds := [], alts := [], laidByText := true, laidKinds := [.data, .data, .data], laidTests := true, laidLooks := .later }
def UnifyMostCardSaid : Prop := Claim7.holds Tryd.pinned (.plain (OpenSpec.ofChange unifyMostSpec)) unifyMostCard

/-- THE TIED CARD OF 'topiarylaw15.UnifyTurned'. -/
def unifyTurnedCard : Claim7 := { stood := { row := unifyTurnedRow, standIns := [], harness := (true, "b0d9cfdad5aef361cf89fb0443a34939ac291df95c06b08da7713b1971208b8e"), looks := false }, kinds := [], alts := [], laidByText := true, laidKinds := [.data, .data, .data], laidTests := true, laidLooks := .later }
def UnifyTurnedCardSaid : Prop := Claim7.holds Tryd.pinned (.plain (OpenSpec.ofChange unifyTurnedSpec)) unifyTurnedCard

/-- THE TIED CARD OF 'topiarylaw15.UnifyFolds'. -/
def unifyFoldsCard : Claim7 := { stood := { row := unifyFoldsRow, standIns := [], harness := (true, "b0d9cfdad5aef361cf89fb0443a34939ac291df95c06b08da7713b1971208b8e"), looks := false }, kinds := [], alts := [], laidByText := true, laidKinds := [.data, .data, .data], laidTests := true, laidLooks := .later }
def UnifyFoldsCardSaid : Prop := Claim7.holds Tryd.pinned (.plain (OpenSpec.ofChange unifyFoldsSpec)) unifyFoldsCard

/-- THE SECOND FORM's CARD OF 'topiarylaw15.UnifyRights'. -/
def unifyRightsUptoCard : Claim7 := { stood := { row := unifyRightsUptoRow, standIns := [], harness := (true, "b0d9cfdad5aef361cf89fb0443a34939ac291df95c06b08da7713b1971208b8e"), looks := false }, kinds := [], alts := [], laidByText := true, laidKinds := [.data, .data, .data], laidTests := true, laidLooks := .later }
def UnifyRightsUptoCardSaid : Prop := Claim7.holds Tryd.pinned (.plain (OpenSpec.upto unifyRightsSpec)) unifyRightsUptoCard

/-- THE SECOND FORM's CARD OF 'topiarylaw15.UnifyBack'. -/
def unifyBackUptoCard : Claim7 := { stood := { row := unifyBackUptoRow, standIns := [], harness := (true, "b0d9cfdad5aef361cf89fb0443a34939ac291df95c06b08da7713b1971208b8e"), looks := false }, kinds := [], alts := [], laidByText := true, laidKinds := [.data, .data, .data], laidTests := true, laidLooks := .later }
def UnifyBackUptoCardSaid : Prop := Claim7.holds Tryd.pinned (.plain (OpenSpec.upto unifyBackSpec)) unifyBackUptoCard

/-- THE SECOND FORM's CARD OF 'topiarylaw15.UnifyAlike'. -/
def unifyAlikeUptoCard : Claim7 := { stood := { row := unifyAlikeUptoRow, standIns := [], harness := (true, "b0d9cfdad5aef361cf89fb0443a34939ac291df95c06b08da7713b1971208b8e"), looks := false }, kinds := [], alts := [], laidByText := true, laidKinds := [.data, .data, .data], laidTests := true, laidLooks := .later }
def UnifyAlikeUptoCardSaid : Prop := Claim7.holds Tryd.pinned (.plain (OpenSpec.upto unifyAlikeSpec)) unifyAlikeUptoCard

/-- THE SECOND FORM's CARD OF 'topiarylaw15.UnifyMost'. -/
def unifyMostUptoCard : Claim7 := { stood := { row := unifyMostUptoRow, standIns := [], harness := (true, "b0d9cfdad5aef361cf89fb0443a34939ac291df95c06b08da7713b1971208b8e"), looks := false }, kinds := [], alts := [], laidByText := true, laidKinds := [.data, .data, .data], laidTests := true, laidLooks := .later }
def UnifyMostUptoCardSaid : Prop := Claim7.holds Tryd.pinned (.plain (OpenSpec.upto unifyMostSpec)) unifyMostUptoCard

/-- THE SECOND FORM's CARD OF 'topiarylaw15.UnifyTurned'. -/
def unifyTurnedUptoCard : Claim7 := { stood := { row := unifyTurnedUptoRow, standIns := [], harness := (true, "b0d9cfdad5aef361cf89fb0443a34939ac291df95c06b08da7713b1971208b8e"), looks := false }, kinds := [], alts := [], laidByText := true, laidKinds := [.data, .data, .data], laidTests := true, laidLooks := .later }
def UnifyTurnedUptoCardSaid : Prop := Claim7.holds Tryd.pinned (.plain (OpenSpec.upto unifyTurnedSpec)) unifyTurnedUptoCard

/-- THE SECOND FORM's CARD OF 'topiarylaw15.UnifyFolds'. -/
def unifyFoldsUptoCard : Claim7 := { stood := { row := unifyFoldsUptoRow, standIns := [], harness := (true, "b0d9cfdad5aef361cf89fb0443a34939ac291df95c06b08da7713b1971208b8e"), looks := false }, kinds := [], alts := [], laidByText := true, laidKinds := [.data, .data, .data], laidTests := true, laidLooks := .later }
def UnifyFoldsUptoCardSaid : Prop := Claim7.holds Tryd.pinned (.plain (OpenSpec.upto unifyFoldsSpec)) unifyFoldsUptoCard
end Rows
end Go.Proofs.YtgcbnndbeoekgaaDoor
