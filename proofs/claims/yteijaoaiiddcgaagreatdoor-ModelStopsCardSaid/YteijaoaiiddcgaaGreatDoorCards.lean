/-
  DERIVED. GIVEN WITH THE SEED: THE CARDS: each row of YteijaoaiiddcgaaGreatDoorRows.lean that lists a variable, with what it lists TIED to the program's text (the seventh form; the later family's looks); each row that meets fmt, with fmt's text TOLD by the authors' own Lean function (tested against real Go, not proved from fmt's source: count such statements apart). THE CARD IS WHAT COUNTS. Prove the row's statement (the work); the ties are given (YteijaoaiiddcgaaGreatDoorTie.lean); close each card by the builder's one call (the guide's Derived/Test/ToyasCard.lean, 'card_holds'). Laid BY PROGRAM, IN A SANDBOX (cutbox-door.mjs). By AI agents, Wed Nov 11 2026. No macro, syntax, notation, axiom, sorry.
-/
import Derived.Test.YteijaoaiiddcgaaGreatDoorRows
import GoSem.ClaimSeven
namespace Go.Proofs.YteijaoaiiddcgaaGreatDoor
namespace Rows

/-- THE TIED CARD OF 'postbaglaw16.ModelMoves'. -/
def modelMovesCard : Claim7 := { stood := { row := modelMovesRow, standIns := [], harness := (true, "7d62c7d12534d6c82280ee53b643d143da11ddc9781108fbc0d605feeb7d81f6"), looks := true }, kinds := [], alts := [], laidByText := true, laidKinds := [.data, .data, .data, .sentinel, .sentinel], laidTests := true, laidLooks := .later }
def ModelMovesCardSaid : Prop := Claim7.holds Tryz.pinned (.plain (OpenSpec.ofChange modelMovesSpec)) modelMovesCard

/-- THE TIED CARD OF 'postbaglaw16.ModelFirst'. -/
def modelFirstCard : Claim7 := { stood := { row := modelFirstRow, standIns := [], harness := (true, "7d62c7d12534d6c82280ee53b643d143da11ddc9781108fbc0d605feeb7d81f6"), looks := true }, kinds := [], alts := [], laidByText := true, laidKinds := [.data, .data, .data, .sentinel, .sentinel], laidTests := true, laidLooks := .later }
def ModelFirstCardSaid : Prop := Claim7.holds Tryz.pinned (.plain (OpenSpec.ofChange modelFirstSpec)) modelFirstCard

/-- THE TIED CARD OF 'postbaglaw16.ModelNobody'. -/
def modelNobodyCard : Claim7 := { stood := { row := modelNobodyRow, standIns := [], harness := (true, "7d62c7d12534d6c82280ee53b643d143da11ddc9781108fbc0d605feeb7d81f6"), looks := true }, kinds := [], alts := [], laidByText := true, laidKinds := [.data, .data, .data, .sentinel, .sentinel], laidTests := true, laidLooks := .later }
def ModelNobodyCardSaid : Prop := Claim7.holds Tryz.pinned (.plain (OpenSpec.ofChange modelNobodySpec)) modelNobodyCard

/-- THE TIED CARD OF 'postbaglaw16.ModelStops'. -/
def modelStopsCard : Claim7 := { stood := { row := modelStopsRow, standIns := [], harness := (true, "7d62c7d12534d6c82280ee53b643d143da11ddc9781108fbc0d605feeb7d81f6"), looks := true }, kinds := [], alts := [], laidByText := true, laidKinds := [.data, .data, .data, .sentinel, .sentinel], laidTests := true, laidLooks := .later }
def ModelStopsCardSaid : Prop := Claim7.holds Tryz.pinned (.plain (OpenSpec.ofChange modelStopsSpec)) modelStopsCard

/-- THE TIED CARD OF 'postbaglaw16.ModelShows'. -/
def modelShowsCard : Claim7 := { stood := { row := modelShowsRow, standIns := [], harness := (true, "7d62c7d12534d6c82280ee53b643d143da11ddc9781108fbc0d605feeb7d81f6"), looks := true }, kinds := [], alts := [], laidByText := true, laidKinds := [.data, .data, .data, .sentinel, .sentinel], laidTests := true, laidLooks := .later }
def ModelShowsCardSaid : Prop := Claim7.holds Tryz.pinned (.plain (OpenSpec.ofChange modelShowsSpec)) modelShowsCard

/-- THE SECOND FORM's CARD OF 'postbaglaw16.ModelMoves'. -/
def modelMovesUptoCard : Claim7 := { stood := { row := modelMovesUptoRow, standIns := [], harness := (true, "7d62c7d12534d6c82280ee53b643d143da11ddc9781108fbc0d605feeb7d81f6"), looks := true }, kinds := [], alts := [], laidByText := true, laidKinds := [.data, .data, .data, .sentinel, .sentinel], laidTests := true, laidLooks := .later }
def ModelMovesUptoCardSaid : Prop := Claim7.holds Tryz.pinned (.plain (OpenSpec.upto modelMovesSpec)) modelMovesUptoCard

/-- THE SECOND FORM's CARD OF 'postbaglaw16.ModelFirst'. -/
def modelFirstUptoCard : Claim7 := { stood := { row := modelFirstUptoRow, standIns := [], harness := (true, "7d62c7d12534d6c82280ee53b643d143da11ddc9781108fbc0d605feeb7d81f6"), looks := true }, kinds := [], alts := [], laidByText := true, laidKinds := [.data, .data, .data, .sentinel, .sentinel], laidTests := true, laidLooks := .later }
def ModelFirstUptoCardSaid : Prop := Claim7.holds Tryz.pinned (.plain (OpenSpec.upto modelFirstSpec)) modelFirstUptoCard

/-- THE SECOND FORM's CARD OF 'postbaglaw16.ModelNobody'. -/
def modelNobodyUptoCard : Claim7 := { stood := { row := modelNobodyUptoRow, standIns := [], harness := (true, "7d62c7d12534d6c82280ee53b643d143da11ddc9781108fbc0d605feeb7d81f6"), looks := true }, kinds := [], alts := [], laidByText := true, laidKinds := [.data, .data, .data, .sentinel, .sentinel], laidTests := true, laidLooks := .later }
def ModelNobodyUptoCardSaid : Prop := Claim7.holds Tryz.pinned (.plain (OpenSpec.upto modelNobodySpec)) modelNobodyUptoCard

/-- THE SECOND FORM's CARD OF 'postbaglaw16.ModelStops'. -/
def modelStopsUptoCard : Claim7 := { stood := { row := modelStopsUptoRow, standIns := [], harness := (true, "7d62c7d12534d6c82280ee53b643d143da11ddc9781108fbc0d605feeb7d81f6"), looks := true }, kinds := [], alts := [], laidByText := true, laidKinds := [.data, .data, .data, .sentinel, .sentinel], laidTests := true, laidLooks := .later }
def ModelStopsUptoCardSaid : Prop := Claim7.holds Tryz.pinned (.plain (OpenSpec.upto modelStopsSpec)) modelStopsUptoCard

/-- THE SECOND FORM's CARD OF 'postbaglaw16.ModelShows'. -/
def modelShowsUptoCard : Claim7 := { stood := { row := modelShowsUptoRow, standIns := [], harness := (true, "7d62c7d12534d6c82280ee53b643d143da11ddc9781108fbc0d605feeb7d81f6"), looks := true }, kinds := [], alts := [], laidByText := true, laidKinds := [.data, .data, .data, .sentinel, .sentinel], laidTests := true, laidLooks := .later }
def ModelShowsUptoCardSaid : Prop := Claim7.holds Tryz.pinned (.plain (OpenSpec.upto modelShowsSpec)) modelShowsUptoCard
end Rows
end Go.Proofs.YteijaoaiiddcgaaGreatDoor
