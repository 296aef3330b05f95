/-
  DERIVED. GIVEN WITH THE SEED: THE CARDS: each row of YtfcbclalfpcpmaaGreatDoorRows.lean that lists a variable, with what it lists TIED to the program's text (the seventh form; the later family's looks); each row that meets fmt, with fmt's text TOLD by the authors' own Lean function (tested against real Go, not proved from fmt's source: count such statements apart). THE CARD IS WHAT COUNTS. Prove the row's statement (the work); the ties are given (YtfcbclalfpcpmaaGreatDoorTie.lean); close each card by the builder's one call (the guide's Derived/Test/ToyasCard.lean, 'card_holds'). Laid BY PROGRAM, IN A SANDBOX (cutbox-door.mjs). By AI agents, Wed Nov 11 2026. No macro, syntax, notation, axiom, sorry.
-/
import Derived.Test.YtfcbclalfpcpmaaGreatDoorRows
import GoSem.ClaimSeven
namespace Go.Proofs.YtfcbclalfpcpmaaGreatDoor
namespace Rows

/-- THE TIED CARD OF 'gleaninglaw33.CensusNames'. -/
def censusNamesCard : Claim7 := { stood := { row := censusNamesRow, standIns := [], harness := (true, "6e858fa845498fe265222f5ed261085443b86f1fb43441ad951b0e36922bf253"), looks := true }, kinds := [], alts := [], laidByText := true, laidKinds := [.listed, .data], laidTests := true, laidLooks := .later }
def CensusNamesCardSaid : Prop := Claim7.holds Tryz.pinned (.plain (OpenSpec.ofChange censusNamesSpec)) censusNamesCard

/-- THE TIED CARD OF 'gleaninglaw24.FixNobody'. -/
def fixNobodyCard : Claim7 := { stood := { row := fixNobodyRow, standIns := [], harness := (true, "6e858fa845498fe265222f5ed261085443b86f1fb43441ad951b0e36922bf253"), looks := true }, kinds := [], alts := [], laidByText := true, laidKinds := [.listed, .data], laidTests := true, laidLooks := .later }
def FixNobodyCardSaid : Prop := Claim7.holds Tryz.pinned (.plain (OpenSpec.ofChange fixNobodySpec)) fixNobodyCard

/-- THE SECOND FORM's CARD OF 'gleaninglaw33.CensusNames'. -/
def censusNamesUptoCard : Claim7 := { stood := { row := censusNamesUptoRow, standIns := [], harness := (true, "6e858fa845498fe265222f5ed261085443b86f1fb43441ad951b0e36922bf253"), looks := true }, kinds := [], alts := [], laidByText := true, laidKinds := [.listed, .data], laidTests := true, laidLooks := .later }
def CensusNamesUptoCardSaid : Prop := Claim7.holds Tryz.pinned (.plain (OpenSpec.upto censusNamesSpec)) censusNamesUptoCard

/-- THE SECOND FORM's CARD OF 'gleaninglaw24.FixNobody'. -/
def fixNobodyUptoCard : Claim7 := { stood := { row := fixNobodyUptoRow, standIns := [], harness := (true, "6e858fa845498fe265222f5ed261085443b86f1fb43441ad951b0e36922bf253"), looks := true }, kinds := [], alts := [], laidByText := true, laidKinds := [.listed, .data], laidTests := true, laidLooks := .later }
def FixNobodyUptoCardSaid : Prop := Claim7.holds Tryz.pinned (.plain (OpenSpec.upto fixNobodySpec)) fixNobodyUptoCard
end Rows
end Go.Proofs.YtfcbclalfpcpmaaGreatDoor
