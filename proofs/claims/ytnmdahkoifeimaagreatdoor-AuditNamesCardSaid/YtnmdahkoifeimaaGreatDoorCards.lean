/-
  DERIVED. GIVEN WITH THE SEED: THE CARDS: each row of YtnmdahkoifeimaaGreatDoorRows.lean that lists a variable, with what it lists TIED to the program's text (the seventh form; the later family's looks); each row that meets fmt, with fmt's text TOLD by the authors' own Lean function (tested against real Go, not proved from fmt's source: count such statements apart). THE CARD IS WHAT COUNTS. Prove the row's statement (the work); the ties are given (YtnmdahkoifeimaaGreatDoorTie.lean); close each card by the builder's one call (the guide's Derived/Test/ToyasCard.lean, 'card_holds'). Laid BY PROGRAM, IN A SANDBOX (cutbox-door.mjs). By AI agents, Wed Nov 11 2026. No macro, syntax, notation, axiom, sorry.
-/
import Derived.Test.YtnmdahkoifeimaaGreatDoorRows
import GoSem.ClaimSeven
namespace Go.Proofs.YtnmdahkoifeimaaGreatDoor
namespace Rows

/-- THE TIED CARD OF 'gleaninglaw33.CensusNames'. -/
def censusNamesCard : Claim7 := { stood := { row := censusNamesRow, standIns := [], harness := (true, "4ed345793e3eba13b0c5f118c6454802bb8d8b898d9df043c12af2f8976bbbb8"), looks := true }, kinds := [], alts := [], laidByText := true, laidKinds := [.listed, .data], laidTests := true, laidLooks := .later }
def CensusNamesCardSaid : Prop := Claim7.holds Tryz.pinned (.plain (OpenSpec.ofChange censusNamesSpec)) censusNamesCard

/-- THE TIED CARD OF 'gleaninglaw35.AuditNames'. -/
def auditNamesCard : Claim7 := { stood := { row := auditNamesRow, standIns := [], harness := (true, "4ed345793e3eba13b0c5f118c6454802bb8d8b898d9df043c12af2f8976bbbb8"), looks := true }, kinds := [], alts := [], laidByText := true, laidKinds := [.listed, .data, .data], laidTests := true, laidLooks := .later }
def AuditNamesCardSaid : Prop := Claim7.holds Tryz.pinned (.plain (OpenSpec.ofChange auditNamesSpec)) auditNamesCard

/-- THE TIED CARD OF 'gleaninglaw24.FixNobody'. -/
def fixNobodyCard : Claim7 := { stood := { row := fixNobodyRow, standIns := [], harness := (true, "4ed345793e3eba13b0c5f118c6454802bb8d8b898d9df043c12af2f8976bbbb8"), looks := true }, kinds := [], alts := [], laidByText := true, laidKinds := [.listed, .data], laidTests := true, laidLooks := .later }
def FixNobodyCardSaid : Prop := Claim7.holds Tryz.pinned (.plain (OpenSpec.ofChange fixNobodySpec)) fixNobodyCard

/-- THE SECOND FORM's CARD OF 'gleaninglaw33.CensusNames'. -/
def censusNamesUptoCard : Claim7 := { stood := { row := censusNamesUptoRow, standIns := [], harness := (true, "4ed345793e3eba13b0c5f118c6454802bb8d8b898d9df043c12af2f8976bbbb8"), looks := true }, kinds := [], alts := [], laidByText := true, laidKinds := [.listed, .data], laidTests := true, laidLooks := .later }
def CensusNamesUptoCardSaid : Prop := Claim7.holds Tryz.pinned (.plain (OpenSpec.upto censusNamesSpec)) censusNamesUptoCard

/-- THE SECOND FORM's CARD OF 'gleaninglaw35.AuditNames'. -/
def auditNamesUptoCard : Claim7 := { stood := { row := auditNamesUptoRow, standIns := [], harness := (true, "4ed345793e3eba13b0c5f118c6454802bb8d8b898d9df043c12af2f8976bbbb8"), looks := true }, kinds := [], alts := [], laidByText := true, laidKinds := [.listed, .data, .data], laidTests := true, laidLooks := .later }
def AuditNamesUptoCardSaid : Prop := Claim7.holds Tryz.pinned (.plain (OpenSpec.upto auditNamesSpec)) auditNamesUptoCard

/-- THE SECOND FORM's CARD OF 'gleaninglaw24.FixNobody'. -/
def fixNobodyUptoCard : Claim7 := { stood := { row := fixNobodyUptoRow, standIns := [], harness := (true, "4ed345793e3eba13b0c5f118c6454802bb8d8b898d9df043c12af2f8976bbbb8"), looks := true }, kinds := [], alts := [], laidByText := true, laidKinds := [.listed, .data], laidTests := true, laidLooks := .later }
def FixNobodyUptoCardSaid : Prop := Claim7.holds Tryz.pinned (.plain (OpenSpec.upto fixNobodySpec)) fixNobodyUptoCard
end Rows
end Go.Proofs.YtnmdahkoifeimaaGreatDoor
