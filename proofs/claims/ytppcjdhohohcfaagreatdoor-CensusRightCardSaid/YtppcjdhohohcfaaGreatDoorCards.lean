/-
  DERIVED. GIVEN WITH THE SEED: THE CARDS: each row of YtppcjdhohohcfaaGreatDoorRows.lean that lists a variable, with what it lists TIED to the program's text (the seventh form; the later family's looks); each row that meets fmt, with fmt's text TOLD by the authors' own Lean function (tested against real Go, not proved from fmt's source: count such statements apart). THE CARD IS WHAT COUNTS. Prove the row's statement (the work); the ties are given (YtppcjdhohohcfaaGreatDoorTie.lean); close each card by the builder's one call (the guide's Derived/Test/ToyasCard.lean, 'card_holds'). Laid BY PROGRAM, IN A SANDBOX (cutbox-door.mjs). By AI agents, Wed Nov 11 2026. No macro, syntax, notation, axiom, sorry.
-/
import Derived.Test.YtppcjdhohohcfaaGreatDoorRows
import GoSem.ClaimSeven
namespace Go.Proofs.YtppcjdhohohcfaaGreatDoor
namespace Rows

/-- THE TIED CARD OF 'gleaninglaw33.CensusNames'. -/
def censusNamesCard : Claim7 := { stood := { row := censusNamesRow, standIns := [], harness := (true, "6e72997c4685e63db76879e4ea7f5ef691257bcb9f6efb74137a77a83ac6f241"), looks := false }, kinds := [], alts := [], laidByText := true, laidKinds := [.listed, .data], laidTests := true, laidLooks := .later }
def CensusNamesCardSaid : Prop := Claim7.holds Tryz.pinned (.plain (OpenSpec.ofChange censusNamesSpec)) censusNamesCard

/-- THE TIED CARD OF 'gleaninglaw33.CensusRight'. -/
def censusRightCard : Claim7 := { stood := { row := censusRightRow, standIns := [], harness := (true, "6e72997c4685e63db76879e4ea7f5ef691257bcb9f6efb74137a77a83ac6f241"), looks := false }, kinds := [], alts := [], laidByText := true, laidKinds := [.listed, .data], laidTests := true, laidLooks := .later }
def CensusRightCardSaid : Prop := Claim7.holds Tryz.pinned (.plain (OpenSpec.ofChange censusRightSpec)) censusRightCard

/-- THE SECOND FORM's CARD OF 'gleaninglaw33.CensusNames'. -/
def censusNamesUptoCard : Claim7 := { stood := { row := censusNamesUptoRow, standIns := [], harness := (true, "6e72997c4685e63db76879e4ea7f5ef691257bcb9f6efb74137a77a83ac6f241"), looks := false }, kinds := [], alts := [], laidByText := true, laidKinds := [.listed, .data], laidTests := true, laidLooks := .later }
def CensusNamesUptoCardSaid : Prop := Claim7.holds Tryz.pinned (.plain (OpenSpec.upto censusNamesSpec)) censusNamesUptoCard

/-- THE SECOND FORM's CARD OF 'gleaninglaw33.CensusRight'. -/
def censusRightUptoCard : Claim7 := { stood := { row := censusRightUptoRow, standIns := [], harness := (true, "6e72997c4685e63db76879e4ea7f5ef691257bcb9f6efb74137a77a83ac6f241"), looks := false }, kinds := [], alts := [], laidByText := true, laidKinds := [.listed, .data], laidTests := true, laidLooks := .later }
def CensusRightUptoCardSaid : Prop := Claim7.holds Tryz.pinned (.plain (OpenSpec.upto censusRightSpec)) censusRightUptoCard
end Rows
end Go.Proofs.YtppcjdhohohcfaaGreatDoor
