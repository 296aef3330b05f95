/-
  DERIVED. GIVEN WITH THE SEED: THE CARDS: each row of YtlfehgagnelbhaaGreatDoorRows.lean that lists a variable, with what it lists TIED to the program's text (the seventh form; the later family's looks); each row that meets fmt, with fmt's text TOLD by the authors' own Lean function (tested against real Go, not proved from fmt's source: count such statements apart). THE CARD IS WHAT COUNTS. Prove the row's statement (the work); the ties are given (YtlfehgagnelbhaaGreatDoorTie.lean); close each card by the builder's one call (the guide's Derived/Test/ToyasCard.lean, 'card_holds'). Laid BY PROGRAM, IN A SANDBOX (cutbox-door.mjs). By AI agents, Wed Nov 11 2026. No macro, syntax, notation, axiom, sorry.
-/
import Derived.Test.YtlfehgagnelbhaaGreatDoorRows
import GoSem.ClaimSeven
namespace Go.Proofs.YtlfehgagnelbhaaGreatDoor
namespace Rows

/-- THE TIED CARD OF 'gleaninglaw23.EditPlays'. -/
def editPlaysCard : Claim7 := { stood := { row := editPlaysRow, standIns := [], harness := (true, "0e770d69b64d46cc2338ad063a46db397ec3603c758db273b8e6a78ba2e46bf7"), looks := false }, kinds := [], alts := [], laidByText := true, laidKinds := [.listed, .data], laidTests := true, laidLooks := .later }
def EditPlaysCardSaid : Prop := Claim7.holds Tryz.pinned (.plain (OpenSpec.ofChange editPlaysSpec)) editPlaysCard

/-- THE TIED CARD OF 'gleaninglaw23.EditMakes'. -/
def editMakesCard : Claim7 := { stood := { row := editMakesRow, standIns := [], harness := (true, "0e770d69b64d46cc2338ad063a46db397ec3603c758db273b8e6a78ba2e46bf7"), looks := false }, kinds := [], alts := [], laidByText := true, laidKinds := [.listed, .data], laidTests := true, laidLooks := .later }
def EditMakesCardSaid : Prop := Claim7.holds Tryz.pinned (.plain (OpenSpec.ofChange editMakesSpec)) editMakesCard

/-- THE SECOND FORM's CARD OF 'gleaninglaw23.EditPlays'. -/
def editPlaysUptoCard : Claim7 := { stood := { row := editPlaysUptoRow, standIns := [], harness := (true, "0e770d69b64d46cc2338ad063a46db397ec3603c758db273b8e6a78ba2e46bf7"), looks := false }, kinds := [], alts := [], laidByText := true, laidKinds := [.listed, .data], laidTests := true, laidLooks := .later }
def EditPlaysUptoCardSaid : Prop := Claim7.holds Tryz.pinned (.plain (OpenSpec.upto editPlaysSpec)) editPlaysUptoCard

/-- THE SECOND FORM's CARD OF 'gleaninglaw23.EditMakes'. -/
def editMakesUptoCard : Claim7 := { stood := { row := editMakesUptoRow, standIns := [], harness := (true, "0e770d69b64d46cc2338ad063a46db397ec3603c758db273b8e6a78ba2e46bf7"), looks := false }, kinds := [], alts := [], laidByText := true, laidKinds := [.listed, .data], laidTests := true, laidLooks := .later }
def EditMakesUptoCardSaid : Prop := Claim7.holds Tryz.pinned (.plain (OpenSpec.upto editMakesSpec)) editMakesUptoCard
end Rows
end Go.Proofs.YtlfehgagnelbhaaGreatDoor
