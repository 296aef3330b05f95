/-
  DERIVED. GIVEN WITH THE SEED: THE CARDS: each row of YtinijejfhmcmdaaGreatDoorRows.lean that lists a variable, with what it lists TIED to the program's text (the seventh form; the later family's looks); each row that meets fmt, with fmt's text TOLD by the authors' own Lean function (tested against real Go, not proved from fmt's source: count such statements apart). THE CARD IS WHAT COUNTS. Prove the row's statement (the work); the ties are given (YtinijejfhmcmdaaGreatDoorTie.lean); close each card by the builder's one call (the guide's Derived/Test/ToyasCard.lean, 'card_holds'). Laid BY PROGRAM, IN A SANDBOX (cutbox-door.mjs). By AI agents, Wed Nov 11 2026. No macro, syntax, notation, axiom, sorry.
-/
import Derived.Test.YtinijejfhmcmdaaGreatDoorRows
import GoSem.ClaimSeven
namespace Go.Proofs.YtinijejfhmcmdaaGreatDoor
namespace Rows

/-- THE TIED CARD OF 'gleaninglaw23.EditMakes'. -/
def editMakesCard : Claim7 := { stood := { row := editMakesRow, standIns := [], harness := (true, "21843b31782e48d842729591bd564754a451ec2b8e87cd9e56dbd703e6850ddb"), looks := false }, kinds := [], alts := [], laidByText := true, laidKinds := [.listed, .data], laidTests := true, laidLooks := .later }
def EditMakesCardSaid : Prop := Claim7.holds Tryz.pinned (.plain (OpenSpec.ofChange editMakesSpec)) editMakesCard

/-- THE TIED CARD OF 'gleaninglaw34.ShapeTells'. -/
def shapeTellsCard : Claim7 := { stood := { row := shapeTellsRow, standIns := [], harness := (true, "21843b31782e48d842729591bd564754a451ec2b8e87cd9e56dbd703e6850ddb"), looks := false }, kinds := [], alts := [], laidByText := true, laidKinds := [.listed, .data], laidTests := true, laidLooks := .later }
def ShapeTellsCardSaid : Prop := Claim7.holds Tryz.pinned (.plain (OpenSpec.ofChange shapeTellsSpec)) shapeTellsCard

/-- THE SECOND FORM's CARD OF 'gleaninglaw23.EditMakes'. -/
def editMakesUptoCard : Claim7 := { stood := { row := editMakesUptoRow, standIns := [], harness := (true, "21843b31782e48d842729591bd564754a451ec2b8e87cd9e56dbd703e6850ddb"), looks := false }, kinds := [], alts := [], laidByText := true, laidKinds := [.listed, .data], laidTests := true, laidLooks := .later }
def EditMakesUptoCardSaid : Prop := Claim7.holds Tryz.pinned (.plain (OpenSpec.upto editMakesSpec)) editMakesUptoCard

/-- THE SECOND FORM's CARD OF 'gleaninglaw34.ShapeTells'. -/
def shapeTellsUptoCard : Claim7 := { stood := { row := shapeTellsUptoRow, standIns := [], harness := (true, "21843b31782e48d842729591bd564754a451ec2b8e87cd9e56dbd703e6850ddb"), looks := false }, kinds := [], alts := [], laidByText := true, laidKinds := [.listed, .data], laidTests := true, laidLooks := .later }
def ShapeTellsUptoCardSaid : Prop := Claim7.holds Tryz.pinned (.plain (OpenSpec.upto shapeTellsSpec)) shapeTellsUptoCard
end Rows
end Go.Proofs.YtinijejfhmcmdaaGreatDoor
