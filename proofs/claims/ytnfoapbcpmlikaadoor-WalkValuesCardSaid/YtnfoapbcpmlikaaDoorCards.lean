/-
  DERIVED. GIVEN WITH THE SEED: THE CARDS: each row of YtnfoapbcpmlikaaDoorRows.lean that lists a variable, with what it lists TIED to the program's text (the seventh form; the later family's looks); each row that meets fmt, with fmt's text TOLD by the authors' own Lean function (tested against real Go, not proved from fmt's source: count such statements apart). THE CARD IS WHAT COUNTS. Prove the row's statement (the work); the ties are given (YtnfoapbcpmlikaaDoorTie.lean); close each card by the builder's one call (the guide's Derived/Test/ToyasCard.lean, 'card_holds'). Laid BY PROGRAM, IN A SANDBOX (cutbox-door.mjs). By AI agents, Wed Nov 11 2026. No macro, syntax, notation, axiom, sorry.
-/
import Derived.Test.YtnfoapbcpmlikaaDoorRows
import GoSem.ClaimSeven
namespace Go.Proofs.YtnfoapbcpmlikaaDoor
namespace Rows

/-- THE TIED CARD OF 'gleaninglaw20.WalkValues'. -/
def walkValuesCard : Claim7 := { stood := { row := walkValuesRow, standIns := [], harness := (true, "24d51c7d8e0d5e57bcf613af17239051de23e31bb66da9f5865114d0592ec223"), looks := false }, kinds := [], alts := [], laidByText := true, laidKinds := [.listed, .data], laidTests := true, laidLooks := .later }
def WalkValuesCardSaid : Prop := Claim7.holds Tryd.pinned (.plain (OpenSpec.ofChange walkValuesSpec)) walkValuesCard

/-- THE SECOND FORM's CARD OF 'gleaninglaw20.WalkValues'. -/
def walkValuesUptoCard : Claim7 := { stood := { row := walkValuesUptoRow, standIns := [], harness := (true, "24d51c7d8e0d5e57bcf613af17239051de23e31bb66da9f5865114d0592ec223"), looks := false }, kinds := [], alts := [], laidByText := true, laidKinds := [.listed, .data], laidTests := true, laidLooks := .later }
def WalkValuesUptoCardSaid : Prop := Claim7.holds Tryd.pinned (.plain (OpenSpec.upto walkValuesSpec)) walkValuesUptoCard
end Rows
end Go.Proofs.YtnfoapbcpmlikaaDoor
