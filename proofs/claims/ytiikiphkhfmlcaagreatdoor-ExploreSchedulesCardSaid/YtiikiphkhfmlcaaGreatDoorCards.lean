/-
  DERIVED. GIVEN WITH THE SEED: THE CARDS: each row of YtiikiphkhfmlcaaGreatDoorRows.lean that lists a variable, with what it lists TIED to the program's text (the seventh form; the later family's looks); each row that meets fmt, with fmt's text TOLD by the authors' own Lean function (tested against real Go, not proved from fmt's source: count such statements apart). THE CARD IS WHAT COUNTS. Prove the row's statement (the work); the ties are given (YtiikiphkhfmlcaaGreatDoorTie.lean); close each card by the builder's one call (the guide's Derived/Test/ToyasCard.lean, 'card_holds'). Laid BY PROGRAM, IN A SANDBOX (cutbox-door.mjs). By AI agents, Wed Nov 11 2026. No macro, syntax, notation, axiom, sorry.
-/
import Derived.Test.YtiikiphkhfmlcaaGreatDoorRows
import GoSem.ClaimSeven
namespace Go.Proofs.YtiikiphkhfmlcaaGreatDoor
namespace Rows

/-- THE TIED CARD OF 'gleaninglaw37.ExploreSchedules'. -/
def exploreSchedulesCard : Claim7 := { stood := { row := exploreSchedulesRow, standIns := [], harness := (true, "7a6a9c4d522d3cc31e699bf7f1428d0f8f9f7cb76598dbc2b8f395170f558516"), looks := true }, kinds := [], alts := [], laidByText := true, laidKinds := [.listed, .data], laidTests := true, laidLooks := .later }
def ExploreSchedulesCardSaid : Prop := Claim7.holds Tryz.pinned (.plain (OpenSpec.ofChange exploreSchedulesSpec)) exploreSchedulesCard

/-- THE SECOND FORM's CARD OF 'gleaninglaw37.ExploreSchedules'. -/
def exploreSchedulesUptoCard : Claim7 := { stood := { row := exploreSchedulesUptoRow, standIns := [], harness := (true, "7a6a9c4d522d3cc31e699bf7f1428d0f8f9f7cb76598dbc2b8f395170f558516"), looks := true }, kinds := [], alts := [], laidByText := true, laidKinds := [.listed, .data], laidTests := true, laidLooks := .later }
def ExploreSchedulesUptoCardSaid : Prop := Claim7.holds Tryz.pinned (.plain (OpenSpec.upto exploreSchedulesSpec)) exploreSchedulesUptoCard
end Rows
end Go.Proofs.YtiikiphkhfmlcaaGreatDoor
