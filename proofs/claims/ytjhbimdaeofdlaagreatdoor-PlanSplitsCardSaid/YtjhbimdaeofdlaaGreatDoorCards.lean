/-
  DERIVED. GIVEN WITH THE SEED: THE CARDS: each row of YtjhbimdaeofdlaaGreatDoorRows.lean that lists a variable, with what it lists TIED to the program's text (the seventh form; the later family's looks); each row that meets fmt, with fmt's text TOLD by the authors' own Lean function (tested against real Go, not proved from fmt's source: count such statements apart). THE CARD IS WHAT COUNTS. Prove the row's statement (the work); the ties are given (YtjhbimdaeofdlaaGreatDoorTie.lean); close each card by the builder's one call (the guide's Derived/Test/ToyasCard.lean, 'card_holds'). Laid BY PROGRAM, IN A SANDBOX (cutbox-door.mjs). By AI agents, Wed Nov 11 2026. No macro, syntax, notation, axiom, sorry.
-/
import Derived.Test.YtjhbimdaeofdlaaGreatDoorRows
import GoSem.ClaimSeven
namespace Go.Proofs.YtjhbimdaeofdlaaGreatDoor
namespace Rows

/-- THE TIED CARD OF 'gleaninglaw14.PlanSplits'. -/
def planSplitsCard : Claim7 := { stood := { row := planSplitsRow, standIns := [], harness := (true, "f47efe118b63b8e0f04356c9cdca48c57f99d514be96d8ade26547ea14ab8019"), looks := true }, kinds := [], alts := [], laidByText := true, laidKinds := [.listed, .data], laidTests := true, laidLooks := .later }
def PlanSplitsCardSaid : Prop := Claim7.holds Tryz.pinned (.plain (OpenSpec.ofChange planSplitsSpec)) planSplitsCard

/-- THE TIED CARD OF 'gleaninglaw14.PlanKeeps'. -/
def planKeepsCard : Claim7 := { stood := { row := planKeepsRow, standIns := [], harness := (true, "f47efe118b63b8e0f04356c9cdca48c57f99d514be96d8ade26547ea14ab8019"), looks := true }, kinds := [], alts := [], laidByText := true, laidKinds := [.listed, .data], laidTests := true, laidLooks := .later }
def PlanKeepsCardSaid : Prop := Claim7.holds Tryz.pinned (.plain (OpenSpec.ofChange planKeepsSpec)) planKeepsCard

/-- THE TIED CARD OF 'gleaninglaw14.PlanMakes'. -/
def planMakesCard : Claim7 := { stood := { row := planMakesRow, standIns := [], harness := (true, "f47efe118b63b8e0f04356c9cdca48c57f99d514be96d8ade26547ea14ab8019"), looks := true }, kinds := [], alts := [], laidByText := true, laidKinds := [.listed, .data], laidTests := true, laidLooks := .later }
def PlanMakesCardSaid : Prop := Claim7.holds Tryz.pinned (.plain (OpenSpec.ofChange planMakesSpec)) planMakesCard

/-- THE TIED CARD OF 'gleaninglaw24.FixPlays'. -/
def fixPlaysCard : Claim7 := { stood := { row := fixPlaysRow, standIns := [], harness := (true, "f47efe118b63b8e0f04356c9cdca48c57f99d514be96d8ade26547ea14ab8019"), looks := true }, kinds := [], alts := [], laidByText := true, laidKinds := [.listed, .data], laidTests := true, laidLooks := .later }
def FixPlaysCardSaid : Prop := Claim7.holds Tryz.pinned (.plain (OpenSpec.ofChange fixPlaysSpec)) fixPlaysCard

/-- THE TIED CARD OF 'gleaninglaw24.FixMakes'. -/
def fixMakesCard : Claim7 := { stood := { row := fixMakesRow, standIns := [], harness := (true, "f47efe118b63b8e0f04356c9cdca48c57f99d514be96d8ade26547ea14ab8019"), looks := true }, kinds := [], alts := [], laidByText := true, laidKinds := [.listed, .data], laidTests := true, laidLooks := .later }
def FixMakesCardSaid : Prop := Claim7.holds Tryz.pinned (.plain (OpenSpec.ofChange fixMakesSpec)) fixMakesCard

/-- THE SECOND FORM's CARD OF 'gleaninglaw14.PlanSplits'. -/
def planSplitsUptoCard : Claim7 := { stood := { row := planSplitsUptoRow, standIns := [], harness := (true, "f47efe118b63b8e0f04356c9cdca48c57f99d514be96d8ade26547ea14ab8019"), looks := true }, kinds := [], alts := [], laidByText := true, laidKinds := [.listed, .data], laidTests := true, laidLooks := .later }
def PlanSplitsUptoCardSaid : Prop := Claim7.holds Tryz.pinned (.plain (OpenSpec.upto planSplitsSpec)) planSplitsUptoCard

/-- THE SECOND FORM's CARD OF 'gleaninglaw14.PlanKeeps'. -/
def planKeepsUptoCard : Claim7 := { stood := { row := planKeepsUptoRow, standIns := [], harness := (true, "f47efe118b63b8e0f04356c9cdca48c57f99d514be96d8ade26547ea14ab8019"), looks := true }, kinds := [], alts := [], laidByText := true, laidKinds := [.listed, .data], laidTests := true, laidLooks := .later }
def PlanKeepsUptoCardSaid : Prop := Claim7.holds Tryz.pinned (.plain (OpenSpec.upto planKeepsSpec)) planKeepsUptoCard

/-- THE SECOND FORM's CARD OF 'gleaninglaw14.PlanMakes'. -/
def planMakesUptoCard : Claim7 := { stood := { row := planMakesUptoRow, standIns := [], harness := (true, "f47efe118b63b8e0f04356c9cdca48c57f99d514be96d8ade26547ea14ab8019"), looks := true }, kinds := [], alts := [], laidByText := true, laidKinds := [.listed, .data], laidTests := true, laidLooks := .later }
def PlanMakesUptoCardSaid : Prop := Claim7.holds Tryz.pinned (.plain (OpenSpec.upto planMakesSpec)) planMakesUptoCard

/-- THE SECOND FORM's CARD OF 'gleaninglaw24.FixPlays'. -/
def fixPlaysUptoCard : Claim7 := { stood := { row := fixPlaysUptoRow, standIns := [], harness := (true, "f47efe118b63b8e0f04356c9cdca48c57f99d514be96d8ade26547ea14ab8019"), looks := true }, kinds := [], alts := [], laidByText := true, laidKinds := [.listed, .data], laidTests := true, laidLooks := .later }
def FixPlaysUptoCardSaid : Prop := Claim7.holds Tryz.pinned (.plain (OpenSpec.upto fixPlaysSpec)) fixPlaysUptoCard

/-- THE SECOND FORM's CARD OF 'gleaninglaw24.FixMakes'. -/
def fixMakesUptoCard : Claim7 := { stood := { row := fixMakesUptoRow, standIns := [], harness := (true, "f47efe118b63b8e0f04356c9cdca48c57f99d514be96d8ade26547ea14ab8019"), looks := true }, kinds := [], alts := [], laidByText := true, laidKinds := [.listed, .data], laidTests := true, laidLooks := .later }
def FixMakesUptoCardSaid : Prop := Claim7.holds Tryz.pinned (.plain (OpenSpec.upto fixMakesSpec)) fixMakesUptoCard
end Rows
end Go.Proofs.YtjhbimdaeofdlaaGreatDoor
