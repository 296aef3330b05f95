/-
  DERIVED. GIVEN WITH THE SEED: THE CARDS: each row of YtnmdahkoifeimaaDoorRows.lean that lists a variable, with what it lists TIED to the program's text (the seventh form; the later family's looks); each row that meets fmt, with fmt's text TOLD by the authors' own Lean function (tested against real Go, not proved from fmt's source: count such statements apart). THE CARD IS WHAT COUNTS. Prove the row's statement (the work); the ties are given (YtnmdahkoifeimaaDoorTie.lean); close each card by the builder's one call (the guide's Derived/Test/ToyasCard.lean, 'card_holds'). Laid BY PROGRAM, IN A SANDBOX (cutbox-door.mjs). By AI agents, Wed Nov 11 2026. No macro, syntax, notation, axiom, sorry.
-/
import Derived.Test.YtnmdahkoifeimaaDoorRows
import GoSem.ClaimSeven
namespace Go.Proofs.YtnmdahkoifeimaaDoor
namespace Rows

/-- THE TIED CARD OF 'gleaninglaw23.EditNobody'. -/
def editNobodyCard : Claim7 := { stood := { row := editNobodyRow, standIns := [], harness := (true, "bebc69ccbdcca1ab9189c837b690897173f3407285dded1862d7bddd98fe273f"), looks := true }, kinds := [], alts := [], laidByText := true, laidKinds := [.listed, .data], laidTests := true, laidLooks := .later }
def EditNobodyCardSaid : Prop := Claim7.holds Tryd.pinned (.plain (OpenSpec.ofChange editNobodySpec)) editNobodyCard

/-- THE TIED CARD OF 'gleaninglaw34.ShapeNobody'. -/
def shapeNobodyCard : Claim7 := { stood := { row := shapeNobodyRow, standIns := [], harness := (true, "bebc69ccbdcca1ab9189c837b690897173f3407285dded1862d7bddd98fe273f"), looks := true }, kinds := [], alts := [], laidByText := true, laidKinds := [.listed, .data], laidTests := true, laidLooks := .later }
def ShapeNobodyCardSaid : Prop := Claim7.holds Tryd.pinned (.plain (OpenSpec.ofChange shapeNobodySpec)) shapeNobodyCard

/-- THE TIED CARD OF 'gleaninglaw30.OrderWhy'. -/
def orderWhyCard : Claim7 := { stood := { row := orderWhyRow, standIns := [], harness := (true, "bebc69ccbdcca1ab9189c837b690897173f3407285dded1862d7bddd98fe273f"), looks := true }, kinds := [], alts := [], laidByText := true, laidKinds := [.data, .pinned], laidTests := true, laidLooks := .later }
def OrderWhyCardSaid : Prop := Claim7.holds Tryd.pinned (.plain (OpenSpec.ofChange orderWhySpec)) orderWhyCard

/-- THE SECOND FORM's CARD OF 'gleaninglaw23.EditNobody'. -/
def editNobodyUptoCard : Claim7 := { stood := { row := editNobodyUptoRow, standIns := [], harness := (true, "bebc69ccbdcca1ab9189c837b690897173f3407285dded1862d7bddd98fe273f"), looks := true }, kinds := [], alts := [], laidByText := true, laidKinds := [.listed, .data], laidTests := true, laidLooks := .later }
def EditNobodyUptoCardSaid : Prop := Claim7.holds Tryd.pinned (.plain (OpenSpec.upto editNobodySpec)) editNobodyUptoCard

/-- THE SECOND FORM's CARD OF 'gleaninglaw34.ShapeNobody'. -/
def shapeNobodyUptoCard : Claim7 := { stood := { row := shapeNobodyUptoRow, standIns := [], harness := (true, "bebc69ccbdcca1ab9189c837b690897173f3407285dded1862d7bddd98fe273f"), looks := true }, kinds := [], alts := [], laidByText := true, laidKinds := [.listed, .data], laidTests := true, laidLooks := .later }
def ShapeNobodyUptoCardSaid : Prop := Claim7.holds Tryd.pinned (.plain (OpenSpec.upto shapeNobodySpec)) shapeNobodyUptoCard

/-- THE SECOND FORM's CARD OF 'gleaninglaw30.OrderWhy'. -/
def orderWhyUptoCard : Claim7 := { stood := { row := orderWhyUptoRow, standIns := [], harness := (true, "bebc69ccbdcca1ab9189c837b690897173f3407285dded1862d7bddd98fe273f"), looks := true }, kinds := [], alts := [], laidByText := true, laidKinds := [.data, .pinned], laidTests := true, laidLooks := .later }
def OrderWhyUptoCardSaid : Prop := Claim7.holds Tryd.pinned (.plain (OpenSpec.upto orderWhySpec)) orderWhyUptoCard
end Rows
end Go.Proofs.YtnmdahkoifeimaaDoor
