/-
  DERIVED. GIVEN WITH THE SEED: THE CARDS: each row of YtojfcccobfcomaaGreatDoorRows.lean that lists a variable, with what it lists TIED to the program's text (the seventh form; the later family's looks); each row that meets fmt, with fmt's text TOLD by the authors' own Lean function (tested against real Go, not proved from fmt's source: count such statements apart). THE CARD IS WHAT COUNTS. Prove the row's statement (the work); the ties are given (YtojfcccobfcomaaGreatDoorTie.lean); close each card by the builder's one call (the guide's Derived/Test/ToyasCard.lean, 'card_holds'). Laid BY PROGRAM, IN A SANDBOX (cutbox-door.mjs). By AI agents, Wed Nov 11 2026. No macro, syntax, notation, axiom, sorry.
-/
import Derived.Test.YtojfcccobfcomaaGreatDoorRows
import GoSem.ClaimSeven
namespace Go.Proofs.YtojfcccobfcomaaGreatDoor
namespace Rows

/-- THE TIED CARD OF 'gleaninglaw25.WriteNobody'. -/
def writeNobodyCard : Claim7 := { stood := { row := writeNobodyRow, standIns := [], harness := (true, "620aa61e60e4244c0df993c55aaa56f678acff142649f68acfb7358f12d5c536"), looks := true }, kinds := [], alts := [], laidByText := true, laidKinds := [.listed, .data], laidTests := true, laidLooks := .later }
def WriteNobodyCardSaid : Prop := Claim7.holds Tryz.pinned (.plain (OpenSpec.ofChange writeNobodySpec)) writeNobodyCard

/-- THE TIED CARD OF 'gleaninglaw26.TaskNobody'. -/
def taskNobodyCard : Claim7 := { stood := { row := taskNobodyRow, standIns := [], harness := (true, "620aa61e60e4244c0df993c55aaa56f678acff142649f68acfb7358f12d5c536"), looks := true }, kinds := [], alts := [], laidByText := true, laidKinds := [.listed, .data], laidTests := true, laidLooks := .later }
def TaskNobodyCardSaid : Prop := Claim7.holds Tryz.pinned (.plain (OpenSpec.ofChange taskNobodySpec)) taskNobodyCard

/-- THE TIED CARD OF 'gleaninglaw36.BoundNobody'. -/
def boundNobodyCard : Claim7 := { stood := { row := boundNobodyRow, standIns := [], harness := (true, "620aa61e60e4244c0df993c55aaa56f678acff142649f68acfb7358f12d5c536"), looks := true }, kinds := [], alts := [], laidByText := true, laidKinds := [.listed, .data], laidTests := true, laidLooks := .later }
def BoundNobodyCardSaid : Prop := Claim7.holds Tryz.pinned (.plain (OpenSpec.ofChange boundNobodySpec)) boundNobodyCard

/-- THE TIED CARD OF 'gleaninglaw27.MachineNobody'. -/
def machineNobodyCard : Claim7 := { stood := { row := machineNobodyRow, standIns := [], harness := (true, "620aa61e60e4244c0df993c55aaa56f678acff142649f68acfb7358f12d5c536"), looks := true }, kinds := [], alts := [], laidByText := true, laidKinds := [.listed, .data], laidTests := true, laidLooks := .later }
def MachineNobodyCardSaid : Prop := Claim7.holds Tryz.pinned (.plain (OpenSpec.ofChange machineNobodySpec)) machineNobodyCard

/-- THE SECOND FORM's CARD OF 'gleaninglaw25.WriteNobody'. -/
def writeNobodyUptoCard : Claim7 := { stood := { row := writeNobodyUptoRow, standIns := [], harness := (true, "620aa61e60e4244c0df993c55aaa56f678acff142649f68acfb7358f12d5c536"), looks := true }, kinds := [], alts := [], laidByText := true, laidKinds := [.listed, .data], laidTests := true, laidLooks := .later }
def WriteNobodyUptoCardSaid : Prop := Claim7.holds Tryz.pinned (.plain (OpenSpec.upto writeNobodySpec)) writeNobodyUptoCard

/-- THE SECOND FORM's CARD OF 'gleaninglaw26.TaskNobody'. -/
def taskNobodyUptoCard : Claim7 := { stood := { row := taskNobodyUptoRow, standIns := [], harness := (true, "620aa61e60e4244c0df993c55aaa56f678acff142649f68acfb7358f12d5c536"), looks := true }, kinds := [], alts := [], laidByText := true, laidKinds := [.listed, .data], laidTests := true, laidLooks := .later }
def TaskNobodyUptoCardSaid : Prop := Claim7.holds Tryz.pinned (.plain (OpenSpec.upto taskNobodySpec)) taskNobodyUptoCard

/-- THE SECOND FORM's CARD OF 'gleaninglaw36.BoundNobody'. -/
def boundNobodyUptoCard : Claim7 := { stood := { row := boundNobodyUptoRow, standIns := [], harness := (true, "620aa61e60e4244c0df993c55aaa56f678acff142649f68acfb7358f12d5c536"), looks := true }, kinds := [], alts := [], laidByText := true, laidKinds := [.listed, .data], laidTests := true, laidLooks := .later }
def BoundNobodyUptoCardSaid : Prop := Claim7.holds Tryz.pinned (.plain (OpenSpec.upto boundNobodySpec)) boundNobodyUptoCard

/-- THE SECOND FORM's CARD OF 'gleaninglaw27.MachineNobody'. -/
def machineNobodyUptoCard : Claim7 := { stood := { row := machineNobodyUptoRow, standIns := [], harness := (true, "620aa61e60e4244c0df993c55aaa56f678acff142649f68acfb7358f12d5c536"), looks := true }, kinds := [], alts := [], laidByText := true, laidKinds := [.listed, .data], laidTests := true, laidLooks := .later }
def MachineNobodyUptoCardSaid : Prop := Claim7.holds Tryz.pinned (.plain (OpenSpec.upto machineNobodySpec)) machineNobodyUptoCard
end Rows
end Go.Proofs.YtojfcccobfcomaaGreatDoor
