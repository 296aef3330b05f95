/-
  DERIVED. GIVEN WITH THE SEED: THE CARDS: each row of YtfpokmglhaenaaaDoorRows.lean that lists a variable, with what it lists TIED to the program's text (the seventh form; the later family's looks); each row that meets fmt, with fmt's text TOLD by the authors' own Lean function (tested against real Go, not proved from fmt's source: count such statements apart). THE CARD IS WHAT COUNTS. Prove the row's statement (the work); the ties are given (YtfpokmglhaenaaaDoorTie.lean); close each card by the builder's one call (the guide's Derived/Test/ToyasCard.lean, 'card_holds'). Laid BY PROGRAM, IN A SANDBOX (cutbox-door.mjs). By AI agents, Wed Nov 11 2026. No macro, syntax, notation, axiom, sorry.
-/
import Derived.Test.YtfpokmglhaenaaaDoorRows
import GoSem.ClaimSeven
namespace Go.Proofs.YtfpokmglhaenaaaDoor
namespace Rows

/-- THE TIED CARD OF 'gleaninglaw28.ScriptDecodes'. -/
def scriptDecodesCard : Claim7 := { stood := { row := scriptDecodesRow, standIns := [], harness := (true, "797c180cc953289910f85f28a60e82c44dd4615f357ec0af6043bc53da3cb03a"), looks := false }, kinds := [], alts := [], laidByText := true, laidKinds := [.listed, .data], laidTests := true, laidLooks := .later }
def ScriptDecodesCardSaid : Prop := Claim7.holds Tryd.pinned (.plain (OpenSpec.ofChange scriptDecodesSpec)) scriptDecodesCard

/-- THE TIED CARD OF 'gleaninglaw28.ScriptLines'. -/
def scriptLinesCard : Claim7 := { stood := { row := scriptLinesRow, standIns := [], harness := (true, "797c180cc953289910f85f28a60e82c44dd4615f357ec0af6043bc53da3cb03a"), looks := false }, kinds := [], alts := [], laidByText := true, laidKinds := [.listed, .data], laidTests := true, laidLooks := .later }
def ScriptLinesCardSaid : Prop := Claim7.holds Tryd.pinned (.plain (OpenSpec.ofChange scriptLinesSpec)) scriptLinesCard

/-- THE TIED CARD OF 'gleaninglaw14.PlanShrinks'. -/
def planShrinksCard : Claim7 := { stood := { row := planShrinksRow, standIns := [], harness := (true, "797c180cc953289910f85f28a60e82c44dd4615f357ec0af6043bc53da3cb03a"), looks := false }, kinds := [], alts := [], laidByText := true, laidKinds := [.listed, .data], laidTests := true, laidLooks := .later }
def PlanShrinksCardSaid : Prop := Claim7.holds Tryd.pinned (.plain (OpenSpec.ofChange planShrinksSpec)) planShrinksCard

/-- THE TIED CARD OF 'gleaninglaw14.PlanLeaf'. -/
def planLeafCard : Claim7 := { stood := { row := planLeafRow, standIns := [], harness := (true, "797c180cc953289910f85f28a60e82c44dd4615f357ec0af6043bc53da3cb03a"), looks := false }, kinds := [], alts := [], laidByText := true, laidKinds := [.listed, .data], laidTests := true, laidLooks := .later }
def PlanLeafCardSaid : Prop := Claim7.holds Tryd.pinned (.plain (OpenSpec.ofChange planLeafSpec)) planLeafCard

/-- THE SECOND FORM's CARD OF 'gleaninglaw28.ScriptDecodes'. -/
def scriptDecodesUptoCard : Claim7 := { stood := { row := scriptDecodesUptoRow, standIns := [], harness := (true, "797c180cc953289910f85f28a60e82c44dd4615f357ec0af6043bc53da3cb03a"), looks := false }, kinds := [], alts := [], laidByText := true, laidKinds := [.listed, .data], laidTests := true, laidLooks := .later }
def ScriptDecodesUptoCardSaid : Prop := Claim7.holds Tryd.pinned (.plain (OpenSpec.upto scriptDecodesSpec)) scriptDecodesUptoCard

/-- THE SECOND FORM's CARD OF 'gleaninglaw28.ScriptLines'. -/
def scriptLinesUptoCard : Claim7 := { stood := { row := scriptLinesUptoRow, standIns := [], harness := (true, "797c180cc953289910f85f28a60e82c44dd4615f357ec0af6043bc53da3cb03a"), looks := false }, kinds := [], alts := [], laidByText := true, laidKinds := [.listed, .data], laidTests := true, laidLooks := .later }
def ScriptLinesUptoCardSaid : Prop := Claim7.holds Tryd.pinned (.plain (OpenSpec.upto scriptLinesSpec)) scriptLinesUptoCard

/-- THE SECOND FORM's CARD OF 'gleaninglaw14.PlanShrinks'. -/
def planShrinksUptoCard : Claim7 := { stood := { row := planShrinksUptoRow, standIns := [], harness := (true, "797c180cc953289910f85f28a60e82c44dd4615f357ec0af6043bc53da3cb03a"), looks := false }, kinds := [], alts := [], laidByText := true, laidKinds := [.listed, .data], laidTests := true, laidLooks := .later }
def PlanShrinksUptoCardSaid : Prop := Claim7.holds Tryd.pinned (.plain (OpenSpec.upto planShrinksSpec)) planShrinksUptoCard

/-- THE SECOND FORM's CARD OF 'gleaninglaw14.PlanLeaf'. -/
def planLeafUptoCard : Claim7 := { stood := { row := planLeafUptoRow, standIns := [], harness := (true, "797c180cc953289910f85f28a60e82c44dd4615f357ec0af6043bc53da3cb03a"), looks := false }, kinds := [], alts := [], laidByText := true, laidKinds := [.listed, .data], laidTests := true, laidLooks := .later }
def PlanLeafUptoCardSaid : Prop := Claim7.holds Tryd.pinned (.plain (OpenSpec.upto planLeafSpec)) planLeafUptoCard
end Rows
end Go.Proofs.YtfpokmglhaenaaaDoor
