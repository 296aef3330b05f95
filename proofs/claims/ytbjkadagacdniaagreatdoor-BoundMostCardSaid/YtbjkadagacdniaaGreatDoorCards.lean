/-
  DERIVED. GIVEN WITH THE SEED: THE CARDS: each row of YtbjkadagacdniaaGreatDoorRows.lean that lists a variable, with what it lists TIED to the program's text (the seventh form; the later family's looks); each row that meets fmt, with fmt's text TOLD by the authors' own Lean function (tested against real Go, not proved from fmt's source: count such statements apart). THE CARD IS WHAT COUNTS. Prove the row's statement (the work); the ties are given (YtbjkadagacdniaaGreatDoorTie.lean); close each card by the builder's one call (the guide's Derived/Test/ToyasCard.lean, 'card_holds'). Laid BY PROGRAM, IN A SANDBOX (cutbox-door.mjs). By AI agents, Wed Nov 11 2026. No macro, syntax, notation, axiom, sorry.
-/
import Derived.Test.YtbjkadagacdniaaGreatDoorRows
import GoSem.ClaimSeven
namespace Go.Proofs.YtbjkadagacdniaaGreatDoor
namespace Rows

/-- THE TIED CARD OF 'gleaninglaw36.BoundMost'. -/
def boundMostCard : Claim7 := { stood := { row := boundMostRow, standIns := [], harness := (true, "ab243d76f084e7a3ef3125407f94a5a3546d6870198881feea10f1ed0ee0271e"), looks := true }, kinds := [], alts := [], laidByText := true, laidKinds := [.listed, .data], laidTests := true, laidLooks := .later }
def BoundMostCardSaid : Prop := Claim7.holds Tryz.pinned (.plain (OpenSpec.ofChange boundMostSpec)) boundMostCard

/-- THE SECOND FORM's CARD OF 'gleaninglaw36.BoundMost'. -/
def boundMostUptoCard : Claim7 := { stood := { row := boundMostUptoRow, standIns := [], harness := (true, "ab243d76f084e7a3ef3125407f94a5a3546d6870198881feea10f1ed0ee0271e"), looks := true }, kinds := [], alts := [], laidByText := true, laidKinds := [.listed, .data], laidTests := true, laidLooks := .later }
def BoundMostUptoCardSaid : Prop := Claim7.holds Tryz.pinned (.plain (OpenSpec.upto boundMostSpec)) boundMostUptoCard
end Rows
end Go.Proofs.YtbjkadagacdniaaGreatDoor
