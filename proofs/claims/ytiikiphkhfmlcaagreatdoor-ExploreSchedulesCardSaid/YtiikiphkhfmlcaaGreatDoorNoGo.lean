/- No function of this program starts a goroutine: so no row's call does. -/
import Derived.Test.YtiikiphkhfmlcaaGreatDoorProg
import Derived.Test.YtiikiphkhfmlcaaGreatDoorCards
noncomputable section
namespace Go.Proofs.YtiikiphkhfmlcaaGreatDoor.NoGo
open Go

theorem none_goes : Tryz.prog.funcs.any Func.goes = false := by kernel_rfl
theorem goes_no {P : Program} (h : P.funcs.any Func.goes = false) (f : FuncId) : P.goes f = false := by
  have key : ∀ g : Nat, (P.funcs[g]?).any Func.goes = false := fun g => by
    cases hg : P.funcs[g]? with
    | none => rfl
    | some fn =>
      obtain ⟨hlt, rfl⟩ := Array.getElem?_eq_some_iff.1 hg
      have := Array.any_eq_false.1 h g hlt
      simpa using this
  unfold Program.goes
  rw [h, Bool.and_false, Bool.or_false]
  rw [List.any_eq_false]
  intro g _
  rw [key g]; simp
theorem goesBy_no (c : OpenClaim) (hc : c.start = .entering) : false = c.goesBy Tryz.prog := by
  unfold OpenClaim.goesBy Program.goesAt Program.goesFrom
  rw [hc]
  cases Tryz.prog.funcNamed c.func with
  | none => rfl
  | some f => simp [goes_no none_goes f]
end Go.Proofs.YtiikiphkhfmlcaaGreatDoor.NoGo
