/- The law ExploreSchedules returns true for all numbers, where strings.asciiSpace and unicode.White_Space read as their initialisers lay them; the row and its tied card. -/
import Derived.Test.YtiikiphkhfmlcaaGreatDoorLExploreSchedulesB
import Derived.Test.YtiikiphkhfmlcaaGreatDoorNoGo
noncomputable section
namespace Go.Proofs.YtiikiphkhfmlcaaGreatDoor.LExploreSchedules
open Go Go.RowKit Go.WideShapes Go.ChangeShapes Go.Proofs.YtiikiphkhfmlcaaGreatDoor.Ex Go.Proofs.YtiikiphkhfmlcaaGreatDoor.Lw Go.Proofs.YtiikiphkhfmlcaaGreatDoor.LaidD
theorem holds : Rows.ExploreSchedulesCardSaid :=
  Claim7.holds_tied_plain_at .later [] [.listed, .data] true Rows.exploreSchedulesCard.stood.harness true
    row (fun _ h => by cases h) (by as_aux_lemma => kernel_rfl) (fun _ h => by cases h) exploreSchedules_row_tie rfl ⟨rfl, rfl⟩ (by as_aux_lemma => kernel_rfl) rfl
    (fun f fn hf hfn => by
      obtain rfl : f = 3 := Option.some.inj ((show Tryz.prog.funcNamed "gleaning/gleaninglaw37.ExploreSchedules" = some 3 by kernel_rfl).symm.trans hf) |>.symm
      obtain rfl : fn = Tryz.f3 := (Option.some.inj (Tryz.func3.symm.trans hfn)).symm
      exact ⟨by kernel_rfl, fun j t ht => by
        rw [Tryz.params3] at ht
        have hm : t ∈ [3] := by simpa using Array.mem_of_getElem? ht
        have hall : ([3].all fun u => !Tryz.prog.wantsStandIn u) = true := by kernel_rfl
        exact (show Tryz.prog.wantsStandIn t = false by simpa using List.all_eq_true.1 hall t hm)⟩)
    (NoGo.goesBy_no _ rfl)
#print axioms holds
end Go.Proofs.YtiikiphkhfmlcaaGreatDoor.LExploreSchedules
