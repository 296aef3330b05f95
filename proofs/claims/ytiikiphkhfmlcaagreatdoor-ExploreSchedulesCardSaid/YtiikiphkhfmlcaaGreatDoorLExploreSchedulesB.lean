/- The row of ExploreSchedules. -/
import Derived.Test.YtiikiphkhfmlcaaGreatDoorLExploreSchedulesA
noncomputable section
namespace Go.Proofs.YtiikiphkhfmlcaaGreatDoor.LExploreSchedules
open Go Go.RowKit Go.WideShapes Go.ChangeShapes Go.Proofs.YtiikiphkhfmlcaaGreatDoor.Ex Go.Proofs.YtiikiphkhfmlcaaGreatDoor.Lw Go.Proofs.YtiikiphkhfmlcaaGreatDoor.LaidD
theorem and_tt {a b : Bool} (h : a = true) (k : b = true) : (a && b) = true := by rw [h, k]; rfl
set_option maxRecDepth 100000 in
set_option maxHeartbeats 10000000 in
theorem facts : joinedFacts Tryz.prog 3 Tryz.f3 Rows.exploreSchedulesSpec Rows.exploreSchedulesRow = true := by
  unfold joinedFacts
  repeat' (with_reducible refine and_tt ?_ ?_)
  all_goals (as_aux_lemma => kernel_rfl)
theorem row : Rows.ExploreSchedulesSaid :=
  OpenClaim.holds_of_wide 3 Tryz.f3 rfl rfl rfl rfl rfl rfl rfl ⟨rfl, rfl, rfl, rfl, rfl⟩ rfl rfl rfl rfl rfl (by kernel_rfl) Tryz.func3 facts
    (of_decide_eq_true (by kernel_rfl)) (by unfold Func.isWrapper; first | (rw [if_pos (by decide +kernel)]; kernel_rfl) | (rw [if_neg (by decide +kernel)]; exact ⟨rfl, rfl⟩))
    (fun os started H enc _ => lifted os started H enc)
end Go.Proofs.YtiikiphkhfmlcaaGreatDoor.LExploreSchedules
