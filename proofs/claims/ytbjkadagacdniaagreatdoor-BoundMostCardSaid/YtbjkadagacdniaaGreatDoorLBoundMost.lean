/- The law BoundMost returns true for every list of configurations, where strings.asciiSpace reads as its initialiser lays it; the row and its tied card. -/
import Derived.Test.YtbjkadagacdniaaGreatDoorLBoundMostB
import Derived.Test.YtbjkadagacdniaaGreatDoorNoGo
namespace Go.Proofs.YtbjkadagacdniaaGreatDoor.LBoundMost
open Go Go.RowKit Go.WideShapes Go.ChangeShapes Go.Proofs.YtbjkadagacdniaaGreatDoor.Ex Go.Proofs.YtbjkadagacdniaaGreatDoor.Lw Go.Proofs.YtbjkadagacdniaaGreatDoor.LaidD
theorem holds : Rows.BoundMostCardSaid :=
  Claim7.holds_tied_plain_at .later [] [.listed, .data] true Rows.boundMostCard.stood.harness true
    row (fun _ h => by cases h) (by as_aux_lemma => kernel_rfl) (fun _ h => by cases h) boundMost_row_tie rfl ⟨rfl, rfl⟩ (by as_aux_lemma => kernel_rfl) rfl
    (fun f fn hf hfn => by
      obtain rfl : f = 3 := Option.some.inj ((show Tryz.prog.funcNamed "gleaning/gleaninglaw36.BoundMost" = some 3 by kernel_rfl).symm.trans hf) |>.symm
      obtain rfl : fn = Tryz.f3 := (Option.some.inj (Tryz.func3.symm.trans hfn)).symm
      exact ⟨by kernel_rfl, fun j t ht => by
        rw [Tryz.params3] at ht
        have hm : t ∈ [22] := by simpa using Array.mem_of_getElem? ht
        have hall : ([22].all fun u => !Tryz.prog.wantsStandIn u) = true := by kernel_rfl
        exact (show Tryz.prog.wantsStandIn t = false by simpa using List.all_eq_true.1 hall t hm)⟩)
    (NoGo.goesBy_no _ rfl)
#print axioms holds
end Go.Proofs.YtbjkadagacdniaaGreatDoor.LBoundMost
