/- The law BoundNobody returns true for every two numbers, where strings.asciiSpace reads as its initialiser lays it; the row and its tied card. -/
import Derived.Test.YtojfcccobfcomaaGreatDoorLBoundNobodyB
import Derived.Test.YtojfcccobfcomaaGreatDoorNoGo
namespace Go.Proofs.YtojfcccobfcomaaGreatDoor.LBoundNobody
open Go Go.RowKit Go.WideShapes Go.ChangeShapes Go.Proofs.YtojfcccobfcomaaGreatDoor.Ex Go.Proofs.YtojfcccobfcomaaGreatDoor.Lw Go.Proofs.YtojfcccobfcomaaGreatDoor.LaidD
theorem holds : Rows.BoundNobodyCardSaid :=
  Claim7.holds_tied_plain_at .later [] [.listed, .data] true Rows.boundNobodyCard.stood.harness true
    row (fun _ h => by cases h) (by as_aux_lemma => kernel_rfl) (fun _ h => by cases h) boundNobody_row_tie rfl ⟨rfl, rfl⟩ (by as_aux_lemma => kernel_rfl) rfl
    (fun f fn hf hfn => by
      obtain rfl : f = 5 := Option.some.inj ((show Tryz.prog.funcNamed "gleaning/gleaninglaw36.BoundNobody" = some 5 by kernel_rfl).symm.trans hf) |>.symm
      obtain rfl : fn = Tryz.f5 := (Option.some.inj (Tryz.func5.symm.trans hfn)).symm
      exact ⟨by kernel_rfl, fun j t ht => by
        rw [Tryz.params5] at ht
        have hm : t ∈ [3, 3] := by simpa using Array.mem_of_getElem? ht
        have hall : ([3, 3].all fun u => !Tryz.prog.wantsStandIn u) = true := by kernel_rfl
        exact (show Tryz.prog.wantsStandIn t = false by simpa using List.all_eq_true.1 hall t hm)⟩)
    (NoGo.goesBy_no _ rfl)
#print axioms holds
end Go.Proofs.YtojfcccobfcomaaGreatDoor.LBoundNobody
