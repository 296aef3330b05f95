/- Chapter 37's example: one run. -/
import Derived.Test.YtiikiphkhfmlcaaGreatDoorR37
noncomputable section
namespace Go.Proofs.YtiikiphkhfmlcaaGreatDoor.Ex
open Go
set_option maxRecDepth 100000 in
theorem run37D : okX (.ptr 0 (oc37 1 0 2 5 1)) (callS Tryz.prog (smL lNw37) 1000 10 [cC37, .ns, oP37, oG37, .i .i64 11, .i .i64 11]) = true := by kernel_rfl
end Go.Proofs.YtiikiphkhfmlcaaGreatDoor.Ex
