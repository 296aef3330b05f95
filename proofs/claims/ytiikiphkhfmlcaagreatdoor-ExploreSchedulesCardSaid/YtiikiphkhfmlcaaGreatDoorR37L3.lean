/- Chapter 37's example: one run. -/
import Derived.Test.YtiikiphkhfmlcaaGreatDoorR37
noncomputable section
namespace Go.Proofs.YtiikiphkhfmlcaaGreatDoor.Ex
open Go
set_option maxRecDepth 100000 in
theorem run37L3 : okX (.lit (.i .i64 15)) (callS Tryz.prog (smL lGr37) 1000 7 [cC37, .ns, oZ37]) = true := by kernel_rfl
end Go.Proofs.YtiikiphkhfmlcaaGreatDoor.Ex
