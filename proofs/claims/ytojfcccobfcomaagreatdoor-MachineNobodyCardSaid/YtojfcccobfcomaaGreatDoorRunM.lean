/- The example of chapter 27 runs to true. -/
import Derived.Test.YtojfcccobfcomaaGreatDoorExQ
import Derived.Test.YtojfcccobfcomaaGreatDoorProg
namespace Go.Proofs.YtojfcccobfcomaaGreatDoor.RunM
open Go Go.Proofs.YtojfcccobfcomaaGreatDoor.Ex
theorem up : isB true (callS Tryz.prog noSm 1000 39 []) = true := by kernel_rfl
end Go.Proofs.YtojfcccobfcomaaGreatDoor.RunM
