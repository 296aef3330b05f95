/- The example of chapter 36 runs to true. -/
import Derived.Test.YtojfcccobfcomaaGreatDoorExQ
import Derived.Test.YtojfcccobfcomaaGreatDoorProg
namespace Go.Proofs.YtojfcccobfcomaaGreatDoor.RunB
open Go Go.Proofs.YtojfcccobfcomaaGreatDoor.Ex
theorem up : isB true (callS Tryz.prog noSm 1000 28 []) = true := by kernel_rfl
end Go.Proofs.YtojfcccobfcomaaGreatDoor.RunB
