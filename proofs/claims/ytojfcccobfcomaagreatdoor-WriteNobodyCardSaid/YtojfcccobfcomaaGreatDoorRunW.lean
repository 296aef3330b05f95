/- The example of chapter 25 runs to true. -/
import Derived.Test.YtojfcccobfcomaaGreatDoorExQ
import Derived.Test.YtojfcccobfcomaaGreatDoorProg
namespace Go.Proofs.YtojfcccobfcomaaGreatDoor.RunW
open Go Go.Proofs.YtojfcccobfcomaaGreatDoor.Ex
theorem up : isB true (callS Tryz.prog noSm 1000 15 []) = true := by kernel_rfl
end Go.Proofs.YtojfcccobfcomaaGreatDoor.RunW
