/- The example of chapter 36 runs to true. -/
import Derived.Test.YtbjkadagacdniaaGreatDoorExQ
import Derived.Test.YtbjkadagacdniaaGreatDoorProg
namespace Go.Proofs.YtbjkadagacdniaaGreatDoor.RunB
open Go Go.Proofs.YtbjkadagacdniaaGreatDoor.Ex
theorem up : isB true (callS Tryz.prog noSm 1000 4 []) = true := by kernel_rfl
end Go.Proofs.YtbjkadagacdniaaGreatDoor.RunB
