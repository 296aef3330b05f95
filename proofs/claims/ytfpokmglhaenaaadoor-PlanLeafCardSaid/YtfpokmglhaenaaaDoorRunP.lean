/- The example of chapter 14 runs to true. -/
import Derived.Test.YtfpokmglhaenaaaDoorExQ
import Derived.Test.YtfpokmglhaenaaaDoorProg
namespace Go.Proofs.YtfpokmglhaenaaaDoor.RunP
open Go Go.Proofs.YtfpokmglhaenaaaDoor.Ex
theorem up : isB true (callS Tryd.prog noSm 1000 17 []) = true := by kernel_rfl
end Go.Proofs.YtfpokmglhaenaaaDoor.RunP
