/- The example of chapter 33 runs to true. -/
import Derived.Test.YtppcjdhohohcfaaGreatDoorCenS
import Derived.Test.YtppcjdhohohcfaaGreatDoorExQ
import Derived.Test.YtppcjdhohohcfaaGreatDoorProg
namespace Go.Proofs.YtppcjdhohohcfaaGreatDoor.RunC
open Go Go.Proofs.YtppcjdhohohcfaaGreatDoor.Ex
def lCen : List (Nat × Sm) := [(7, .ct (ctS [.agg [cI, cI, cI, cI, cI, none], .cell none] fCen))]
set_option maxRecDepth 100000 in
theorem lCen_ok : SmAll Tryz.prog lCen := ⟨smCen, trivial⟩
theorem up : isB true (callS Tryz.prog (smL lCen) 1000 10 []) = true := by kernel_rfl
end Go.Proofs.YtppcjdhohohcfaaGreatDoor.RunC
