/- Chapter 20's example runs. -/
import Derived.Test.YtnfoapbcpmlikaaDoorSb
import Derived.Test.YtnfoapbcpmlikaaDoorSl
import Derived.Test.YtnfoapbcpmlikaaDoorProg
namespace Go.Proofs.YtnfoapbcpmlikaaDoor.Ex
open Go

set_option maxRecDepth 100000 in
theorem up20 : isY true (callS Tryd.prog noSm 1000 4 []) = true := by kernel_rfl
theorem awake20 (hm : Tryd.prog.follows .mixedOrders = true) : SmCall Tryd.prog 4 (smB true) :=
  smBool_ok Tryd.func4 (by kernel_rfl) (by kernel_rfl) fun w hw => callY_calls hm noSm_ok up20 (us := []) rfl w hw
end Go.Proofs.YtnfoapbcpmlikaaDoor.Ex
