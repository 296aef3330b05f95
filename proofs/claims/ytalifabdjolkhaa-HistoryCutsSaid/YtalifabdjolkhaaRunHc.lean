/- Chapter 29's example runs. -/
import Derived.Test.YtalifabdjolkhaaSb
import Derived.Test.YtalifabdjolkhaaSl
import Derived.Test.YtalifabdjolkhaaProg
namespace Go.Proofs.Ytalifabdjolkhaa.Ex
open Go

set_option maxRecDepth 100000 in
theorem up29 : isY true (callS Try.prog noSm 1000 5 []) = true := by kernel_rfl
theorem awake29 (hm : Try.prog.follows .mixedOrders = true) : SmCall Try.prog 5 (smB true) :=
  smBool_ok Try.func5 (by kernel_rfl) (by kernel_rfl) fun w hw => callY_calls hm noSm_ok up29 (us := []) rfl w hw
end Go.Proofs.Ytalifabdjolkhaa.Ex
