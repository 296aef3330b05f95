/- Chapter 37's example runs: four schedules, and how long each operation is alone. -/
import Derived.Test.YtiikiphkhfmlcaaGreatDoorR37L1
import Derived.Test.YtiikiphkhfmlcaaGreatDoorR37L2
import Derived.Test.YtiikiphkhfmlcaaGreatDoorR37L3
import Derived.Test.YtiikiphkhfmlcaaGreatDoorR37A
import Derived.Test.YtiikiphkhfmlcaaGreatDoorR37B
import Derived.Test.YtiikiphkhfmlcaaGreatDoorR37C
import Derived.Test.YtiikiphkhfmlcaaGreatDoorR37D
noncomputable section
namespace Go.Proofs.YtiikiphkhfmlcaaGreatDoor.Ex
open Go
theorem smLong37 (hm : Tryz.prog.follows .mixedOrders = true) : SmCall Tryz.prog 7 (tabG tLong) := sm_tab hm smGr37 ⟨run37L1, run37L2, run37L3, trivial⟩
theorem smRun37 (hm : Tryz.prog.follows .mixedOrders = true) : SmCall Tryz.prog 10 (tabG tRun) := sm_tab hm (smL_ok (l := lNw37) ⟨smGrowM, smNw37 hm, trivial⟩) ⟨run37A, run37B, run37C, run37D, trivial⟩
def lAw37 : List (Nat × Sm) := [(7, .call (tabG tLong)), (10, .call (tabG tRun))]
set_option maxRecDepth 100000 in
theorem up37 : isY true (callS Tryz.prog (smL lAw37) 1000 4 []) = true := by kernel_rfl
theorem awake37 (hm : Tryz.prog.follows .mixedOrders = true) : SmCall Tryz.prog 4 (smB true) :=
  smBool_ok Tryz.func4 (by kernel_rfl) (by kernel_rfl) fun w hw => callY_calls hm (smL_ok (l := lAw37) ⟨smLong37 hm, smRun37 hm, trivial⟩) up37 (us := []) rfl w hw
end Go.Proofs.YtiikiphkhfmlcaaGreatDoor.Ex
