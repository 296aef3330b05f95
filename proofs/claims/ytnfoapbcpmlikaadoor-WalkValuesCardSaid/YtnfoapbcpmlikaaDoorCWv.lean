/- Contracts of walks, named by their runs: layout.New, walk.New, Took, Want. -/
import Derived.Test.YtnfoapbcpmlikaaDoorCf
import Derived.Test.YtnfoapbcpmlikaaDoorProg
namespace Go.Proofs.YtnfoapbcpmlikaaDoor.Ex
open Go

-- HIDE runLay runNew runTook runWant
abbrev kI : KA := .i .i64
abbrev kU : KA := .i .u64
abbrev kC : List KA := [kI, kI, kI, kI, kI]
abbrev kW : List KA := [kU, kU, kI, kI, kU, kU, kI, .b, kI, kI, kI, kI, kI, kI, kI, kI, kU, .b, .b, kI, kI, kI, kI, kI, kU, kI, kU, kI, kU, kU, kI, kU, kU, kI]
abbrev kA : List KA := [kI, kI, kU, kU]
abbrev aLay : List Ar := [.agg kC]
abbrev aNew : List Ar := [.agg kC, .one kI, .one kI, .one kU, .one .b]
abbrev aTook : List Ar := [.agg kW, .one kU]
abbrev aWant : List Ar := [.agg kW]
noncomputable def runLay (ds : List Da) : Outc := runC Tryd.prog noSm 6 (gsOf aLay) ds
noncomputable def runNew (ds : List Da) : Outc := runC Tryd.prog noSm 5 (gsOf aNew) ds
noncomputable def runTook (ds : List Da) : Outc := runC Tryd.prog noSm 7 (gsOf aTook) ds
noncomputable def runWant (ds : List Da) : Outc := runC Tryd.prog noSm 9 (gsOf aWant) ds
abbrev okF (f : FuncId) (ar : List Ar) (rs : Rs) : Prop := ∀ ci cb, (callT Tryd.prog ⟨execT Tryd.prog noSm 1000, noSm⟩ f (canA (gsOf ar) (dsOf ar ci cb 0) []).1 (heapOf (canA (gsOf ar) (dsOf ar ci cb 0) []).2)).allB (fun p => okRs rs p.1) = true
theorem okLay : okF 6 aLay (.agg kC) := by intro ci cb; kernel_rfl
theorem okNew : okF 5 aNew (.agg kW) := by intro ci cb; kernel_rfl
theorem okWant : okF 9 aWant (.agg kA) := by intro ci cb; kernel_rfl
theorem okTook : okF 7 aTook (.agg kW) := by intro ci cb; kernel_rfl
theorem smLay (hm : Tryd.prog.follows .mixedOrders = true) : SmCall Tryd.prog 6 (fun args h => (ctS (gsOf aLay) (fCf aLay (.agg kC) runLay) args h).sel) :=
  cf_ok hm noSm_ok (by decide) (fun _ => rfl) okLay
theorem smNew (hm : Tryd.prog.follows .mixedOrders = true) : SmCall Tryd.prog 5 (fun args h => (ctS (gsOf aNew) (fCf aNew (.agg kW) runNew) args h).sel) :=
  cf_ok hm noSm_ok (by decide) (fun _ => rfl) okNew
theorem smTook (hm : Tryd.prog.follows .mixedOrders = true) : SmCall Tryd.prog 7 (fun args h => (ctS (gsOf aTook) (fCf aTook (.agg kW) runTook) args h).sel) :=
  cf_ok hm noSm_ok (by decide) (fun _ => rfl) okTook
theorem smWant (hm : Tryd.prog.follows .mixedOrders = true) : SmCall Tryd.prog 9 (fun args h => (ctS (gsOf aWant) (fCf aWant (.agg kA) runWant) args h).sel) :=
  cf_ok hm noSm_ok (by decide) (fun _ => rfl) okWant
end Go.Proofs.YtnfoapbcpmlikaaDoor.Ex
