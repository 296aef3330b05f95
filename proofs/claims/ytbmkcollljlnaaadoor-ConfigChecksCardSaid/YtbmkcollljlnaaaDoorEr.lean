/- errors.Is and errors.As at an error of config's make: by contracts. -/
import Derived.Test.YtbmkcollljlnaaaDoorAr
import Derived.LaidEql
import Derived.Stop.Asserts
import Derived.RowKitTokens
namespace Go.Proofs.YtbmkcollljlnaaaDoor
open Go Go.RowKit Go.Extern.Stop Go.Stop Go.Extern

theorem isTypeOf (v : Value) (w : World) : (Extern.ReflectliteType.typeOf #[.iface 24 v]).run Tryd.prog w = .ok (.iface 74 (.agg #[.pointer (some ⟨4, 24, none⟩)])) w := by kernel_rfl
theorem isComparable (w : World) : ((Extern.ReflectliteType.method fun t => do Extern.Rtype.noPackHeld "Comparable" t; (fun a => Value.bool a.comparable) <$> typeInfo t) #[.agg #[.pointer (some ⟨4, 24, none⟩)]]).run Tryd.prog w = .ok (.bool true) w := by kernel_rfl
theorem isMethodComparable (v : Value) (w : World) : (Go.method 231 74 v "Comparable").run Tryd.prog w = .ok (56, v) w := by kernel_rfl
theorem methodUnwrap (v : Value) (w : World) : (Go.method 231 44 v "Unwrap").run Tryd.prog w = .ok (50, v) w := by kernel_rfl
theorem noIs (v : Value) (xT : TypeId) (w : World) : (Instr.typeAssert (.iface 44 v) xT 86 true).run Tryd.prog w = .ok (.tuple #[.nilIface, .bool false]) w := run_typeAssert_lacksB Tryd.underlying86 (by kernel_rfl) (by kernel_rfl) v xT w
theorem hasUnwrap (v : Value) (xT : TypeId) (w : World) : (Instr.typeAssert (.iface 44 v) xT 81 true).run Tryd.prog w = .ok (.tuple #[.iface 44 v, .bool true]) w := run_typeAssert_hasB Tryd.underlying81 (by kernel_rfl) v xT w
theorem same9 (w : World) : (binOp .eql 32 (.iface 24 (.int .i64 9)) (.iface 24 (.int .i64 9))).run Tryd.prog w = .ok (.bool true) w := by kernel_rfl
set_option maxRecDepth 100000 in
theorem is_fault (pb : Nat) (w : World) (h1 : w.cell? ⟨pb, 1, none⟩ = some (.int .i64 9)) :
    Calls Tryd.prog 17 #[.iface 44 (.pointer (some ⟨pb, 0, none⟩)), .iface 24 (.int .i64 9)] w fun e w' => e = .returned (.bool true) ∧ w' = w := by
  have h8 := @run_callFunc_extern Tryd.prog 24 _ Extern.ReflectliteType.typeOf Tryd.func24 (by kernel_rfl) (by kernel_rfl) (by kernel_rfl) (by kernel_rfl)
  have h32 := @run_callFunc_extern Tryd.prog 56 _ (Extern.ReflectliteType.method fun t => do Extern.Rtype.noPackHeld "Comparable" t; pure (.bool (← typeInfo t).comparable)) Tryd.func56 (by kernel_rfl) (by kernel_rfl) (by kernel_rfl) (by kernel_rfl)
  have tT := isTypeOf
  have cT := isComparable
  have mR := isMethodComparable
  have nW := noIs
  have uW := hasUnwrap
  have mU := methodUnwrap
  have heq := same9
  have hty := run_eql_iface_types (P := Tryd.prog) 44 24 (.pointer (some ⟨pb, 0, none⟩)) (.int .i64 9) Tryd.underlying32 (by decide) w
  go_enter Tryd.func17, Tryd.ntmps17
  go_wp2
  refine wp_loop_rounds 2 ?_
  rw [rounds_succ]
  go_wp2
  rw [rounds_succ]
  go_wp2
  go_ret
  exact ⟨rfl, rfl⟩
end Go.Proofs.YtbmkcollljlnaaaDoor
