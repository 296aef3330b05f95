/- errors.Is of two of the program's error numbers: true exactly where they are one. It changes nothing. -/
import Derived.Test.YtnmdahkoifeimaaDoorChecked
import Derived.WalkKit
import Derived.LaidEql
import Derived.Stop.Asserts
import Derived.RowKitTokens
namespace Go.Proofs.YtnmdahkoifeimaaDoor.IsErrno
open Go Go.RowKit Go.Extern.Stop Go.Stop Go.Extern

theorem isTypeOf (v : Value) (w : World) : (Extern.ReflectliteType.typeOf #[.iface 64 v]).run Tryd.prog w = .ok (.iface 163 (.agg #[.pointer (some ⟨6, 64, none⟩)])) w := by kernel_rfl
def cmpM : Array Value → Sem Value := Extern.ReflectliteType.method fun t => do Go.Extern.Rtype.noPackHeld "Comparable" t; pure (.bool (← typeInfo t).comparable)
theorem isComparable (w : World) : (cmpM #[.agg #[.pointer (some ⟨6, 64, none⟩)]]).run Tryd.prog w = .ok (.bool true) w := by kernel_rfl
theorem isMethodComparable (v : Value) (w : World) : (Go.method 407 163 v "Comparable").run Tryd.prog w = .ok (213, v) w := by kernel_rfl
theorem noIs (v : Value) (xT : TypeId) (w : World) : (Instr.typeAssert (.iface 64 v) xT 165 true).run Tryd.prog w = .ok (.tuple #[.nilIface, .bool false]) w := run_typeAssert_lacksB Tryd.underlying165 (by kernel_rfl) (by kernel_rfl) v xT w
theorem noUnwrap (v : Value) (xT : TypeId) (w : World) : (Instr.typeAssert (.iface 64 v) xT 168 true).run Tryd.prog w = .ok (.tuple #[.nilIface, .bool false]) w := run_typeAssert_lacksB Tryd.underlying168 (by kernel_rfl) (by kernel_rfl) v xT w
theorem noUnwraps (v : Value) (xT : TypeId) (w : World) : (Instr.typeAssert (.iface 64 v) xT 170 true).run Tryd.prog w = .ok (.tuple #[.nilIface, .bool false]) w := run_typeAssert_lacksB Tryd.underlying170 (by kernel_rfl) (by kernel_rfl) v xT w
theorem cmp : (Tryd.prog.info? 64).map (·.comparable) = some true := by kernel_rfl

theorem eqlD (d : Nat) (a b : Int) (w : World) : (Op.equalIn (d + 1 + 1) 130 (.iface 64 (.int .i64 a)) (.iface 64 (.int .i64 b))).run Tryd.prog w = .ok (a == b) w := by
  obtain ⟨i, hi, hcmp⟩ := Option.map_eq_some_iff.1 cmp
  simp [Op.equalIn, run_underlying Tryd.underlying130, run_underlying Tryd.underlying64, typeInfo, hi, hcmp]
theorem eql (a b : Int) (w : World) : (binOp .eql 130 (.iface 64 (.int .i64 a)) (.iface 64 (.int .i64 b))).run Tryd.prog w = .ok (.bool (a == b)) w := by
  simp only [binOp]
  simp [Op.equal, Op.maxDepth, eqlD 9998 a b]

theorem is_same (a : Int) (w : World) : Calls Tryd.prog 42 #[.iface 64 (.int .i64 a), .iface 64 (.int .i64 a)] w fun e w' => e = .returned (.bool true) ∧ w' = w := by
  have h8 := @run_callFunc_extern Tryd.prog 76 _ Extern.ReflectliteType.typeOf Tryd.func76 (by kernel_rfl) (by kernel_rfl) (by kernel_rfl) (by kernel_rfl)
  have h32 := @run_callFunc_extern Tryd.prog 213 _ cmpM Tryd.func213 (by kernel_rfl) (by kernel_rfl) (by kernel_rfl) (by kernel_rfl)
  have tT := isTypeOf
  have cT := isComparable
  have mR := isMethodComparable
  have heq : (binOp .eql 130 (.iface 64 (.int .i64 a)) (.iface 64 (.int .i64 a))).run Tryd.prog w = .ok (.bool true) w := by rw [eql]; simp
  go_enter Tryd.func42, Tryd.ntmps42
  go_wp2
  refine wp_loop_rounds 1 ?_
  rw [rounds_succ]
  go_wp2
  go_ret
  exact ⟨rfl, rfl⟩

theorem is_other (a b : Int) (hab : a ≠ b) (w : World) : Calls Tryd.prog 42 #[.iface 64 (.int .i64 a), .iface 64 (.int .i64 b)] w fun e w' => e = .returned (.bool false) ∧ w' = w := by
  have h8 := @run_callFunc_extern Tryd.prog 76 _ Extern.ReflectliteType.typeOf Tryd.func76 (by kernel_rfl) (by kernel_rfl) (by kernel_rfl) (by kernel_rfl)
  have h32 := @run_callFunc_extern Tryd.prog 213 _ cmpM Tryd.func213 (by kernel_rfl) (by kernel_rfl) (by kernel_rfl) (by kernel_rfl)
  have tT := isTypeOf
  have cT := isComparable
  have mR := isMethodComparable
  have nE := noIs
  have uE := noUnwrap
  have vE := noUnwraps
  have heq : (binOp .eql 130 (.iface 64 (.int .i64 a)) (.iface 64 (.int .i64 b))).run Tryd.prog w = .ok (.bool false) w := by rw [eql]; simp [hab]
  go_enter Tryd.func42, Tryd.ntmps42
  go_wp2
  refine wp_loop_rounds 1 ?_
  rw [rounds_succ]
  go_wp2
  go_ret
  exact ⟨rfl, rfl⟩
end Go.Proofs.YtnmdahkoifeimaaDoor.IsErrno
