/- errors.Is and errors.As at an error of config's make: by contracts. Facts on reflectlite's entries that look into memory. errors.as at config's error. errors.As at config's error. config.field at config's error tells its word; config.why tells ErrBound. Contracts of config.why at nil and at config's own error, for the abstract machine. Contract of config.field at nil and at config's own error, for the abstract machine (errors.errorType reads as it is laid). -/
import Derived.Test.YtdaflnnjfmickaaDoorAr
import Derived.LaidEql
import Derived.Stop.Asserts
import Derived.RowKitTokens
import Derived.Test.YtdaflnnjfmickaaDoorCConf
import Derived.Test.YtdaflnnjfmickaaDoorWi
import Derived.Below
namespace Go.Proofs.YtdaflnnjfmickaaDoor
open Go Go.RowKit Go.Extern.Stop Go.Stop Go.Extern

theorem isTypeOf (v : Value) (w : World) : (Extern.ReflectliteType.typeOf #[.iface 24 v]).run Tryd.prog w = .ok (.iface 122 (.agg #[.pointer (some ⟨7, 24, none⟩)])) w := by kernel_rfl
theorem isComparable (w : World) : ((Extern.ReflectliteType.method fun t => do Extern.Rtype.noPackHeld "Comparable" t; (fun a => Value.bool a.comparable) <$> typeInfo t) #[.agg #[.pointer (some ⟨7, 24, none⟩)]]).run Tryd.prog w = .ok (.bool true) w := by kernel_rfl
theorem isMethodComparable (v : Value) (w : World) : (Go.method 268 122 v "Comparable").run Tryd.prog w = .ok (92, v) w := by kernel_rfl
theorem methodUnwrap (v : Value) (w : World) : (Go.method 268 79 v "Unwrap").run Tryd.prog w = .ok (86, v) w := by kernel_rfl
theorem noIs (v : Value) (xT : TypeId) (w : World) : (Instr.typeAssert (.iface 79 v) xT 134 true).run Tryd.prog w = .ok (.tuple #[.nilIface, .bool false]) w := run_typeAssert_lacksB Tryd.underlying134 (by kernel_rfl) (by kernel_rfl) v xT w
theorem hasUnwrap (v : Value) (xT : TypeId) (w : World) : (Instr.typeAssert (.iface 79 v) xT 129 true).run Tryd.prog w = .ok (.tuple #[.iface 79 v, .bool true]) w := run_typeAssert_hasB Tryd.underlying129 (by kernel_rfl) v xT w
theorem same9 (w : World) : (binOp .eql 56 (.iface 24 (.int .i64 9)) (.iface 24 (.int .i64 9))).run Tryd.prog w = .ok (.bool true) w := by kernel_rfl
set_option maxRecDepth 100000 in
theorem is_fault (pb : Nat) (w : World) (h1 : w.cell? ⟨pb, 1, none⟩ = some (.int .i64 9)) :
    Calls Tryd.prog 42 #[.iface 79 (.pointer (some ⟨pb, 0, none⟩)), .iface 24 (.int .i64 9)] w fun e w' => e = .returned (.bool true) ∧ w' = w := by
  have h8 := @run_callFunc_extern Tryd.prog 56 _ Extern.ReflectliteType.typeOf Tryd.func56 (by kernel_rfl) (by kernel_rfl) (by kernel_rfl) (by kernel_rfl)
  have h32 := @run_callFunc_extern Tryd.prog 92 _ (Extern.ReflectliteType.method fun t => do Extern.Rtype.noPackHeld "Comparable" t; pure (.bool (← typeInfo t).comparable)) Tryd.func92 (by kernel_rfl) (by kernel_rfl) (by kernel_rfl) (by kernel_rfl)
  have tT := isTypeOf
  have cT := isComparable
  have mR := isMethodComparable
  have nW := noIs
  have uW := hasUnwrap
  have mU := methodUnwrap
  have heq := same9
  have hty := run_eql_iface_types (P := Tryd.prog) 79 24 (.pointer (some ⟨pb, 0, none⟩)) (.int .i64 9) Tryd.underlying56 (by decide) w
  go_enter Tryd.func42, Tryd.ntmps42
  go_wp2
  refine wp_loop_rounds 2 ?_
  rw [rounds_succ]
  go_wp2
  rw [rounds_succ]
  go_wp2
  go_ret
  exact ⟨rfl, rfl⟩
end Go.Proofs.YtdaflnnjfmickaaDoor
namespace Go.Proofs.YtdaflnnjfmickaaDoor
open Go Go.RowKit Go.Extern.Stop Go.Stop Go.Extern

def isN : Value → Sem Value
  | .chan none | .nilFunc | .nilIface | .map none | .pointer none | .slice none _ _ => pure (.bool true)
  | _ => pure (.bool false)
theorem load_bind {P : Program} {w : World} {a : Addr} {v : Value} {f : Value → Sem Value} (h : w.cell? a = some v) : (load a >>= f).run P w = (f v).run P w := by simp [run_load, h]
theorem isNilT (b : Nat) (p : Addr) (w : World) (h : w.cell? ⟨b, 0, none⟩ = some (.pointer (some p))) :
    (Extern.ReflectliteValue.method (Extern.ReflectliteValue.valueError "reflectlite.Value.IsNil" 0) Extern.ReflectliteValue.isNil #[.agg #[.pointer (some ⟨7, 85, none⟩), .pointer (some ⟨b, 0, none⟩), .int .u64 150]]).run Tryd.prog w = .ok (.bool false) w := by
  have e : (Extern.ReflectliteValue.method (Extern.ReflectliteValue.valueError "reflectlite.Value.IsNil" 0) Extern.ReflectliteValue.isNil #[.agg #[.pointer (some ⟨7, 85, none⟩), .pointer (some ⟨b, 0, none⟩), .int .u64 150]]).run Tryd.prog w = (load ⟨b, 0, none⟩ >>= isN).run Tryd.prog w := by kernel_rfl
  rw [e]
  simp [run_load, h, isN]
def elN : Value → Sem Value
  | .pointer none => pure Extern.ReflectliteValue.zeroV
  | .pointer (some p) => Extern.ReflectliteValue.mk 79 p 256
  | _ => Extern.ReflectliteValue.valueError "reflectlite.Value.Elem" 22
theorem elemT (b : Nat) (p : Addr) (w : World) (h : w.cell? ⟨b, 0, none⟩ = some (.pointer (some p))) :
    (Extern.ReflectliteValue.method (Extern.ReflectliteValue.valueError "reflectlite.Value.Elem" 0) Extern.ReflectliteValue.elem #[.agg #[.pointer (some ⟨7, 85, none⟩), .pointer (some ⟨b, 0, none⟩), .int .u64 150]]).run Tryd.prog w = .ok (.agg #[.pointer (some ⟨7, 79, none⟩), .pointer (some p), .int .u64 406]) w := by
  have e : (Extern.ReflectliteValue.method (Extern.ReflectliteValue.valueError "reflectlite.Value.Elem" 0) Extern.ReflectliteValue.elem #[.agg #[.pointer (some ⟨7, 85, none⟩), .pointer (some ⟨b, 0, none⟩), .int .u64 150]]).run Tryd.prog w = (load ⟨b, 0, none⟩ >>= elN).run Tryd.prog w := by kernel_rfl
  refine e.trans ((load_bind h).trans ?_)
  kernel_rfl
theorem setT (a b : Nat) (p : Option Addr) (u : Value) (w : World) (h : w.cell? ⟨b, 0, none⟩ = some (.pointer p)) (h2 : w.cell? ⟨a, 0, none⟩ = some u) (h3 : w.frozen? ⟨a, 0, none⟩ = false) :
    (Extern.ReflectliteValue.set #[.agg #[.pointer (some ⟨7, 79, none⟩), .pointer (some ⟨a, 0, none⟩), .int .u64 406], .agg #[.pointer (some ⟨7, 79, none⟩), .pointer (some ⟨b, 0, none⟩), .int .u64 150]]).run Tryd.prog w = .ok (.tuple #[]) (w.setCell ⟨a, 0, none⟩ (.pointer p)) := by
  have e : (Extern.ReflectliteValue.set #[.agg #[.pointer (some ⟨7, 79, none⟩), .pointer (some ⟨a, 0, none⟩), .int .u64 406], .agg #[.pointer (some ⟨7, 79, none⟩), .pointer (some ⟨b, 0, none⟩), .int .u64 150]]).run Tryd.prog w = (load ⟨b, 0, none⟩ >>= fun v => storeVar 79 ⟨a, 0, none⟩ v >>= fun _ => pure (.tuple #[])).run Tryd.prog w := by kernel_rfl
  rw [e, load_bind h]
  have e2 : ((storeVar 79 ⟨a, 0, none⟩ (.pointer p) >>= fun _ => pure (.tuple #[])) : Sem Value).run Tryd.prog w = ((store ⟨a, 0, none⟩ (.pointer p) >>= fun _ => pure (.tuple #[])) : Sem Value).run Tryd.prog w := by kernel_rfl
  rw [e2]
  simp [run_store _ _ _ _ _ (show (Value.pointer p).oneCell' = true from rfl), h2, h3]
theorem unpackT (a : Option Addr) (w : World) : (Extern.ReflectliteValue.unpack (.iface 85 (.pointer a))).run Tryd.prog w = .ok (.agg #[.pointer (some ⟨7, 85, none⟩), .pointer (some ⟨w.heap.size, 0, none⟩), .int .u64 150]) { w with heap := w.heap.push (.cells #[.pointer a] 85 (0, 0)) } := by kernel_rfl
theorem unpackF (a : Option Addr) (w : World) : (Extern.ReflectliteValue.unpack (.iface 79 (.pointer a))).run Tryd.prog w = .ok (.agg #[.pointer (some ⟨7, 79, none⟩), .pointer (some ⟨w.heap.size, 0, none⟩), .int .u64 150]) { w with heap := w.heap.push (.cells #[.pointer a] 79 (0, 0)) } := by kernel_rfl
theorem valType (a : Option Addr) (n : Int) (w : World) : (Extern.ReflectliteValue.methodAny (Extern.ReflectliteValue.valueError "reflectlite.Value.Type" 0) (fun t _ _ _ => Extern.ReflectliteType.toType t) #[.agg #[.pointer (some ⟨7, 85, none⟩), .pointer (some ⟨w.heap.size, 0, none⟩), .int .u64 150]]).run Tryd.prog w = .ok (.iface 122 (.agg #[.pointer (some ⟨7, 85, none⟩)])) w := by kernel_rfl
theorem valType2 (a : Addr) (w : World) : (Extern.ReflectliteValue.methodAny (Extern.ReflectliteValue.valueError "reflectlite.Value.Type" 0) (fun t _ _ _ => Extern.ReflectliteType.toType t) #[.agg #[.pointer (some ⟨7, 85, none⟩), .pointer (some a), .int .u64 150]]).run Tryd.prog w = .ok (.iface 122 (.agg #[.pointer (some ⟨7, 85, none⟩)])) w := by kernel_rfl
theorem methodKind (v : Value) (w : World) : (Go.method 268 122 (.agg #[v]) "Kind").run Tryd.prog w = .ok (80, v) w := by kernel_rfl
theorem kindTT (w : World) : ((Extern.ReflectliteType.abiMethod fun t => (fun a => Value.int .u8 (a : Nat)) <$> Extern.Rtype.kind t) #[.pointer (some ⟨7, 85, none⟩)]).run Tryd.prog w = .ok (.int .u8 22) w := by kernel_rfl
theorem kindT (w : World) : ((Extern.ReflectliteType.abiMethod fun t => (fun a => Value.int .u8 (a : Nat)) <$> Extern.Rtype.kind t) #[.pointer (some ⟨7, 79, none⟩)]).run Tryd.prog w = .ok (.int .u8 22) w := by kernel_rfl
theorem methodElem (v : Value) (w : World) : (Go.method 268 122 v "Elem").run Tryd.prog w = .ok (93, v) w := by kernel_rfl
theorem methodImpl (v : Value) (w : World) : (Go.method 268 122 v "Implements").run Tryd.prog w = .ok (94, v) w := by kernel_rfl
theorem methodAssign (v : Value) (w : World) : (Go.method 268 122 v "AssignableTo").run Tryd.prog w = .ok (91, v) w := by kernel_rfl
theorem elemTT (w : World) : (Extern.ReflectliteType.method Extern.ReflectliteType.elem #[.agg #[.pointer (some ⟨7, 85, none⟩)]]).run Tryd.prog w = .ok (.iface 122 (.agg #[.pointer (some ⟨7, 79, none⟩)])) w := by kernel_rfl
theorem implT (w : World) : (Extern.ReflectliteType.relation "Implements" Extern.ReflectliteType.implements_ #[.agg #[.pointer (some ⟨7, 79, none⟩)], .iface 122 (.agg #[.pointer (some ⟨7, 56, none⟩)])]).run Tryd.prog w = .ok (.bool true) w := by kernel_rfl
theorem typeOfF (v : Value) (w : World) : (Extern.ReflectliteType.typeOf #[.iface 79 v]).run Tryd.prog w = .ok (.iface 122 (.agg #[.pointer (some ⟨7, 79, none⟩)])) w := by kernel_rfl
theorem assignT (w : World) : (Extern.ReflectliteType.relation "AssignableTo" Extern.ReflectliteType.assignableTo #[.agg #[.pointer (some ⟨7, 79, none⟩)], .iface 122 (.agg #[.pointer (some ⟨7, 79, none⟩)])]).run Tryd.prog w = .ok (.bool true) w := by kernel_rfl
end Go.Proofs.YtdaflnnjfmickaaDoor
namespace Go.Proofs.YtdaflnnjfmickaaDoor
open Go Go.RowKit Go.Extern.Stop Go.Stop Go.Extern

theorem unpackT2 (a : Option Addr) (w : World) : (Extern.ReflectliteValue.unpack (.iface 85 (.pointer a))).run Tryd.prog w = .ok (.agg #[.pointer (some ⟨7, 85, none⟩), .pointer (some ⟨w.heap.size, 0, none⟩), .int .u64 150]) (w.alloc (.cells #[.pointer a] 85)) := unpackT a w
theorem unpackF2 (a : Option Addr) (w : World) : (Extern.ReflectliteValue.unpack (.iface 79 (.pointer a))).run Tryd.prog w = .ok (.agg #[.pointer (some ⟨7, 79, none⟩), .pointer (some ⟨w.heap.size, 0, none⟩), .int .u64 150]) (w.alloc (.cells #[.pointer a] 79)) := unpackF a w
theorem sz_alloc (w : World) (o : Obj) : (w.alloc o).heap.size = w.heap.size + 1 := by show (w.heap.push o).size = _; simp
theorem setT2 (a b : Nat) (p : Option Addr) (w : World) (h : w.cell? ⟨b, 0, none⟩ = some (.pointer p)) (h2 : (w.cell? ⟨a, 0, none⟩).isSome = true) (h3 : w.frozen? ⟨a, 0, none⟩ = false) :
    (Extern.ReflectliteValue.set #[.agg #[.pointer (some ⟨7, 79, none⟩), .pointer (some ⟨a, 0, none⟩), .int .u64 406], .agg #[.pointer (some ⟨7, 79, none⟩), .pointer (some ⟨b, 0, none⟩), .int .u64 150]]).run Tryd.prog w = .ok (.tuple #[]) (w.setCell ⟨a, 0, none⟩ (.pointer p)) := by
  obtain ⟨u, hu⟩ := Option.isSome_iff_exists.1 h2
  exact setT a b p u w h hu h3
theorem frz_past (w : World) (o : Obj) (b : Nat) (h : b < w.heap.size) : (w.alloc o).frozen? ⟨b, 0, none⟩ = w.frozen? ⟨b, 0, none⟩ := World.frozen?_alloc_old _ _ _ (by show b ≠ w.heap.size; omega)
set_option maxRecDepth 100000 in
set_option maxHeartbeats 4000000 in
theorem as_in (pb c vb B : Nat) (w : World) (hB : B ≤ c) (hcl : c < w.heap.size) (hvl : vb < w.heap.size) (hv : w.cell? ⟨vb, 0, none⟩ = some (.pointer (some ⟨c, 0, none⟩))) (hc : w.cell? ⟨c, 0, none⟩ = some (.pointer none)) (hfz : w.frozen? ⟨c, 0, none⟩ = false) :
    Calls Tryd.prog 55 #[.iface 79 (.pointer (some ⟨pb, 0, none⟩)), .iface 85 (.pointer (some ⟨c, 0, none⟩)), .agg #[.pointer (some ⟨7, 85, none⟩), .pointer (some ⟨vb, 0, none⟩), .int .u64 150], .iface 122 (.agg #[.pointer (some ⟨7, 79, none⟩)])] w fun e w' => e = .returned (.bool true) ∧ w'.cell? ⟨c, 0, none⟩ = some (.pointer (some ⟨pb, 0, none⟩)) ∧ Below B w w' := by

  have h82 := @run_callFunc_extern Tryd.prog 52 _ (fun args => Extern.ReflectliteValue.unpack (args.getD 0 (.tuple #[]))) Tryd.func52 (by kernel_rfl) (by kernel_rfl) (by kernel_rfl) (by kernel_rfl)
  have hAl := @World.cell?_alloc_some
  have uT := unpackT2
  have uF := unpackF2
  have h83 := @run_callFunc_extern Tryd.prog 53 _ (Extern.ReflectliteValue.methodAny (Extern.ReflectliteValue.valueError "reflectlite.Value.Type" 0) fun t _ _ _ => Extern.ReflectliteType.toType t) Tryd.func53 (by kernel_rfl) (by kernel_rfl) (by kernel_rfl) (by kernel_rfl)
  have h121 := @run_callFunc_extern Tryd.prog 80 _ (Extern.ReflectliteType.abiMethod fun t => do pure (.int .u8 (← Extern.Rtype.kind t))) Tryd.func80 (by kernel_rfl) (by kernel_rfl) (by kernel_rfl) (by kernel_rfl)
  have h134 := @run_callFunc_extern Tryd.prog 93 _ (Extern.ReflectliteType.method Extern.ReflectliteType.elem) Tryd.func93 (by kernel_rfl) (by kernel_rfl) (by kernel_rfl) (by kernel_rfl)
  have h135 := @run_callFunc_extern Tryd.prog 94 _ (Extern.ReflectliteType.relation "Implements" Extern.ReflectliteType.implements_) Tryd.func94 (by kernel_rfl) (by kernel_rfl) (by kernel_rfl) (by kernel_rfl)
  have h132 := @run_callFunc_extern Tryd.prog 91 _ (Extern.ReflectliteType.relation "AssignableTo" Extern.ReflectliteType.assignableTo) Tryd.func91 (by kernel_rfl) (by kernel_rfl) (by kernel_rfl) (by kernel_rfl)
  have h86 := @run_callFunc_extern Tryd.prog 56 _ Extern.ReflectliteType.typeOf Tryd.func56 (by kernel_rfl) (by kernel_rfl) (by kernel_rfl) (by kernel_rfl)
  have h84 := @run_callFunc_extern Tryd.prog 54 _ (Extern.ReflectliteValue.method (Extern.ReflectliteValue.valueError "reflectlite.Value.IsNil" 0) Extern.ReflectliteValue.isNil) Tryd.func54 (by kernel_rfl) (by kernel_rfl) (by kernel_rfl) (by kernel_rfl)
  have h101 := @run_callFunc_extern Tryd.prog 63 _ (Extern.ReflectliteValue.method (Extern.ReflectliteValue.valueError "reflectlite.Value.Elem" 0) Extern.ReflectliteValue.elem) Tryd.func63 (by kernel_rfl) (by kernel_rfl) (by kernel_rfl) (by kernel_rfl)
  have h102 := @run_callFunc_extern Tryd.prog 64 _ Extern.ReflectliteValue.set Tryd.func64 (by kernel_rfl) (by kernel_rfl) (by kernel_rfl) (by kernel_rfl)
  have f1 := valType2
  have f2 := methodKind
  have f3 := kindTT
  have f4 := kindT
  have f5 := methodElem
  have f6 := methodImpl
  have f7 := methodAssign
  have f8 := elemTT
  have f9 := implT
  have f10 := typeOfF
  have f11 := assignT
  have f12 := isNilT
  have f13 := elemT
  have f14 := setT2
  have f15 := frz_past
  go_enter Tryd.func55, Tryd.ntmps55
  go_wp2
  refine wp_loop_rounds 1 ?_
  rw [rounds_succ]
  go_wp2
  rw [setT2 c (w.heap.size + 1) (some ⟨pb, 0, none⟩) _ (by rw [World.cell?_alloc_at _ _ _ _ (by rw [sz_alloc])]; rfl) (by rw [hAl _ _ _ (by rw [hAl _ _ _ (by rw [hc]; rfl), hc]; rfl), hAl _ _ _ (by rw [hc]; rfl), hc]; rfl) (by rw [frz_past _ _ _ (by rw [sz_alloc]; omega), frz_past _ _ _ hcl, hfz])]
  go_wp2
  go_ret
  refine ⟨rfl, by go_simp, (by ((repeat' (first | exact Below.refl _ _ | assumption | (refine Below_alloc ?_ ?_ _) | (refine Below_ext ?_ ?_ _ _) | (refine Below_setCell ?_ _ _ _ ?_) | apply Below.drew | refine Below_drewN ?_ _)) <;> first | done | (simp; done) | (simp; omega)))⟩
end Go.Proofs.YtdaflnnjfmickaaDoor
namespace Go.Proofs.YtdaflnnjfmickaaDoor
open Go Go.RowKit Go.Extern.Stop Go.Stop Go.Extern

set_option maxRecDepth 100000 in
set_option maxHeartbeats 4000000 in
theorem as_fault (pb c B : Nat) (w : World) (hB : B ≤ c) (hcl : c < w.heap.size) (h1l : 2 < w.heap.size) (hc : w.cell? ⟨c, 0, none⟩ = some (.pointer none)) (hfz : w.frozen? ⟨c, 0, none⟩ = false) (hG : w.cell? ⟨2, 0, none⟩ = some (.iface 122 (.agg #[.pointer (some ⟨7, 56, none⟩)]))) :
    Calls Tryd.prog 41 #[.iface 79 (.pointer (some ⟨pb, 0, none⟩)), .iface 85 (.pointer (some ⟨c, 0, none⟩))] w fun e w' => e = .returned (.bool true) ∧ w'.cell? ⟨c, 0, none⟩ = some (.pointer (some ⟨pb, 0, none⟩)) ∧ Below B w w' := by

  have h82 := @run_callFunc_extern Tryd.prog 52 _ (fun args => Extern.ReflectliteValue.unpack (args.getD 0 (.tuple #[]))) Tryd.func52 (by kernel_rfl) (by kernel_rfl) (by kernel_rfl) (by kernel_rfl)
  have hAl := @World.cell?_alloc_some
  have uT := unpackT2
  have uF := unpackF2
  have h83 := @run_callFunc_extern Tryd.prog 53 _ (Extern.ReflectliteValue.methodAny (Extern.ReflectliteValue.valueError "reflectlite.Value.Type" 0) fun t _ _ _ => Extern.ReflectliteType.toType t) Tryd.func53 (by kernel_rfl) (by kernel_rfl) (by kernel_rfl) (by kernel_rfl)
  have h121 := @run_callFunc_extern Tryd.prog 80 _ (Extern.ReflectliteType.abiMethod fun t => do pure (.int .u8 (← Extern.Rtype.kind t))) Tryd.func80 (by kernel_rfl) (by kernel_rfl) (by kernel_rfl) (by kernel_rfl)
  have h134 := @run_callFunc_extern Tryd.prog 93 _ (Extern.ReflectliteType.method Extern.ReflectliteType.elem) Tryd.func93 (by kernel_rfl) (by kernel_rfl) (by kernel_rfl) (by kernel_rfl)
  have h135 := @run_callFunc_extern Tryd.prog 94 _ (Extern.ReflectliteType.relation "Implements" Extern.ReflectliteType.implements_) Tryd.func94 (by kernel_rfl) (by kernel_rfl) (by kernel_rfl) (by kernel_rfl)
  have h132 := @run_callFunc_extern Tryd.prog 91 _ (Extern.ReflectliteType.relation "AssignableTo" Extern.ReflectliteType.assignableTo) Tryd.func91 (by kernel_rfl) (by kernel_rfl) (by kernel_rfl) (by kernel_rfl)
  have h86 := @run_callFunc_extern Tryd.prog 56 _ Extern.ReflectliteType.typeOf Tryd.func56 (by kernel_rfl) (by kernel_rfl) (by kernel_rfl) (by kernel_rfl)
  have h84 := @run_callFunc_extern Tryd.prog 54 _ (Extern.ReflectliteValue.method (Extern.ReflectliteValue.valueError "reflectlite.Value.IsNil" 0) Extern.ReflectliteValue.isNil) Tryd.func54 (by kernel_rfl) (by kernel_rfl) (by kernel_rfl) (by kernel_rfl)
  have h101 := @run_callFunc_extern Tryd.prog 63 _ (Extern.ReflectliteValue.method (Extern.ReflectliteValue.valueError "reflectlite.Value.Elem" 0) Extern.ReflectliteValue.elem) Tryd.func63 (by kernel_rfl) (by kernel_rfl) (by kernel_rfl) (by kernel_rfl)
  have h102 := @run_callFunc_extern Tryd.prog 64 _ Extern.ReflectliteValue.set Tryd.func64 (by kernel_rfl) (by kernel_rfl) (by kernel_rfl) (by kernel_rfl)
  have f1 := valType2
  have f2 := methodKind
  have f3 := kindTT
  have f4 := kindT
  have f5 := methodElem
  have f6 := methodImpl
  have f7 := methodAssign
  have f8 := elemTT
  have f9 := implT
  have f10 := typeOfF
  have f11 := assignT
  have f12 := isNilT
  have f13 := elemT
  have f14 := setT2
  have two : ∀ o1 o2, ((w.alloc o1).alloc o2).cell? ⟨c, 0, none⟩ = some (.pointer none) := fun o1 o2 => by rw [hAl _ _ _ (by rw [hAl _ _ _ (by rw [hc]; rfl), hc]; rfl), hAl _ _ _ (by rw [hc]; rfl), hc]
  have twoF : ∀ o1 o2, ((w.alloc o1).alloc o2).frozen? ⟨c, 0, none⟩ = false := fun o1 o2 => by rw [frz_past _ _ _ (by rw [sz_alloc]; omega), frz_past _ _ _ hcl, hfz]
  have twoV : ∀ v t o2, ((w.alloc (.cells #[v] t)).alloc o2).cell? ⟨w.heap.size, 0, none⟩ = some v := fun v t o2 => by
    have e : (w.alloc (.cells #[v] t)).cell? ⟨w.heap.size, 0, none⟩ = some v := by rw [World.cell?_alloc_at _ _ _ _ rfl]; rfl
    rw [hAl _ _ _ (by rw [e]; rfl), e]
  go_enter Tryd.func41, Tryd.ntmps41
  go_wp2_with (go_at_call 55; refine (as_in pb c w.heap.size B _ hB (by simp only [sz_alloc]; omega) (by simp only [sz_alloc]; omega) (twoV _ _ _) (two _ _) (twoF _ _)).mono ?_; rintro e w' ⟨rfl, hx1, hx2⟩)
  go_ret
  refine ⟨rfl, hx1, Below.trans ?_ hx2⟩
  refine Below_alloc ?_ ?_ _
  · refine Below_alloc (Below.refl _ _) ?_ _
    omega
  · rw [sz_alloc]; omega
end Go.Proofs.YtdaflnnjfmickaaDoor
namespace Go.Proofs.YtdaflnnjfmickaaDoor
open Go Go.RowKit Go.Extern.Stop Go.Stop Go.Extern

set_option maxRecDepth 100000 in
set_option maxHeartbeats 4000000 in
theorem why_fault (pb : Nat) (w : World) (h1 : w.cell? ⟨pb, 1, none⟩ = some (.int .i64 9)) :
    Calls Tryd.prog 30 #[.iface 79 (.pointer (some ⟨pb, 0, none⟩))] w fun e w' => e = .returned (.int .i64 9) ∧ w' = w := by
  go_enter Tryd.func30, Tryd.ntmps30
  go_wp2_with (go_at_call 42; refine (is_fault pb w h1).mono ?_; rintro e w' ⟨rfl, rfl⟩)
  go_ret
  exact ⟨rfl, rfl⟩
set_option maxRecDepth 100000 in
set_option maxHeartbeats 4000000 in
theorem field_fault (pb : Nat) (s : ByteArray) (w : World) (hpb : pb < w.heap.size) (h1l : 2 < w.heap.size) (h0 : w.cell? ⟨pb, 0, none⟩ = some (.string s)) (hG : w.cell? ⟨2, 0, none⟩ = some (.iface 122 (.agg #[.pointer (some ⟨7, 56, none⟩)]))) :
    Calls Tryd.prog 29 #[.iface 79 (.pointer (some ⟨pb, 0, none⟩))] w fun e w' => e = .returned (.string s) ∧ Below w.heap.size w w' := by
  have hAl := @World.cell?_alloc_some
  have one : ∀ o, (w.alloc o).cell? ⟨pb, 0, none⟩ = some (.string s) := fun o => by rw [hAl _ _ _ (by rw [h0]; rfl), h0]
  have oneG : ∀ o, (w.alloc o).cell? ⟨2, 0, none⟩ = some (.iface 122 (.agg #[.pointer (some ⟨7, 56, none⟩)])) := fun o => by rw [hAl _ _ _ (by rw [hG]; rfl), hG]
  have oneC : ∀ v t, (w.alloc (.cells #[v] t)).cell? ⟨w.heap.size, 0, none⟩ = some v := fun v t => by rw [World.cell?_alloc_at _ _ _ _ rfl]; rfl
  have oneF : ∀ v t, (w.alloc (.cells #[v] t)).frozen? ⟨w.heap.size, 0, none⟩ = false := fun v t => by rw [World.frozen?_alloc_at _ _ _ _ rfl]
  go_enter Tryd.func29, Tryd.ntmps29
  go_wp2_with (go_at_call 41; refine (as_fault pb w.heap.size w.heap.size _ (Nat.le_refl _) (by rw [sz_alloc]; omega) (by rw [sz_alloc]; omega) (oneC _ _) (oneF _ _) (oneG _)).mono ?_; rintro e w' ⟨rfl, hx1, hx2⟩; have hx3 := (hx2.cell (p := ⟨pb, 0, none⟩) hpb).trans (one _))
  go_ret
  refine ⟨rfl, Below.trans ?_ hx2⟩
  exact Below_alloc (Below.refl _ _) (Nat.le_refl _) _
end Go.Proofs.YtdaflnnjfmickaaDoor
namespace Go.Proofs.YtdaflnnjfmickaaDoor.Ex
open Go Go.RowKit

/-- A contract of the machine's, by hand: it changes nothing that was there. -/
theorem call_by {P : Program} {f : FuncId} {fn : Func} {g : List AV → AH → Option (AV × AH)} (hf : P.funcs[f]? = some fn) (hok : okFn fn = true) (hb : fn.body.isSome = true)
    (hc : ∀ args h v h', g args h = some (v, h') → h' = h ∧ ∀ M us w, AV.RL M args us → Rel M h w → Calls P f us.toArray w fun e w' => ∃ u, e = .returned u ∧ v.R M u ∧ Below w.heap.size w w') :
    SmCall P f g := by
  intro args h v h' hg
  obtain ⟨rfl, hc⟩ := hc args h v h' hg
  refine ⟨⟨Nat.le_refl _, Ab.refl _⟩, fun M us w r R ra rr fr k => ⟨?_, ?_⟩⟩
  · have hnn : ¬ (fn.name = "runtime.NumGoroutine") := by simpa [okFn] using hok
    cases hbb : fn.body with
    | none => rw [hbb] at hb; cases hb
    | some c => simp [callFunc, hf, hnn, hbb]
  · exact (callsIn_wide (n := 0)).2 ((hc M us w ra rr).mono fun e w' ⟨u, he, hr, hbl⟩ => by
      subst he
      exact k M u w' hr (rr.below hbl) ⟨hbl.os, hbl.tape, hbl.output, hbl.size, Le.refl M, fun _ e => absurd rfl e, fun q hq _ => hbl.block q hq, fun id b2 κ o q1 q2 => .inr ⟨id, κ, o, q1, q2, fun e => e⟩, fun b cs e => .inl e⟩ (Ab.refl _))
def whyG (args : List AV) (h : AH) : Option (AV × AH) :=
  match args with
  | [.ni] => some (.i .i64 0, h)
  | [.ifc t (.ptr id 0)] => bif Nat.beq t 79 then (match h.get id with | some (.cells [.s _, .i .i64 (.ofNat 9)] _ none) => some (.i .i64 9, h) | _ => none) else none
  | _ => none
theorem why_nil (w : World) : Calls Tryd.prog 30 #[.nilIface] w fun e w' => e = .returned (.int .i64 0) ∧ w' = w := by
  go_enter Tryd.func30, Tryd.ntmps30
  go_wp2
  go_ret
  exact ⟨rfl, rfl⟩
theorem smWhy : SmCall Tryd.prog 30 whyG :=
  call_by Tryd.func30 (by kernel_rfl) (by kernel_rfl) (fun args h v h' hg => by
    unfold whyG at hg
    split at hg
    · simp only [Option.some.injEq, Prod.mk.injEq] at hg
      obtain ⟨rfl, rfl⟩ := hg
      refine ⟨rfl, fun M us w ra rr => ?_⟩
      obtain ⟨u, us', r1, r2, rfl⟩ := ra
      obtain rfl : us' = [] := r2
      obtain rfl : u = .nilIface := r1
      exact (why_nil w).mono fun e w' ⟨he, hw⟩ => ⟨_, he, rfl, by subst hw; exact Below.refl _ _⟩
    · rename_i t id
      simp only [Bool.cond_eq_ite] at hg
      split at hg
      · rename_i ht
        obtain rfl := beqN ht
        split at hg
        · rename_i s et hgid
          simp only [Option.some.injEq, Prod.mk.injEq] at hg
          obtain ⟨rfl, rfl⟩ := hg
          refine ⟨rfl, fun M us w ra rr => ?_⟩
          obtain ⟨u, us', r1, r2, rfl⟩ := ra
          obtain rfl : us' = [] := r2
          simp only [AV.R] at r1
          obtain ⟨x, ⟨b, κ, hM, rfl⟩, rfl⟩ := r1
          obtain ⟨ob, hbk, vs, rest, rl, rfl, hrest⟩ := Ob_of rr hgid hM
          obtain ⟨v0, vs0, q0, q1, rfl⟩ := rl
          obtain ⟨v1, vs1, q2, q3, rfl⟩ := q1
          obtain rfl : v1 = .int .i64 9 := q2
          exact (why_fault b w (by simp [World.cell?, hbk])).mono fun e w' ⟨he, hw⟩ => ⟨_, he, rfl, by subst hw; exact Below.refl _ _⟩
        · cases hg
      · cases hg
    · cases hg)
end Go.Proofs.YtdaflnnjfmickaaDoor.Ex
namespace Go.Proofs.YtdaflnnjfmickaaDoor.Ex
open Go Go.RowKit

def errT : Value := .iface 122 (.agg #[.pointer (some ⟨7, 56, none⟩)])
theorem gl1 : GL 2 = some [.o errT] := by kernel_rfl
def fldG (args : List AV) (h : AH) : Option (AV × AH) :=
  match args with
  | [.ni] => some (.s [], h)
  | [.ifc t (.ptr id 0)] => bif Nat.beq t 79 then (match h.get id with | some (.cells [.s l, .i .i64 (.ofNat 9)] _ none) => some (.s l, h) | _ => none) else none
  | _ => none
theorem field_nil (w : World) : Calls Tryd.prog 29 #[.nilIface] w fun e w' => e = .returned (.string ⟨#[]⟩) ∧ Below w.heap.size w w' := by
  go_enter Tryd.func29, Tryd.ntmps29
  go_wp2
  go_ret
  exact ⟨rfl, (by ((repeat' (first | exact Below.refl _ _ | assumption | (refine Below_alloc ?_ ?_ _) | (refine Below_ext ?_ ?_ _ _) | (refine Below_setCell ?_ _ _ _ ?_) | apply Below.drew | refine Below_drewN ?_ _)) <;> first | done | (simp; done) | (simp; omega)))⟩
theorem smField : SmCall Tryd.prog 29 fldG :=
  call_by Tryd.func29 (by kernel_rfl) (by kernel_rfl) (fun args h v h' hg => by
    unfold fldG at hg
    split at hg
    · simp only [Option.some.injEq, Prod.mk.injEq] at hg
      obtain ⟨rfl, rfl⟩ := hg
      refine ⟨rfl, fun M us w ra rr => ?_⟩
      obtain ⟨u, us', r1, r2, rfl⟩ := ra
      obtain rfl : us' = [] := r2
      obtain rfl : u = .nilIface := r1
      exact (field_nil w).mono fun e w' ⟨he, hw⟩ => ⟨_, he, rfl, hw⟩
    · rename_i t id
      simp only [Bool.cond_eq_ite] at hg
      split at hg
      · rename_i ht
        obtain rfl := beqN ht
        split at hg
        · rename_i l et hgid
          simp only [Option.some.injEq, Prod.mk.injEq] at hg
          obtain ⟨rfl, rfl⟩ := hg
          refine ⟨rfl, fun M us w ra rr => ?_⟩
          obtain ⟨u, us', r1, r2, rfl⟩ := ra
          obtain rfl : us' = [] := r2
          simp only [AV.R] at r1
          obtain ⟨x, ⟨b, κ, hM, rfl⟩, rfl⟩ := r1
          obtain ⟨ob, hbk, vs, rest, rl, rfl, hrest⟩ := Ob_of rr hgid hM
          obtain ⟨v0, vs0, q0, q1, rfl⟩ := rl
          obtain rfl : v0 = .string ⟨l.toArray⟩ := q0
          obtain ⟨gs, ge, gfr, g1, g2⟩ := rr.gw 2 _ gl1
          obtain ⟨z0, zs, z1, z2, rfl⟩ := g2
          obtain rfl : z0 = errT := z1
          exact (field_fault b ⟨l.toArray⟩ w (heap_lt hbk) (heap_lt g1) (by simp [World.cell?, hbk]) (by simp [World.cell?, g1, errT])).mono fun e w' ⟨he, hw⟩ => ⟨_, he, rfl, hw⟩
        · cases hg
      · cases hg
    · cases hg)
end Go.Proofs.YtdaflnnjfmickaaDoor.Ex
