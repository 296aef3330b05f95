/- Facts on reflectlite's entries that look into memory. -/
import Derived.Test.YtbmkcollljlnaaaDoorEr
namespace Go.Proofs.YtbmkcollljlnaaaDoor
open Go Go.RowKit Go.Extern.Stop Go.Stop Go.Extern

def isN : Value → Sem Value
  | .chan none | .nilFunc | .nilIface | .map none | .pointer none | .slice none _ _ => pure (.bool true)
  | _ => pure (.bool false)
theorem load_bind {P : Program} {w : World} {a : Addr} {v : Value} {f : Value → Sem Value} (h : w.cell? a = some v) : (load a >>= f).run P w = (f v).run P w := by simp [run_load, h]
theorem isNilT (b : Nat) (p : Addr) (w : World) (h : w.cell? ⟨b, 0, none⟩ = some (.pointer (some p))) :
    (Extern.ReflectliteValue.method (Extern.ReflectliteValue.valueError "reflectlite.Value.IsNil" 0) Extern.ReflectliteValue.isNil #[.agg #[.pointer (some ⟨4, 48, none⟩), .pointer (some ⟨b, 0, none⟩), .int .u64 150]]).run Tryd.prog w = .ok (.bool false) w := by
  have e : (Extern.ReflectliteValue.method (Extern.ReflectliteValue.valueError "reflectlite.Value.IsNil" 0) Extern.ReflectliteValue.isNil #[.agg #[.pointer (some ⟨4, 48, none⟩), .pointer (some ⟨b, 0, none⟩), .int .u64 150]]).run Tryd.prog w = (load ⟨b, 0, none⟩ >>= isN).run Tryd.prog w := by kernel_rfl
  rw [e]
  simp [run_load, h, isN]
def elN : Value → Sem Value
  | .pointer none => pure Extern.ReflectliteValue.zeroV
  | .pointer (some p) => Extern.ReflectliteValue.mk 44 p 256
  | _ => Extern.ReflectliteValue.valueError "reflectlite.Value.Elem" 22
theorem elemT (b : Nat) (p : Addr) (w : World) (h : w.cell? ⟨b, 0, none⟩ = some (.pointer (some p))) :
    (Extern.ReflectliteValue.method (Extern.ReflectliteValue.valueError "reflectlite.Value.Elem" 0) Extern.ReflectliteValue.elem #[.agg #[.pointer (some ⟨4, 48, none⟩), .pointer (some ⟨b, 0, none⟩), .int .u64 150]]).run Tryd.prog w = .ok (.agg #[.pointer (some ⟨4, 44, none⟩), .pointer (some p), .int .u64 406]) w := by
  have e : (Extern.ReflectliteValue.method (Extern.ReflectliteValue.valueError "reflectlite.Value.Elem" 0) Extern.ReflectliteValue.elem #[.agg #[.pointer (some ⟨4, 48, none⟩), .pointer (some ⟨b, 0, none⟩), .int .u64 150]]).run Tryd.prog w = (load ⟨b, 0, none⟩ >>= elN).run Tryd.prog w := by kernel_rfl
  refine e.trans ((load_bind h).trans ?_)
  kernel_rfl
theorem setT (a b : Nat) (p : Option Addr) (u : Value) (w : World) (h : w.cell? ⟨b, 0, none⟩ = some (.pointer p)) (h2 : w.cell? ⟨a, 0, none⟩ = some u) (h3 : w.frozen? ⟨a, 0, none⟩ = false) :
    (Extern.ReflectliteValue.set #[.agg #[.pointer (some ⟨4, 44, none⟩), .pointer (some ⟨a, 0, none⟩), .int .u64 406], .agg #[.pointer (some ⟨4, 44, none⟩), .pointer (some ⟨b, 0, none⟩), .int .u64 150]]).run Tryd.prog w = .ok (.tuple #[]) (w.setCell ⟨a, 0, none⟩ (.pointer p)) := by
  have e : (Extern.ReflectliteValue.set #[.agg #[.pointer (some ⟨4, 44, none⟩), .pointer (some ⟨a, 0, none⟩), .int .u64 406], .agg #[.pointer (some ⟨4, 44, none⟩), .pointer (some ⟨b, 0, none⟩), .int .u64 150]]).run Tryd.prog w = (load ⟨b, 0, none⟩ >>= fun v => storeVar 44 ⟨a, 0, none⟩ v >>= fun _ => pure (.tuple #[])).run Tryd.prog w := by kernel_rfl
  rw [e, load_bind h]
  have e2 : ((storeVar 44 ⟨a, 0, none⟩ (.pointer p) >>= fun _ => pure (.tuple #[])) : Sem Value).run Tryd.prog w = ((store ⟨a, 0, none⟩ (.pointer p) >>= fun _ => pure (.tuple #[])) : Sem Value).run Tryd.prog w := by kernel_rfl
  rw [e2]
  simp [run_store _ _ _ _ _ (show (Value.pointer p).oneCell' = true from rfl), h2, h3]
theorem unpackT (a : Option Addr) (w : World) : (Extern.ReflectliteValue.unpack (.iface 48 (.pointer a))).run Tryd.prog w = .ok (.agg #[.pointer (some ⟨4, 48, none⟩), .pointer (some ⟨w.heap.size, 0, none⟩), .int .u64 150]) { w with heap := w.heap.push (.cells #[.pointer a] 48 (0, 0)) } := by kernel_rfl
theorem unpackF (a : Option Addr) (w : World) : (Extern.ReflectliteValue.unpack (.iface 44 (.pointer a))).run Tryd.prog w = .ok (.agg #[.pointer (some ⟨4, 44, none⟩), .pointer (some ⟨w.heap.size, 0, none⟩), .int .u64 150]) { w with heap := w.heap.push (.cells #[.pointer a] 44 (0, 0)) } := by kernel_rfl
theorem valType (a : Option Addr) (n : Int) (w : World) : (Extern.ReflectliteValue.methodAny (Extern.ReflectliteValue.valueError "reflectlite.Value.Type" 0) (fun t _ _ _ => Extern.ReflectliteType.toType t) #[.agg #[.pointer (some ⟨4, 48, none⟩), .pointer (some ⟨w.heap.size, 0, none⟩), .int .u64 150]]).run Tryd.prog w = .ok (.iface 74 (.agg #[.pointer (some ⟨4, 48, none⟩)])) w := by kernel_rfl
theorem valType2 (a : Addr) (w : World) : (Extern.ReflectliteValue.methodAny (Extern.ReflectliteValue.valueError "reflectlite.Value.Type" 0) (fun t _ _ _ => Extern.ReflectliteType.toType t) #[.agg #[.pointer (some ⟨4, 48, none⟩), .pointer (some a), .int .u64 150]]).run Tryd.prog w = .ok (.iface 74 (.agg #[.pointer (some ⟨4, 48, none⟩)])) w := by kernel_rfl
theorem methodKind (v : Value) (w : World) : (Go.method 231 74 (.agg #[v]) "Kind").run Tryd.prog w = .ok (45, v) w := by kernel_rfl
theorem kindTT (w : World) : ((Extern.ReflectliteType.abiMethod fun t => (fun a => Value.int .u8 (a : Nat)) <$> Extern.Rtype.kind t) #[.pointer (some ⟨4, 48, none⟩)]).run Tryd.prog w = .ok (.int .u8 22) w := by kernel_rfl
theorem kindT (w : World) : ((Extern.ReflectliteType.abiMethod fun t => (fun a => Value.int .u8 (a : Nat)) <$> Extern.Rtype.kind t) #[.pointer (some ⟨4, 44, none⟩)]).run Tryd.prog w = .ok (.int .u8 22) w := by kernel_rfl
theorem methodElem (v : Value) (w : World) : (Go.method 231 74 v "Elem").run Tryd.prog w = .ok (57, v) w := by kernel_rfl
theorem methodImpl (v : Value) (w : World) : (Go.method 231 74 v "Implements").run Tryd.prog w = .ok (58, v) w := by kernel_rfl
theorem methodAssign (v : Value) (w : World) : (Go.method 231 74 v "AssignableTo").run Tryd.prog w = .ok (55, v) w := by kernel_rfl
theorem elemTT (w : World) : (Extern.ReflectliteType.method Extern.ReflectliteType.elem #[.agg #[.pointer (some ⟨4, 48, none⟩)]]).run Tryd.prog w = .ok (.iface 74 (.agg #[.pointer (some ⟨4, 44, none⟩)])) w := by kernel_rfl
theorem implT (w : World) : (Extern.ReflectliteType.relation "Implements" Extern.ReflectliteType.implements_ #[.agg #[.pointer (some ⟨4, 44, none⟩)], .iface 74 (.agg #[.pointer (some ⟨4, 32, none⟩)])]).run Tryd.prog w = .ok (.bool true) w := by kernel_rfl
theorem typeOfF (v : Value) (w : World) : (Extern.ReflectliteType.typeOf #[.iface 44 v]).run Tryd.prog w = .ok (.iface 74 (.agg #[.pointer (some ⟨4, 44, none⟩)])) w := by kernel_rfl
theorem assignT (w : World) : (Extern.ReflectliteType.relation "AssignableTo" Extern.ReflectliteType.assignableTo #[.agg #[.pointer (some ⟨4, 44, none⟩)], .iface 74 (.agg #[.pointer (some ⟨4, 44, none⟩)])]).run Tryd.prog w = .ok (.bool true) w := by kernel_rfl
end Go.Proofs.YtbmkcollljlnaaaDoor
