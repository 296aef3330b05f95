/- errors.as at config's error. -/
import Derived.Test.YtbmkcollljlnaaaDoorEr4
namespace Go.Proofs.YtbmkcollljlnaaaDoor
open Go Go.RowKit Go.Extern.Stop Go.Stop Go.Extern

theorem unpackT2 (a : Option Addr) (w : World) : (Extern.ReflectliteValue.unpack (.iface 48 (.pointer a))).run Tryd.prog w = .ok (.agg #[.pointer (some ⟨4, 48, none⟩), .pointer (some ⟨w.heap.size, 0, none⟩), .int .u64 150]) (w.alloc (.cells #[.pointer a] 48)) := unpackT a w
theorem unpackF2 (a : Option Addr) (w : World) : (Extern.ReflectliteValue.unpack (.iface 44 (.pointer a))).run Tryd.prog w = .ok (.agg #[.pointer (some ⟨4, 44, none⟩), .pointer (some ⟨w.heap.size, 0, none⟩), .int .u64 150]) (w.alloc (.cells #[.pointer a] 44)) := unpackF a w
theorem sz_alloc (w : World) (o : Obj) : (w.alloc o).heap.size = w.heap.size + 1 := by show (w.heap.push o).size = _; simp
theorem setT2 (a b : Nat) (p : Option Addr) (w : World) (h : w.cell? ⟨b, 0, none⟩ = some (.pointer p)) (h2 : (w.cell? ⟨a, 0, none⟩).isSome = true) (h3 : w.frozen? ⟨a, 0, none⟩ = false) :
    (Extern.ReflectliteValue.set #[.agg #[.pointer (some ⟨4, 44, none⟩), .pointer (some ⟨a, 0, none⟩), .int .u64 406], .agg #[.pointer (some ⟨4, 44, none⟩), .pointer (some ⟨b, 0, none⟩), .int .u64 150]]).run Tryd.prog w = .ok (.tuple #[]) (w.setCell ⟨a, 0, none⟩ (.pointer p)) := by
  obtain ⟨u, hu⟩ := Option.isSome_iff_exists.1 h2
  exact setT a b p u w h hu h3
theorem frz_past (w : World) (o : Obj) (b : Nat) (h : b < w.heap.size) : (w.alloc o).frozen? ⟨b, 0, none⟩ = w.frozen? ⟨b, 0, none⟩ := World.frozen?_alloc_old _ _ _ (by show b ≠ w.heap.size; omega)
set_option maxRecDepth 100000 in
set_option maxHeartbeats 4000000 in
theorem as_in (pb c vb B : Nat) (w : World) (hB : B ≤ c) (hcl : c < w.heap.size) (hvl : vb < w.heap.size) (hv : w.cell? ⟨vb, 0, none⟩ = some (.pointer (some ⟨c, 0, none⟩))) (hc : w.cell? ⟨c, 0, none⟩ = some (.pointer none)) (hfz : w.frozen? ⟨c, 0, none⟩ = false) :
    Calls Tryd.prog 23 #[.iface 44 (.pointer (some ⟨pb, 0, none⟩)), .iface 48 (.pointer (some ⟨c, 0, none⟩)), .agg #[.pointer (some ⟨4, 48, none⟩), .pointer (some ⟨vb, 0, none⟩), .int .u64 150], .iface 74 (.agg #[.pointer (some ⟨4, 44, none⟩)])] w fun e w' => e = .returned (.bool true) ∧ w'.cell? ⟨c, 0, none⟩ = some (.pointer (some ⟨pb, 0, none⟩)) ∧ Below B w w' := by

  have h82 := @run_callFunc_extern Tryd.prog 20 _ (fun args => Extern.ReflectliteValue.unpack (args.getD 0 (.tuple #[]))) Tryd.func20 (by kernel_rfl) (by kernel_rfl) (by kernel_rfl) (by kernel_rfl)
  have hAl := @World.cell?_alloc_some
  have uT := unpackT2
  have uF := unpackF2
  have h83 := @run_callFunc_extern Tryd.prog 21 _ (Extern.ReflectliteValue.methodAny (Extern.ReflectliteValue.valueError "reflectlite.Value.Type" 0) fun t _ _ _ => Extern.ReflectliteType.toType t) Tryd.func21 (by kernel_rfl) (by kernel_rfl) (by kernel_rfl) (by kernel_rfl)
  have h121 := @run_callFunc_extern Tryd.prog 45 _ (Extern.ReflectliteType.abiMethod fun t => do pure (.int .u8 (← Extern.Rtype.kind t))) Tryd.func45 (by kernel_rfl) (by kernel_rfl) (by kernel_rfl) (by kernel_rfl)
  have h134 := @run_callFunc_extern Tryd.prog 57 _ (Extern.ReflectliteType.method Extern.ReflectliteType.elem) Tryd.func57 (by kernel_rfl) (by kernel_rfl) (by kernel_rfl) (by kernel_rfl)
  have h135 := @run_callFunc_extern Tryd.prog 58 _ (Extern.ReflectliteType.relation "Implements" Extern.ReflectliteType.implements_) Tryd.func58 (by kernel_rfl) (by kernel_rfl) (by kernel_rfl) (by kernel_rfl)
  have h132 := @run_callFunc_extern Tryd.prog 55 _ (Extern.ReflectliteType.relation "AssignableTo" Extern.ReflectliteType.assignableTo) Tryd.func55 (by kernel_rfl) (by kernel_rfl) (by kernel_rfl) (by kernel_rfl)
  have h86 := @run_callFunc_extern Tryd.prog 24 _ Extern.ReflectliteType.typeOf Tryd.func24 (by kernel_rfl) (by kernel_rfl) (by kernel_rfl) (by kernel_rfl)
  have h84 := @run_callFunc_extern Tryd.prog 22 _ (Extern.ReflectliteValue.method (Extern.ReflectliteValue.valueError "reflectlite.Value.IsNil" 0) Extern.ReflectliteValue.isNil) Tryd.func22 (by kernel_rfl) (by kernel_rfl) (by kernel_rfl) (by kernel_rfl)
  have h101 := @run_callFunc_extern Tryd.prog 27 _ (Extern.ReflectliteValue.method (Extern.ReflectliteValue.valueError "reflectlite.Value.Elem" 0) Extern.ReflectliteValue.elem) Tryd.func27 (by kernel_rfl) (by kernel_rfl) (by kernel_rfl) (by kernel_rfl)
  have h102 := @run_callFunc_extern Tryd.prog 28 _ Extern.ReflectliteValue.set Tryd.func28 (by kernel_rfl) (by kernel_rfl) (by kernel_rfl) (by kernel_rfl)
  have f1 := valType2
  have f2 := methodKind
  have f3 := kindTT
  have f4 := kindT
  have f5 := methodElem
  have f6 := methodImpl
  have f7 := methodAssign
  have f8 := elemTT
  have f9 := implT
  have f10 := typeOfF
  have f11 := assignT
  have f12 := isNilT
  have f13 := elemT
  have f14 := setT2
  have f15 := frz_past
  go_enter Tryd.func23, Tryd.ntmps23
  go_wp2
  refine wp_loop_rounds 1 ?_
  rw [rounds_succ]
  go_wp2
  rw [setT2 c (w.heap.size + 1) (some ⟨pb, 0, none⟩) _ (by rw [World.cell?_alloc_at _ _ _ _ (by rw [sz_alloc])]; rfl) (by rw [hAl _ _ _ (by rw [hAl _ _ _ (by rw [hc]; rfl), hc]; rfl), hAl _ _ _ (by rw [hc]; rfl), hc]; rfl) (by rw [frz_past _ _ _ (by rw [sz_alloc]; omega), frz_past _ _ _ hcl, hfz])]
  go_wp2
  go_ret
  refine ⟨rfl, by go_simp, (by ((repeat' (first | exact Below.refl _ _ | assumption | (refine Below_alloc ?_ ?_ _) | (refine Below_ext ?_ ?_ _ _) | (refine Below_setCell ?_ _ _ _ ?_) | apply Below.drew | refine Below_drewN ?_ _)) <;> first | done | (simp; done) | (simp; omega)))⟩
end Go.Proofs.YtbmkcollljlnaaaDoor
