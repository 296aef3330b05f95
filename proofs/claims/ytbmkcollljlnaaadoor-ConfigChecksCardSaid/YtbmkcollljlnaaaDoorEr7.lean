/- errors.As at config's error. -/
import Derived.Test.YtbmkcollljlnaaaDoorEr6
namespace Go.Proofs.YtbmkcollljlnaaaDoor
open Go Go.RowKit Go.Extern.Stop Go.Stop Go.Extern

set_option maxRecDepth 100000 in
set_option maxHeartbeats 4000000 in
theorem as_fault (pb c B : Nat) (w : World) (hB : B ≤ c) (hcl : c < w.heap.size) (h1l : 1 < w.heap.size) (hc : w.cell? ⟨c, 0, none⟩ = some (.pointer none)) (hfz : w.frozen? ⟨c, 0, none⟩ = false) (hG : w.cell? ⟨1, 0, none⟩ = some (.iface 74 (.agg #[.pointer (some ⟨4, 32, none⟩)]))) :
    Calls Tryd.prog 16 #[.iface 44 (.pointer (some ⟨pb, 0, none⟩)), .iface 48 (.pointer (some ⟨c, 0, none⟩))] w fun e w' => e = .returned (.bool true) ∧ w'.cell? ⟨c, 0, none⟩ = some (.pointer (some ⟨pb, 0, none⟩)) ∧ Below B w w' := by

  have h82 := @run_callFunc_extern Tryd.prog 20 _ (fun args => Extern.ReflectliteValue.unpack (args.getD 0 (.tuple #[]))) Tryd.func20 (by kernel_rfl) (by kernel_rfl) (by kernel_rfl) (by kernel_rfl)
  have hAl := @World.cell?_alloc_some
  have uT := unpackT2
  have uF := unpackF2
  have h83 := @run_callFunc_extern Tryd.prog 21 _ (Extern.ReflectliteValue.methodAny (Extern.ReflectliteValue.valueError "reflectlite.Value.Type" 0) fun t _ _ _ => Extern.ReflectliteType.toType t) Tryd.func21 (by kernel_rfl) (by kernel_rfl) (by kernel_rfl) (by kernel_rfl)
  have h121 := @run_callFunc_extern Tryd.prog 45 _ (Extern.ReflectliteType.abiMethod fun t => do pure (.int .u8 (← Extern.Rtype.kind t))) Tryd.func45 (by kernel_rfl) (by kernel_rfl) (by kernel_rfl) (by kernel_rfl)
  have h134 := @run_callFunc_extern Tryd.prog 57 _ (Extern.ReflectliteType.method Extern.ReflectliteType.elem) Tryd.func57 (by kernel_rfl) (by kernel_rfl) (by kernel_rfl) (by kernel_rfl)
  have h135 := @run_callFunc_extern Tryd.prog 58 _ (Extern.ReflectliteType.relation "Implements" Extern.ReflectliteType.implements_) Tryd.func58 (by kernel_rfl) (by kernel_rfl) (by kernel_rfl) (by kernel_rfl)
  have h132 := @run_callFunc_extern Tryd.prog 55 _ (Extern.ReflectliteType.relation "AssignableTo" Extern.ReflectliteType.assignableTo) Tryd.func55 (by kernel_rfl) (by kernel_rfl) (by kernel_rfl) (by kernel_rfl)
  have h86 := @run_callFunc_extern Tryd.prog 24 _ Extern.ReflectliteType.typeOf Tryd.func24 (by kernel_rfl) (by kernel_rfl) (by kernel_rfl) (by kernel_rfl)
  have h84 := @run_callFunc_extern Tryd.prog 22 _ (Extern.ReflectliteValue.method (Extern.ReflectliteValue.valueError "reflectlite.Value.IsNil" 0) Extern.ReflectliteValue.isNil) Tryd.func22 (by kernel_rfl) (by kernel_rfl) (by kernel_rfl) (by kernel_rfl)
  have h101 := @run_callFunc_extern Tryd.prog 27 _ (Extern.ReflectliteValue.method (Extern.ReflectliteValue.valueError "reflectlite.Value.Elem" 0) Extern.ReflectliteValue.elem) Tryd.func27 (by kernel_rfl) (by kernel_rfl) (by kernel_rfl) (by kernel_rfl)
  have h102 := @run_callFunc_extern Tryd.prog 28 _ Extern.ReflectliteValue.set Tryd.func28 (by kernel_rfl) (by kernel_rfl) (by kernel_rfl) (by kernel_rfl)
  have f1 := valType2
  have f2 := methodKind
  have f3 := kindTT
  have f4 := kindT
  have f5 := methodElem
  have f6 := methodImpl
  have f7 := methodAssign
  have f8 := elemTT
  have f9 := implT
  have f10 := typeOfF
  have f11 := assignT
  have f12 := isNilT
  have f13 := elemT
  have f14 := setT2
  have two : ∀ o1 o2, ((w.alloc o1).alloc o2).cell? ⟨c, 0, none⟩ = some (.pointer none) := fun o1 o2 => by rw [hAl _ _ _ (by rw [hAl _ _ _ (by rw [hc]; rfl), hc]; rfl), hAl _ _ _ (by rw [hc]; rfl), hc]
  have twoF : ∀ o1 o2, ((w.alloc o1).alloc o2).frozen? ⟨c, 0, none⟩ = false := fun o1 o2 => by rw [frz_past _ _ _ (by rw [sz_alloc]; omega), frz_past _ _ _ hcl, hfz]
  have twoV : ∀ v t o2, ((w.alloc (.cells #[v] t)).alloc o2).cell? ⟨w.heap.size, 0, none⟩ = some v := fun v t o2 => by
    have e : (w.alloc (.cells #[v] t)).cell? ⟨w.heap.size, 0, none⟩ = some v := by rw [World.cell?_alloc_at _ _ _ _ rfl]; rfl
    rw [hAl _ _ _ (by rw [e]; rfl), e]
  go_enter Tryd.func16, Tryd.ntmps16
  go_wp2_with (go_at_call 23; refine (as_in pb c w.heap.size B _ hB (by simp only [sz_alloc]; omega) (by simp only [sz_alloc]; omega) (twoV _ _ _) (two _ _) (twoF _ _)).mono ?_; rintro e w' ⟨rfl, hx1, hx2⟩)
  go_ret
  refine ⟨rfl, hx1, Below.trans ?_ hx2⟩
  refine Below_alloc ?_ ?_ _
  · refine Below_alloc (Below.refl _ _) ?_ _
    omega
  · rw [sz_alloc]; omega
end Go.Proofs.YtbmkcollljlnaaaDoor
