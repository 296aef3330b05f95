/- config.field at config's error tells its word; config.why tells ErrBound. -/
import Derived.Test.YtbmkcollljlnaaaDoorEr7
namespace Go.Proofs.YtbmkcollljlnaaaDoor
open Go Go.RowKit Go.Extern.Stop Go.Stop Go.Extern

set_option maxRecDepth 100000 in
set_option maxHeartbeats 4000000 in
theorem why_fault (pb : Nat) (w : World) (h1 : w.cell? ⟨pb, 1, none⟩ = some (.int .i64 9)) :
    Calls Tryd.prog 12 #[.iface 44 (.pointer (some ⟨pb, 0, none⟩))] w fun e w' => e = .returned (.int .i64 9) ∧ w' = w := by
  go_enter Tryd.func12, Tryd.ntmps12
  go_wp2_with (go_at_call 17; refine (is_fault pb w h1).mono ?_; rintro e w' ⟨rfl, rfl⟩)
  go_ret
  exact ⟨rfl, rfl⟩
set_option maxRecDepth 100000 in
set_option maxHeartbeats 4000000 in
theorem field_fault (pb : Nat) (s : ByteArray) (w : World) (hpb : pb < w.heap.size) (h1l : 1 < w.heap.size) (h0 : w.cell? ⟨pb, 0, none⟩ = some (.string s)) (hG : w.cell? ⟨1, 0, none⟩ = some (.iface 74 (.agg #[.pointer (some ⟨4, 32, none⟩)]))) :
    Calls Tryd.prog 11 #[.iface 44 (.pointer (some ⟨pb, 0, none⟩))] w fun e w' => e = .returned (.string s) ∧ Below w.heap.size w w' := by
  have hAl := @World.cell?_alloc_some
  have one : ∀ o, (w.alloc o).cell? ⟨pb, 0, none⟩ = some (.string s) := fun o => by rw [hAl _ _ _ (by rw [h0]; rfl), h0]
  have oneG : ∀ o, (w.alloc o).cell? ⟨1, 0, none⟩ = some (.iface 74 (.agg #[.pointer (some ⟨4, 32, none⟩)])) := fun o => by rw [hAl _ _ _ (by rw [hG]; rfl), hG]
  have oneC : ∀ v t, (w.alloc (.cells #[v] t)).cell? ⟨w.heap.size, 0, none⟩ = some v := fun v t => by rw [World.cell?_alloc_at _ _ _ _ rfl]; rfl
  have oneF : ∀ v t, (w.alloc (.cells #[v] t)).frozen? ⟨w.heap.size, 0, none⟩ = false := fun v t => by rw [World.frozen?_alloc_at _ _ _ _ rfl]
  go_enter Tryd.func11, Tryd.ntmps11
  go_wp2_with (go_at_call 16; refine (as_fault pb w.heap.size w.heap.size _ (Nat.le_refl _) (by rw [sz_alloc]; omega) (by rw [sz_alloc]; omega) (oneC _ _) (oneF _ _) (oneG _)).mono ?_; rintro e w' ⟨rfl, hx1, hx2⟩; have hx3 := (hx2.cell (p := ⟨pb, 0, none⟩) hpb).trans (one _))
  go_ret
  refine ⟨rfl, Below.trans ?_ hx2⟩
  exact Below_alloc (Below.refl _ _) (Nat.le_refl _) _
end Go.Proofs.YtbmkcollljlnaaaDoor
