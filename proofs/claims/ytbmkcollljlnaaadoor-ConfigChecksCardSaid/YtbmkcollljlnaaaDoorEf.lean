/- Contract of config.field at nil and at config's own error, for the abstract machine (errors.errorType reads as it is laid). -/
import Derived.Test.YtbmkcollljlnaaaDoorEs
namespace Go.Proofs.YtbmkcollljlnaaaDoor.Ex
open Go Go.RowKit

def errT : Value := .iface 74 (.agg #[.pointer (some ⟨4, 32, none⟩)])
theorem gl1 : GL 1 = some [.o errT] := by kernel_rfl
def fldG (args : List AV) (h : AH) : Option (AV × AH) :=
  match args with
  | [.ni] => some (.s [], h)
  | [.ifc t (.ptr id 0)] => bif Nat.beq t 44 then (match h.get id with | some (.cells [.s l, .i .i64 (.ofNat 9)] _ none) => some (.s l, h) | _ => none) else none
  | _ => none
theorem field_nil (w : World) : Calls Tryd.prog 11 #[.nilIface] w fun e w' => e = .returned (.string ⟨#[]⟩) ∧ Below w.heap.size w w' := by
  go_enter Tryd.func11, Tryd.ntmps11
  go_wp2
  go_ret
  exact ⟨rfl, (by ((repeat' (first | exact Below.refl _ _ | assumption | (refine Below_alloc ?_ ?_ _) | (refine Below_ext ?_ ?_ _ _) | (refine Below_setCell ?_ _ _ _ ?_) | apply Below.drew | refine Below_drewN ?_ _)) <;> first | done | (simp; done) | (simp; omega)))⟩
theorem smField : SmCall Tryd.prog 11 fldG :=
  call_by Tryd.func11 (by kernel_rfl) (by kernel_rfl) (fun args h v h' hg => by
    unfold fldG at hg
    split at hg
    · simp only [Option.some.injEq, Prod.mk.injEq] at hg
      obtain ⟨rfl, rfl⟩ := hg
      refine ⟨rfl, fun M us w ra rr => ?_⟩
      obtain ⟨u, us', r1, r2, rfl⟩ := ra
      obtain rfl : us' = [] := r2
      obtain rfl : u = .nilIface := r1
      exact (field_nil w).mono fun e w' ⟨he, hw⟩ => ⟨_, he, rfl, hw⟩
    · rename_i t id
      simp only [Bool.cond_eq_ite] at hg
      split at hg
      · rename_i ht
        obtain rfl := beqN ht
        split at hg
        · rename_i l et hgid
          simp only [Option.some.injEq, Prod.mk.injEq] at hg
          obtain ⟨rfl, rfl⟩ := hg
          refine ⟨rfl, fun M us w ra rr => ?_⟩
          obtain ⟨u, us', r1, r2, rfl⟩ := ra
          obtain rfl : us' = [] := r2
          simp only [AV.R] at r1
          obtain ⟨x, ⟨b, κ, hM, rfl⟩, rfl⟩ := r1
          obtain ⟨ob, hbk, vs, rest, rl, rfl, hrest⟩ := Ob_of rr hgid hM
          obtain ⟨v0, vs0, q0, q1, rfl⟩ := rl
          obtain rfl : v0 = .string ⟨l.toArray⟩ := q0
          obtain ⟨gs, ge, gfr, g1, g2⟩ := rr.gw 1 _ gl1
          obtain ⟨z0, zs, z1, z2, rfl⟩ := g2
          obtain rfl : z0 = errT := z1
          exact (field_fault b ⟨l.toArray⟩ w (heap_lt hbk) (heap_lt g1) (by simp [World.cell?, hbk]) (by simp [World.cell?, g1, errT])).mono fun e w' ⟨he, hw⟩ => ⟨_, he, rfl, hw⟩
        · cases hg
      · cases hg
    · cases hg)
end Go.Proofs.YtbmkcollljlnaaaDoor.Ex
