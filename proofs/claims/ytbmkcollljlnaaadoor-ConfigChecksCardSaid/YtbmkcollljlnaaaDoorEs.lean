/- Contracts of config.why at nil and at config's own error, for the abstract machine. -/
import Derived.Test.YtbmkcollljlnaaaDoorEr8
import Derived.Test.YtbmkcollljlnaaaDoorSlC
import Derived.Test.YtbmkcollljlnaaaDoorWi
import Derived.Below
namespace Go.Proofs.YtbmkcollljlnaaaDoor.Ex
open Go Go.RowKit

/-- A contract of the machine's, by hand: it changes nothing that was there. -/
theorem call_by {P : Program} {f : FuncId} {fn : Func} {g : List AV → AH → Option (AV × AH)} (hf : P.funcs[f]? = some fn) (hok : okFn fn = true) (hb : fn.body.isSome = true)
    (hc : ∀ args h v h', g args h = some (v, h') → h' = h ∧ ∀ M us w, AV.RL M args us → Rel M h w → Calls P f us.toArray w fun e w' => ∃ u, e = .returned u ∧ v.R M u ∧ Below w.heap.size w w') :
    SmCall P f g := by
  intro args h v h' hg
  obtain ⟨rfl, hc⟩ := hc args h v h' hg
  refine ⟨⟨Nat.le_refl _, Ab.refl _⟩, fun M us w r R ra rr fr k => ⟨?_, ?_⟩⟩
  · have hnn : ¬ (fn.name = "runtime.NumGoroutine") := by simpa [okFn] using hok
    cases hbb : fn.body with
    | none => rw [hbb] at hb; cases hb
    | some c => simp [callFunc, hf, hnn, hbb]
  · exact (callsIn_wide (n := 0)).2 ((hc M us w ra rr).mono fun e w' ⟨u, he, hr, hbl⟩ => by
      subst he
      exact k M u w' hr (rr.below hbl) ⟨hbl.os, hbl.tape, hbl.output, hbl.size, Le.refl M, fun _ e => absurd rfl e, fun q hq _ => hbl.block q hq, fun id b2 κ o q1 q2 => .inr ⟨id, κ, o, q1, q2, fun e => e⟩, fun b cs e => .inl e⟩ (Ab.refl _))
def whyG (args : List AV) (h : AH) : Option (AV × AH) :=
  match args with
  | [.ni] => some (.i .i64 0, h)
  | [.ifc t (.ptr id 0)] => bif Nat.beq t 44 then (match h.get id with | some (.cells [.s _, .i .i64 (.ofNat 9)] _ none) => some (.i .i64 9, h) | _ => none) else none
  | _ => none
theorem why_nil (w : World) : Calls Tryd.prog 12 #[.nilIface] w fun e w' => e = .returned (.int .i64 0) ∧ w' = w := by
  go_enter Tryd.func12, Tryd.ntmps12
  go_wp2
  go_ret
  exact ⟨rfl, rfl⟩
theorem smWhy : SmCall Tryd.prog 12 whyG :=
  call_by Tryd.func12 (by kernel_rfl) (by kernel_rfl) (fun args h v h' hg => by
    unfold whyG at hg
    split at hg
    · simp only [Option.some.injEq, Prod.mk.injEq] at hg
      obtain ⟨rfl, rfl⟩ := hg
      refine ⟨rfl, fun M us w ra rr => ?_⟩
      obtain ⟨u, us', r1, r2, rfl⟩ := ra
      obtain rfl : us' = [] := r2
      obtain rfl : u = .nilIface := r1
      exact (why_nil w).mono fun e w' ⟨he, hw⟩ => ⟨_, he, rfl, by subst hw; exact Below.refl _ _⟩
    · rename_i t id
      simp only [Bool.cond_eq_ite] at hg
      split at hg
      · rename_i ht
        obtain rfl := beqN ht
        split at hg
        · rename_i s et hgid
          simp only [Option.some.injEq, Prod.mk.injEq] at hg
          obtain ⟨rfl, rfl⟩ := hg
          refine ⟨rfl, fun M us w ra rr => ?_⟩
          obtain ⟨u, us', r1, r2, rfl⟩ := ra
          obtain rfl : us' = [] := r2
          simp only [AV.R] at r1
          obtain ⟨x, ⟨b, κ, hM, rfl⟩, rfl⟩ := r1
          obtain ⟨ob, hbk, vs, rest, rl, rfl, hrest⟩ := Ob_of rr hgid hM
          obtain ⟨v0, vs0, q0, q1, rfl⟩ := rl
          obtain ⟨v1, vs1, q2, q3, rfl⟩ := q1
          obtain rfl : v1 = .int .i64 9 := q2
          exact (why_fault b w (by simp [World.cell?, hbk])).mono fun e w' ⟨he, hw⟩ => ⟨_, he, rfl, by subst hw; exact Below.refl _ _⟩
        · cases hg
      · cases hg
    · cases hg)
end Go.Proofs.YtbmkcollljlnaaaDoor.Ex
