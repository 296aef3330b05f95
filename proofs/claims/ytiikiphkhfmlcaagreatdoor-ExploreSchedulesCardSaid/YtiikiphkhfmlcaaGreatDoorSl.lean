/- Contracts, as a list. -/
import Derived.Test.YtiikiphkhfmlcaaGreatDoorExL
noncomputable section
namespace Go.Proofs.YtiikiphkhfmlcaaGreatDoor.Ex
open Go

def smL : List (Nat × Sm) → FuncId → Option Sm
  | [], _ => none
  | (g, s) :: l, f => bif Nat.beq f g then some s else smL l f
def SmE (P : Program) (f : FuncId) : Sm → Prop
  | .call g => SmCall P f g
  | .ct g => SmCall P f fun a h => (g a h).sel
  | .val g => SmVal P f g
def SmAll (P : Program) : List (Nat × Sm) → Prop
  | [] => True
  | (g, s) :: l => SmE P g s ∧ SmAll P l
theorem smL_get {P : Program} : ∀ {l : List (Nat × Sm)} {f : FuncId} {s : Sm}, SmAll P l → smL l f = some s → SmE P f s
  | [], f, s, _, h => by simp [smL] at h
  | (g, x) :: l, f, s, a, h => by
    simp only [smL] at h
    cases hb : Nat.beq f g with
    | true =>
      rw [hb, cond_true, Option.some.injEq] at h
      obtain rfl := Nat.eq_of_beq_eq_true hb
      subst h
      exact a.1
    | false =>
      rw [hb, cond_false] at h
      exact smL_get a.2 h
theorem smL_ok {P : Program} {l : List (Nat × Sm)} (h : SmAll P l) : SmOK P (smL l) := fun _ =>
  ⟨fun _ e => smL_get h e, fun _ e => smL_get h e, fun _ e => smL_get h e⟩
end Go.Proofs.YtiikiphkhfmlcaaGreatDoor.Ex
