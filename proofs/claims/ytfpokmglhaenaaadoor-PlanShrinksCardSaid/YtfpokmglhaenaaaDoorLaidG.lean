/- What lies in strings.asciiSpace is bytes: no row of other kinds that comes in lies there. -/
import Derived.Test.YtfpokmglhaenaaaDoorLaidD
import Derived.Test.YtfpokmglhaenaaaDoorWl
namespace Go.Proofs.YtfpokmglhaenaaaDoor.LaidD
open Go Go.RowKit Go.WideShapes Go.ChangeShapes Go.Proofs.YtfpokmglhaenaaaDoor.Ex Go.Proofs.YtfpokmglhaenaaaDoor.Lw

theorem glk {k : CK} (hk : ∀ z, ¬ kV k (.int .u8 z)) : GLK k := by
  intro g c hg j a ha v hr hkv
  have h0 : g = 0 := by
    unfold GL at hg
    cases hb : Nat.beq g 0 with
    | true => exact Nat.eq_of_beq_eq_true hb
    | false => rw [hb] at hg; cases hg
  subst h0
  rw [gl0, Option.some.injEq] at hg
  subst hg
  obtain ⟨z, _, rfl⟩ := List.mem_map.1 (List.mem_of_getElem? ha)
  simp only [AV.R] at hr
  subst hr
  exact hk z hkv
theorem glk_i64 : GLK (.int .i64) := glk fun z ⟨n, h, _⟩ => by cases h
theorem glk_u64 : GLK (.int .u64) := glk fun z ⟨n, h, _⟩ => by cases h
theorem glk_bool : GLK .bool := glk fun z ⟨n, h⟩ => by cases h
end Go.Proofs.YtfpokmglhaenaaaDoor.LaidD
