/- What the laid package variables of this seat's door give the abstract machine: the table strings.asciiSpace holds its bytes. And a start that meets the condition. What lies in strings.asciiSpace is bytes: no row of other kinds that comes in lies there. -/
import Derived.Test.YtiikiphkhfmlcaaGreatDoorLaw
import Derived.Test.YtiikiphkhfmlcaaGreatDoorExQ
import Derived.Test.YtiikiphkhfmlcaaGreatDoorTie
import Derived.LaidMore
import Derived.LaidHandle
import Derived.MakeChecks
import Derived.Lib.LaidTab
import Derived.Stop.LaidErr
import Derived.SevenTiedAt
import Derived.OpenShut
import Derived.Stop.Joined
import Derived.Test.YtiikiphkhfmlcaaGreatDoorWl
noncomputable section
namespace Go.Proofs.YtiikiphkhfmlcaaGreatDoor.LaidD
open Go Go.RowKit Go.WideShapes Go.ChangeShapes Go.Proofs.YtiikiphkhfmlcaaGreatDoor.Ex Go.Proofs.YtiikiphkhfmlcaaGreatDoor.Lw

abbrev laid2 : List (String × DataW Unit) := [("unicode.White_Space", Rows.laid_unicode_White_Space), ("strings.asciiSpace", Rows.laid_strings_asciiSpace)]
def numOf : AV → Int
  | .i _ n => n
  | _ => 0
def zs : List Int := ((GL 0).getD []).map numOf
theorem gT : Tryz.prog.globalNamed "strings.asciiSpace" = some 0 := by kernel_rfl
theorem gTType : (Tryz.prog.globals[0]?).map (·.type) = some 290 := by kernel_rfl
theorem cells1 : Tryz.prog.cellsOf 5 = 1 := by kernel_rfl
theorem cellsT : Tryz.prog.cellsOf 290 = 256 := by kernel_rfl
theorem dat : (Rows.laid_strings_asciiSpace : DataW Unit) = Lib.tabData .u8 zs := by kernel_rfl
theorem tab {W : World} (h : laidMetH Tryz.prog laid2 W) : Lib.TabIs Tryz.prog W "strings.asciiSpace" .u8 zs := by
  rw [MakeChecks.laidMetH_plain _ _ _ (by kernel_rfl)] at h
  have h1 := laidMet.tail h
  rw [dat] at h1
  exact Lib.tabIs_of_head gT gTType Tryz.underlying290 Tryz.underlying5 cells1 cellsT h1
theorem rl_ints (M : Mp) : ∀ l : List Int, AV.RL M (l.map fun z => AV.i .u8 z) (l.map fun z => Value.int .u8 z)
  | [] => rfl
  | _ :: l => ⟨_, _, rfl, rl_ints M l, rfl⟩
theorem gl0 : GL 0 = some (zs.map fun z => AV.i .u8 z) := by kernel_rfl
theorem gw {W : World} (h : laidMetH Tryz.prog laid2 W) : GW W := by
  intro g c hg
  have h0 : g = 0 := by
    unfold GL at hg
    cases hb : Nat.beq g 0 with
    | true => exact Nat.eq_of_beq_eq_true hb
    | false => rw [hb] at hg; cases hg
  subst h0
  rw [gl0, Option.some.injEq] at hg
  subst hg
  have ht := tab h
  unfold Lib.TabIs World.var? at ht
  rw [gT, Option.bind_some] at ht
  split at ht
  · rename_i cs t fr he
    simp only [Option.some.injEq] at ht
    subst ht
    exact ⟨_, t, fr, he, rl_ints _ _⟩
  · cases ht
theorem door_met (os : Os) (args : Array Value) : laidMetH Tryz.prog laid2 ((World.doorLaid Tryz.prog 4000 os).forCall (fun _ _ => 0) ⟨#[], args, []⟩).memory :=
  laidMetH_of_parts3 (fuel := 12) (laidMet_of_run' 12 (by kernel_rfl) (by kernel_rfl)) (by kernel_rfl) (by kernel_rfl)
theorem shaped (os : Os) (args : Array Value) : ((World.doorLaid Tryz.prog 4000 os).forCall (fun _ _ => 0) ⟨#[], args, []⟩).Shaped Tryz.prog := by
  exact World.shaped_of_RefB (by kernel_rfl) (by kernel_rfl)
end Go.Proofs.YtiikiphkhfmlcaaGreatDoor.LaidD
namespace Go.Proofs.YtiikiphkhfmlcaaGreatDoor.LaidD
open Go Go.RowKit Go.WideShapes Go.ChangeShapes Go.Proofs.YtiikiphkhfmlcaaGreatDoor.Ex Go.Proofs.YtiikiphkhfmlcaaGreatDoor.Lw

theorem glk {k : CK} (hk : ∀ z, ¬ kV k (.int .u8 z)) : GLK k := by
  intro g c hg j a ha v hr hkv
  have h0 : g = 0 := by
    unfold GL at hg
    cases hb : Nat.beq g 0 with
    | true => exact Nat.eq_of_beq_eq_true hb
    | false => rw [hb] at hg; cases hg
  subst h0
  rw [gl0, Option.some.injEq] at hg
  subst hg
  obtain ⟨z, _, rfl⟩ := List.mem_map.1 (List.mem_of_getElem? ha)
  simp only [AV.R] at hr
  subst hr
  exact hk z hkv
theorem glk_i64 : GLK (.int .i64) := glk fun z ⟨n, h, _⟩ => by cases h
theorem glk_u64 : GLK (.int .u64) := glk fun z ⟨n, h, _⟩ => by cases h
theorem glk_bool : GLK .bool := glk fun z ⟨n, h⟩ => by cases h
end Go.Proofs.YtiikiphkhfmlcaaGreatDoor.LaidD
