/- What the four laid package variables of this seat's door give the abstract machine: the table strings.asciiSpace holds its bytes. And a start that meets the condition. -/
import Derived.Test.YtjelhmdkaemiiaaDoorLaw
import Derived.Test.YtjelhmdkaemiiaaDoorExQ
import Derived.Test.YtjelhmdkaemiiaaDoorTie
import Derived.LaidMore
import Derived.Lay
import Derived.LaidHandle
import Derived.LaidSub
import Derived.MakeChecks
import Derived.Lib.LaidTab
import Derived.Stop.LaidErr
import Derived.SevenTiedAt
import Derived.OpenShut
import Derived.Stop.Joined
import Derived.Test.YtjelhmdkaemiiaaDoorWl
namespace Go.Proofs.YtjelhmdkaemiiaaDoor.LaidD
open Go Go.RowKit Go.WideShapes Go.ChangeShapes Go.Proofs.YtjelhmdkaemiiaaDoor.Ex Go.Proofs.YtjelhmdkaemiiaaDoor.Lw

abbrev laid2 : List (String × DataW Unit) := [("unicode/utf8.acceptRanges", Rows.laid_unicode_utf8_acceptRanges), ("unicode.White_Space", Rows.laid_unicode_White_Space), ("strings.asciiSpace", Rows.laid_strings_asciiSpace), ("unicode/utf8.first", Rows.laid_unicode_utf8_first)]
def numOf : AV → Int
  | .i _ n => n
  | _ => 0
def zs : List Int := ((GL 1).getD []).map numOf
theorem gT : Tryd.prog.globalNamed "strings.asciiSpace" = some 1 := by kernel_rfl
theorem gTType : (Tryd.prog.globals[1]?).map (·.type) = some 85 := by kernel_rfl
theorem cells1 : Tryd.prog.cellsOf 5 = 1 := by kernel_rfl
theorem cellsT : Tryd.prog.cellsOf 85 = 256 := by kernel_rfl
theorem dat : (Rows.laid_strings_asciiSpace : DataW Unit) = Lib.tabData .u8 zs := by kernel_rfl
theorem tab {W : World} (h : laidMetH Tryd.prog laid2 W) : Lib.TabIs Tryd.prog W "strings.asciiSpace" .u8 zs := by
  rw [MakeChecks.laidMetH_plain _ _ _ (by kernel_rfl)] at h
  have h1 := laidMet.tail (laidMet.tail h)
  rw [dat] at h1
  exact Lib.tabIs_of_head gT gTType Tryd.underlying85 Tryd.underlying5 cells1 cellsT h1
theorem rl_ints (M : Mp) : ∀ l : List Int, AV.RL M (l.map fun z => AV.i .u8 z) (l.map fun z => Value.int .u8 z)
  | [] => rfl
  | _ :: l => ⟨_, _, rfl, rl_ints M l, rfl⟩
theorem gl0 : GL 1 = some (zs.map fun z => AV.i .u8 z) := by kernel_rfl
theorem gw {W : World} (h : laidMetH Tryd.prog laid2 W) : GW W := by
  intro g c hg
  have h0 : g = 1 := by
    unfold GL at hg
    cases hb : Nat.beq g 1 with
    | true => exact Nat.eq_of_beq_eq_true hb
    | false => rw [hb] at hg; cases hg
  subst h0
  rw [gl0, Option.some.injEq] at hg
  subst hg
  have ht := tab h
  unfold Lib.TabIs World.var? at ht
  rw [gT, Option.bind_some] at ht
  split at ht
  · rename_i cs t fr he
    simp only [Option.some.injEq] at ht
    subst ht
    exact ⟨_, t, fr, he, rl_ints _ _⟩
  · cases ht
/-- All listed variables laid by the function over any world. -/
theorem laidMet_over {P : Program} {w0 : World} {laid : List (String × DataW Unit)} (args : Array Value)
    (hf : w0.layFits P laid [] = true) (hi : w0.layIfaces P laid (w0.layVars P laid) = true) :
    laidMet P laid ((w0.layVars P laid).forCall (fun _ _ => 0) ⟨#[], args, []⟩).memory := by
  have e1 : (laid.filter fun x => (laid.map (·.1)).contains x.1) = laid := List.filter_eq_self.2 fun x hx => List.contains_iff_mem.2 (List.mem_map.2 ⟨x, hx, rfl⟩)
  have e2 : (laid.filter fun x => !(laid.map (·.1)).contains x.1) = [] := List.filter_eq_nil_iff.2 fun x hx => by rw [List.contains_iff_mem.2 (List.mem_map.2 ⟨x, hx, rfl⟩)]; simp
  have h : laidMet P laid (w0.layVars P laid) := laidMet_layVars (w0 := w0) (laid.map (·.1)) [] (by rw [e1]) (by rw [e1]; exact hf) (by rw [e1]; exact hi) (by rw [e2]; exact LaidIn.none)
  exact h.of_heap (by simp [World.memory, World.forCall, Input.heap])
noncomputable def door (os : Os) : World := (World.doorLaid Tryd.prog 4000 os).layVars Tryd.prog laid2
theorem door_os (os : Os) : (door os).os = os := World.layVars_os _ _ _
theorem door_met (os : Os) (args : Array Value) : laidMetH Tryd.prog laid2 ((door os).forCall (fun _ _ => 0) ⟨#[], args, []⟩).memory := by
  rw [MakeChecks.laidMetH_plain _ _ _ (by kernel_rfl)]
  exact laidMet_over args (by kernel_rfl) (by kernel_rfl)
theorem shaped (os : Os) (args : Array Value) : ((door os).forCall (fun _ _ => 0) ⟨#[], args, []⟩).Shaped Tryd.prog :=
  World.shaped_of_ZipB (by kernel_rfl) (by kernel_rfl)
end Go.Proofs.YtjelhmdkaemiiaaDoor.LaidD
