/- What the laid package variables of this seat's door give the abstract machine: the table strings.asciiSpace holds its bytes, errors.errorType the handle of the type error. And a start that meets the condition. -/
import Derived.Test.YtbmkcollljlnaaaDoorLaw
import Derived.Test.YtbmkcollljlnaaaDoorExQ
import Derived.Test.YtbmkcollljlnaaaDoorTie
import Derived.LaidMore
import Derived.LaidHandle
import Derived.LaidSub
import Derived.MakeChecks
import Derived.Lib.LaidTab
import Derived.Stop.LaidErr
import Derived.SevenTiedAt
import Derived.OpenShut
import Derived.Stop.Joined
import Derived.Test.YtbmkcollljlnaaaDoorWl
namespace Go.Proofs.YtbmkcollljlnaaaDoor.LaidD
open Go Go.RowKit Go.WideShapes Go.ChangeShapes Go.Proofs.YtbmkcollljlnaaaDoor.Ex Go.Proofs.YtbmkcollljlnaaaDoor.Lw

abbrev laid3 : List (String × DataW Unit) := [("errors.errorType", Rows.laid_errors_errorType), ("unicode.White_Space", Rows.laid_unicode_White_Space), ("strings.asciiSpace", Rows.laid_strings_asciiSpace)]
def numOf : AV → Int
  | .i _ n => n
  | _ => 0
def zs : List Int := ((GL 0).getD []).map numOf
theorem gT : Tryd.prog.globalNamed "strings.asciiSpace" = some 0 := by kernel_rfl
theorem gTType : (Tryd.prog.globals[0]?).map (·.type) = some 50 := by kernel_rfl
theorem cells1 : Tryd.prog.cellsOf 5 = 1 := by kernel_rfl
theorem cellsT : Tryd.prog.cellsOf 50 = 256 := by kernel_rfl
theorem dat : (Rows.laid_strings_asciiSpace : DataW Unit) = Lib.tabData .u8 zs := by kernel_rfl
theorem plain : (laid3.filter fun x => x.2.handleName?.isNone) = [("unicode.White_Space", Rows.laid_unicode_White_Space), ("strings.asciiSpace", Rows.laid_strings_asciiSpace)] := rfl
theorem handles : (laid3.filter fun x => x.2.handleName?.isSome) = [("errors.errorType", Rows.laid_errors_errorType)] := rfl
theorem tab {W : World} (h : laidMetH Tryd.prog laid3 W) : Lib.TabIs Tryd.prog W "strings.asciiSpace" .u8 zs := by
  have h1 := (laidMetH_iff.1 h).1
  rw [plain] at h1
  have h1 := laidMet.tail h1
  rw [dat] at h1
  exact Lib.tabIs_of_head gT gTType Tryd.underlying50 Tryd.underlying5 cells1 cellsT h1
theorem rl_ints (M : Mp) : ∀ l : List Int, AV.RL M (l.map fun z => AV.i .u8 z) (l.map fun z => Value.int .u8 z)
  | [] => rfl
  | _ :: l => ⟨_, _, rfl, rl_ints M l, rfl⟩
theorem gl0 : GL 0 = some (zs.map fun z => AV.i .u8 z) := by kernel_rfl
theorem gl1 : GL 1 = some [.o (.iface 74 (.agg #[.pointer (some ⟨4, 32, none⟩)]))] := by kernel_rfl
theorem gE : Tryd.prog.globalNamed "errors.errorType" = some 1 := by kernel_rfl
theorem uE : (Tryd.prog.cutTypes.find? (·.1 == "internal/reflectlite.rtype")).map (·.2) = some 74 := by kernel_rfl
theorem nE : (Rows.laid_errors_errorType : DataW Unit).handleName? = some [101, 114, 114, 111, 114] := rfl
theorem fE : (Rows.laid_errors_errorType : DataW Unit).funcsIn? = none := rfl
theorem tE : ((List.range Tryd.prog.types.size).all fun t => !(Tryd.prog.rowNamed t [101, 114, 114, 111, 114]) || Nat.beq t 32) = true := by kernel_rfl
theorem szG : Tryd.prog.globals.size = 4 := by kernel_rfl
theorem errType {W : World} (h : laidMetH Tryd.prog laid3 W) : W.var? Tryd.prog "errors.errorType" = some #[.iface 74 (.agg #[.pointer (some ⟨4, 32, none⟩)])] := by
  have h1 := (laidMetH_iff.1 h).2
  rw [handles] at h1
  have h1 := h1 _ (List.mem_singleton_self _)
  rw [fE] at h1
  obtain ⟨name, u, ty, e1, e2, e3, e4, e5⟩ := h1
  rw [nE, Option.some.injEq] at e1
  rw [uE, Option.some.injEq] at e2
  subst e1 e2
  have h2 := List.all_eq_true.1 tE ty (List.mem_range.2 e3)
  rw [e4] at h2
  have h3 : ty = 32 := Nat.eq_of_beq_eq_true (by simpa using h2)
  subst h3
  rw [e5, typeHandle, szG]
theorem var_at {W : World} {n : String} {g : Nat} {cs : Array Value} (hg : Tryd.prog.globalNamed n = some g) (h : W.var? Tryd.prog n = some cs) : ∃ t fr, W.heap[g]? = some (.cells cs t fr) := by
  unfold World.var? at h
  rw [hg, Option.bind_some] at h
  split at h
  · rename_i cs' t fr he
    simp only [Option.some.injEq] at h
    subst h
    exact ⟨t, fr, he⟩
  · cases h
theorem gw {W : World} (h : laidMetH Tryd.prog laid3 W) : GW W := by
  intro g c hg
  have h0 : g = 0 ∨ g = 1 := by
    unfold GL at hg
    cases hb : Nat.beq g 0 with
    | true => exact .inl (Nat.eq_of_beq_eq_true hb)
    | false =>
      rw [hb, cond_false] at hg
      cases hb1 : Nat.beq g 1 with
      | true => exact .inr (Nat.eq_of_beq_eq_true hb1)
      | false => rw [hb1] at hg; cases hg
  rcases h0 with rfl | rfl
  · rw [gl0, Option.some.injEq] at hg
    subst hg
    obtain ⟨t, fr, he⟩ := var_at gT (tab h)
    exact ⟨_, t, fr, he, rl_ints _ _⟩
  · rw [gl1, Option.some.injEq] at hg
    subst hg
    obtain ⟨t, fr, he⟩ := var_at gE (errType h)
    exact ⟨_, t, fr, he, ⟨_, _, rfl, rfl, rfl⟩⟩
theorem door_met (os : Os) (args : Array Value) : laidMetH Tryd.prog laid3 ((World.doorLaid Tryd.prog 4000 os).forCall (fun _ _ => 0) ⟨#[], args, []⟩).memory :=
  laidMetH_of_parts3 (fuel := 12) (laidMet_of_run' 12 (by kernel_rfl) (by kernel_rfl)) (by kernel_rfl) (by kernel_rfl)
theorem shaped (os : Os) (args : Array Value) : ((World.doorLaid Tryd.prog 4000 os).forCall (fun _ _ => 0) ⟨#[], args, []⟩).Shaped Tryd.prog := by
  exact World.shaped_of_RefB (by kernel_rfl) (by kernel_rfl)
end Go.Proofs.YtbmkcollljlnaaaDoor.LaidD
