/- What the five laid package variables of this seat's door give the abstract machine: the table strings.asciiSpace holds its bytes, errors.errorType the handle of the type error. And a start that meets the condition. -/
import Derived.Test.YtdaflnnjfmickaaDoorLaw
import Derived.Test.YtdaflnnjfmickaaDoorExQ
import Derived.Test.YtdaflnnjfmickaaDoorTie
import Derived.LaidMore
import Derived.Lay
import Derived.LaidHandle
import Derived.LaidSub
import Derived.MakeChecks
import Derived.Lib.LaidTab
import Derived.Stop.LaidErr
import Derived.SevenTiedAt
import Derived.OpenShut
import Derived.Stop.Joined
import Derived.Test.YtdaflnnjfmickaaDoorWl
namespace Go.Proofs.YtdaflnnjfmickaaDoor.LaidD
open Go Go.RowKit Go.WideShapes Go.ChangeShapes Go.Proofs.YtdaflnnjfmickaaDoor.Ex Go.Proofs.YtdaflnnjfmickaaDoor.Lw

abbrev laid3 : List (String × DataW Unit) := [("unicode/utf8.acceptRanges", Rows.laid_unicode_utf8_acceptRanges), ("errors.errorType", Rows.laid_errors_errorType), ("unicode.White_Space", Rows.laid_unicode_White_Space), ("strings.asciiSpace", Rows.laid_strings_asciiSpace), ("unicode/utf8.first", Rows.laid_unicode_utf8_first)]
def numOf : AV → Int
  | .i _ n => n
  | _ => 0
def zs : List Int := ((GL 0).getD []).map numOf
theorem gT : Tryd.prog.globalNamed "strings.asciiSpace" = some 0 := by kernel_rfl
theorem gTType : (Tryd.prog.globals[0]?).map (·.type) = some 50 := by kernel_rfl
theorem cells1 : Tryd.prog.cellsOf 5 = 1 := by kernel_rfl
theorem cellsT : Tryd.prog.cellsOf 50 = 256 := by kernel_rfl
theorem dat : (Rows.laid_strings_asciiSpace : DataW Unit) = Lib.tabData .u8 zs := by kernel_rfl
theorem plain : (laid3.filter fun x => x.2.handleName?.isNone) = [("unicode/utf8.acceptRanges", Rows.laid_unicode_utf8_acceptRanges), ("unicode.White_Space", Rows.laid_unicode_White_Space), ("strings.asciiSpace", Rows.laid_strings_asciiSpace), ("unicode/utf8.first", Rows.laid_unicode_utf8_first)] := rfl
theorem handles : (laid3.filter fun x => x.2.handleName?.isSome) = [("errors.errorType", Rows.laid_errors_errorType)] := rfl
theorem tab {W : World} (h : laidMetH Tryd.prog laid3 W) : Lib.TabIs Tryd.prog W "strings.asciiSpace" .u8 zs := by
  have h1 := (laidMetH_iff.1 h).1
  rw [plain] at h1
  have h1 := laidMet.tail h1
  have h1 := laidMet.tail h1
  rw [dat] at h1
  exact Lib.tabIs_of_head gT gTType Tryd.underlying50 Tryd.underlying5 cells1 cellsT h1
theorem rl_ints (M : Mp) : ∀ l : List Int, AV.RL M (l.map fun z => AV.i .u8 z) (l.map fun z => Value.int .u8 z)
  | [] => rfl
  | _ :: l => ⟨_, _, rfl, rl_ints M l, rfl⟩
theorem gl0 : GL 0 = some (zs.map fun z => AV.i .u8 z) := by kernel_rfl
theorem gl1' : GL 2 = some [.o (.iface 122 (.agg #[.pointer (some ⟨7, 56, none⟩)]))] := by kernel_rfl
theorem gE : Tryd.prog.globalNamed "errors.errorType" = some 2 := by kernel_rfl
theorem uE : (Tryd.prog.cutTypes.find? (·.1 == "internal/reflectlite.rtype")).map (·.2) = some 122 := by kernel_rfl
theorem nE : (Rows.laid_errors_errorType : DataW Unit).handleName? = some [101, 114, 114, 111, 114] := rfl
theorem fE : (Rows.laid_errors_errorType : DataW Unit).funcsIn? = none := rfl
theorem tE : ((List.range Tryd.prog.types.size).all fun t => !(Tryd.prog.rowNamed t [101, 114, 114, 111, 114]) || Nat.beq t 56) = true := by kernel_rfl
theorem szG : Tryd.prog.globals.size = 7 := by kernel_rfl
theorem errType {W : World} (h : laidMetH Tryd.prog laid3 W) : W.var? Tryd.prog "errors.errorType" = some #[.iface 122 (.agg #[.pointer (some ⟨7, 56, none⟩)])] := by
  have h1 := (laidMetH_iff.1 h).2
  rw [handles] at h1
  have h1 := h1 _ (List.mem_singleton_self _)
  rw [fE] at h1
  obtain ⟨name, u, ty, e1, e2, e3, e4, e5⟩ := h1
  rw [nE, Option.some.injEq] at e1
  rw [uE, Option.some.injEq] at e2
  subst e1 e2
  have h2 := List.all_eq_true.1 tE ty (List.mem_range.2 e3)
  rw [e4] at h2
  have h3 : ty = 56 := Nat.eq_of_beq_eq_true (by simpa using h2)
  subst h3
  rw [e5, typeHandle, szG]
theorem var_at {W : World} {n : String} {g : Nat} {cs : Array Value} (hg : Tryd.prog.globalNamed n = some g) (h : W.var? Tryd.prog n = some cs) : ∃ t fr, W.heap[g]? = some (.cells cs t fr) := by
  unfold World.var? at h
  rw [hg, Option.bind_some] at h
  split at h
  · rename_i cs' t fr he
    simp only [Option.some.injEq] at h
    subst h
    exact ⟨t, fr, he⟩
  · cases h
theorem gw {W : World} (h : laidMetH Tryd.prog laid3 W) : GW W := by
  intro g c hg
  have h0 : g = 0 ∨ g = 2 := by
    unfold GL at hg
    cases hb : Nat.beq g 0 with
    | true => exact .inl (Nat.eq_of_beq_eq_true hb)
    | false =>
      rw [hb, cond_false] at hg
      cases hb1 : Nat.beq g 2 with
      | true => exact .inr (Nat.eq_of_beq_eq_true hb1)
      | false => rw [hb1] at hg; cases hg
  rcases h0 with rfl | rfl
  · rw [gl0, Option.some.injEq] at hg
    subst hg
    obtain ⟨t, fr, he⟩ := var_at gT (tab h)
    exact ⟨_, t, fr, he, rl_ints _ _⟩
  · rw [gl1', Option.some.injEq] at hg
    subst hg
    obtain ⟨t, fr, he⟩ := var_at gE (errType h)
    exact ⟨_, t, fr, he, ⟨_, _, rfl, rfl, rfl⟩⟩
abbrev plain4 : List (String × DataW Unit) := [("unicode/utf8.acceptRanges", Rows.laid_unicode_utf8_acceptRanges), ("unicode.White_Space", Rows.laid_unicode_White_Space), ("strings.asciiSpace", Rows.laid_strings_asciiSpace), ("unicode/utf8.first", Rows.laid_unicode_utf8_first)]
/-- All listed variables laid by the function over any world. -/
theorem laidMet_over {P : Program} {w0 : World} {laid : List (String × DataW Unit)} (args : Array Value)
    (hf : w0.layFits P laid [] = true) (hi : w0.layIfaces P laid (w0.layVars P laid) = true) :
    laidMet P laid ((w0.layVars P laid).forCall (fun _ _ => 0) ⟨#[], args, []⟩).memory := by
  have e1 : (laid.filter fun x => (laid.map (·.1)).contains x.1) = laid := List.filter_eq_self.2 fun x hx => List.contains_iff_mem.2 (List.mem_map.2 ⟨x, hx, rfl⟩)
  have e2 : (laid.filter fun x => !(laid.map (·.1)).contains x.1) = [] := List.filter_eq_nil_iff.2 fun x hx => by rw [List.contains_iff_mem.2 (List.mem_map.2 ⟨x, hx, rfl⟩)]; simp
  have h : laidMet P laid (w0.layVars P laid) := laidMet_layVars (w0 := w0) (laid.map (·.1)) [] (by rw [e1]) (by rw [e1]; exact hf) (by rw [e1]; exact hi) (by rw [e2]; exact LaidIn.none)
  exact h.of_heap (by simp [World.memory, World.forCall, Input.heap])
noncomputable def door (os : Os) : World := (World.doorLaid Tryd.prog 4000 os).layVars Tryd.prog plain4
theorem door_os (os : Os) : (door os).os = os := World.layVars_os _ _ _
theorem door_plain (os : Os) (args : Array Value) : laidMet Tryd.prog plain4 ((door os).forCall (fun _ _ => 0) ⟨#[], args, []⟩).memory :=
  laidMet_over args (by kernel_rfl) (by kernel_rfl)
theorem door_handle (os : Os) (args : Array Value) : (laid3.filter fun x => x.2.handleName?.isSome && x.2.funcsIn?.isNone).all (handleAtB Tryd.prog ((door os).forCall (fun _ _ => 0) ⟨#[], args, []⟩).memory) = true := by kernel_rfl
theorem door_met (os : Os) (args : Array Value) : laidMetH Tryd.prog laid3 ((door os).forCall (fun _ _ => 0) ⟨#[], args, []⟩).memory :=
  laidMetH_of_parts3 (fuel := 12) (by rw [plain]; exact door_plain os args) (door_handle os args) (by kernel_rfl)
theorem shaped (os : Os) (args : Array Value) : ((door os).forCall (fun _ _ => 0) ⟨#[], args, []⟩).Shaped Tryd.prog :=
  World.shaped_of_ZipB (by kernel_rfl) (by kernel_rfl)
end Go.Proofs.YtdaflnnjfmickaaDoor.LaidD
