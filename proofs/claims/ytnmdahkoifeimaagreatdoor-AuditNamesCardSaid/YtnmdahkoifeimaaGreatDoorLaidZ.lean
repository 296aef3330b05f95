/- What the laid package variables of this seat's door give the abstract machine: strings.asciiSpace holds its bytes, audit.names the kinds' names. And a start that meets the condition. -/
import Derived.Test.YtnmdahkoifeimaaGreatDoorLaw
import Derived.Test.YtnmdahkoifeimaaGreatDoorExQ
import Derived.Test.YtnmdahkoifeimaaGreatDoorTie
import Derived.LaidMore
import Derived.LaidHandle
import Derived.MakeChecks
import Derived.Lib.LaidTab
import Derived.Stop.LaidErr
import Derived.SevenTiedAt
import Derived.OpenShut
import Derived.Stop.Joined
namespace Go.Proofs.YtnmdahkoifeimaaGreatDoor.LaidZ
open Go Go.RowKit Go.WideShapes Go.ChangeShapes Go.Proofs.YtnmdahkoifeimaaGreatDoor.Ex Go.Proofs.YtnmdahkoifeimaaGreatDoor.Lw

abbrev laid3 : List (String × DataW Unit) := [("unicode.White_Space", Rows.laid_unicode_White_Space), ("strings.asciiSpace", Rows.laid_strings_asciiSpace), ("gleaning/audit.names", Rows.laid_gleaning_audit_names)]
def numOf : AV → Int
  | .i _ n => n
  | _ => 0
def strOf : AV → List UInt8
  | .s l => l
  | _ => []
def zs : List Int := ((GL 1).getD []).map numOf
def ns : List (List UInt8) := ((GL 0).getD []).map strOf
theorem gT : Tryz.prog.globalNamed "strings.asciiSpace" = some 1 := by kernel_rfl
theorem gTType : (Tryz.prog.globals[1]?).map (·.type) = some 172 := by kernel_rfl
theorem gN : Tryz.prog.globalNamed "gleaning/audit.names" = some 0 := by kernel_rfl
theorem gNType : (Tryz.prog.globals[0]?).map (·.type) = some 75 := by kernel_rfl
theorem cells1 : Tryz.prog.cellsOf 5 = 1 := by kernel_rfl
theorem cellsT : Tryz.prog.cellsOf 172 = 256 := by kernel_rfl
theorem cellsS : Tryz.prog.cellsOf 9 = 1 := by kernel_rfl
theorem cellsN : Tryz.prog.cellsOf 75 = 6 := by kernel_rfl
theorem dat : (Rows.laid_strings_asciiSpace : DataW Unit) = Lib.tabData .u8 zs := by kernel_rfl
theorem datN : (Rows.laid_gleaning_audit_names : DataW Unit) = .agg (ns.map fun z => .lit (.string z)) := by kernel_rfl

theorem cells_of_strs {H : Type} {enc : TypeId × Value → H} {P : Program} {w : World} {base : Nat} {sp : Nat → Bool} {held : Bool} {fuel : Nat} {t e : TypeId} {n : Nat} {cs : List Value} {l : List (List UInt8)} {p : List MemPlace}
    (ht : P.underlying t = some (.array n e)) (he : P.underlying e = some .string) (hce : P.cellsOf e = 1) (hct : P.cellsOf t = n)
    (h : DataW.trod enc P w base sp held fuel t cs = some (.agg (l.map fun z => .lit (.string z)), p)) : cs = l.map fun z => Value.string ⟨z.toArray⟩ := by
  cases fuel with
  | zero => simp [DataW.trod] at h
  | succ fuel =>
    simp only [DataW.trod, ht, hce, hct, Nat.mul_one] at h
    split at h
    · rename_i hl
      obtain ⟨xs, hm, hx⟩ := Option.map_eq_some_iff.1 h
      have hxs : xs.map (·.1) = l.map fun z => (DataW.lit (.string z) : DataW H) := by
        have := congrArg Prod.fst hx
        simpa using this
      have hxl : xs.length = n := by simpa using Lib.mapM_length hm
      have hzl : l.length = n := by
        have := congrArg List.length hxs
        simp at this
        omega
      apply List.ext_getElem?
      intro i
      by_cases hi : i < n
      · obtain ⟨b, hb, hf⟩ := Lib.mapM_at hm i i (by simp [hi])
        obtain ⟨z, hc, rfl, _⟩ := DataW.trod_string he hf
        have h1 : cs[i]? = some (.string z) := by
          have := congrArg (·[0]?) hc
          simpa [List.getElem?_take, List.getElem?_drop] using this
        have h2 : (xs.map (·.1))[i]? = some (DataW.lit (.string z.data.toList) : DataW H) := by simp [hb]
        rw [hxs] at h2
        simp only [List.getElem?_map, Option.map_eq_some_iff, DataW.lit.injEq, Lit.string.injEq] at h2
        obtain ⟨z', hz', rfl⟩ := h2
        simp [h1, hz']
      · rw [List.getElem?_eq_none (by omega), List.getElem?_eq_none (by simp; omega)]
    · cases h
theorem tab {W : World} (h : laidMetH Tryz.prog laid3 W) : Lib.TabIs Tryz.prog W "strings.asciiSpace" .u8 zs ∧ W.var? Tryz.prog "gleaning/audit.names" = some (ns.map fun z => Value.string ⟨z.toArray⟩).toArray := by
  rw [MakeChecks.laidMetH_plain _ _ _ (by kernel_rfl)] at h
  have h1 := laidMet.tail h
  have h2 := laidMet.tail h1
  rw [dat] at h1
  rw [datN] at h2
  refine ⟨Lib.tabIs_of_head gT gTType Tryz.underlying172 Tryz.underlying5 cells1 cellsT h1, ?_⟩
  obtain ⟨ps, ⟨g', t', cs, fuel, p, q, hg', ht', hvar, hd, _, _⟩, _⟩ := h2
  obtain rfl := Option.some.inj (gN.symm.trans hg')
  obtain rfl := Option.some.inj (gNType.symm.trans ht')
  rw [hvar, ← cells_of_strs Tryz.underlying75 Tryz.underlying9 cellsS cellsN hd]
theorem rl_ints (M : Mp) : ∀ l : List Int, AV.RL M (l.map fun z => AV.i .u8 z) (l.map fun z => Value.int .u8 z)
  | [] => rfl
  | _ :: l => ⟨_, _, rfl, rl_ints M l, rfl⟩
theorem rl_strs (M : Mp) : ∀ l : List (List UInt8), AV.RL M (l.map fun z => AV.s z) (l.map fun z => Value.string ⟨z.toArray⟩)
  | [] => rfl
  | _ :: l => ⟨_, _, rfl, rl_strs M l, rfl⟩
theorem gl0 : GL 0 = some (ns.map fun z => AV.s z) := by kernel_rfl
theorem gl1 : GL 1 = some (zs.map fun z => AV.i .u8 z) := by kernel_rfl
theorem var_block {W : World} {name : String} {g : Nat} {vs : Array Value} (hg : Tryz.prog.globalNamed name = some g) (ht : W.var? Tryz.prog name = some vs) : ∃ e fr, W.heap[g]? = some (.cells vs e fr) := by
  unfold World.var? at ht
  rw [hg, Option.bind_some] at ht
  split at ht
  · rename_i cs t fr he
    simp only [Option.some.injEq] at ht
    subst ht
    exact ⟨t, fr, he⟩
  · cases ht
theorem gw {W : World} (h : laidMetH Tryz.prog laid3 W) : GW W := by
  intro g c hg
  obtain ⟨t1, t2⟩ := tab h
  have h0 : g = 0 ∨ g = 1 := by
    unfold GL at hg
    cases hb : Nat.beq g 0 with
    | true => exact .inl (Nat.eq_of_beq_eq_true hb)
    | false =>
      rw [hb, cond_false] at hg
      cases hb1 : Nat.beq g 1 with
      | true => exact .inr (Nat.eq_of_beq_eq_true hb1)
      | false => rw [hb1] at hg; cases hg
  rcases h0 with rfl | rfl
  · rw [gl0, Option.some.injEq] at hg
    subst hg
    obtain ⟨e, fr, he⟩ := var_block gN t2
    exact ⟨_, e, fr, he, rl_strs _ _⟩
  · rw [gl1, Option.some.injEq] at hg
    subst hg
    obtain ⟨e, fr, he⟩ := var_block gT t1
    exact ⟨_, e, fr, he, rl_ints _ _⟩
theorem door_met (os : Os) (args : Array Value) : laidMetH Tryz.prog laid3 ((World.doorLaid Tryz.prog 4000 os).forCall (fun _ _ => 0) ⟨#[], args, []⟩).memory :=
  laidMetH_of_parts3 (fuel := 12) (laidMet_of_run' 12 (by kernel_rfl) (by kernel_rfl)) (by kernel_rfl) (by kernel_rfl)
theorem shaped (os : Os) (args : Array Value) : ((World.doorLaid Tryz.prog 4000 os).forCall (fun _ _ => 0) ⟨#[], args, []⟩).Shaped Tryz.prog := by
  exact World.shaped_of_RefB (by kernel_rfl) (by kernel_rfl)
end Go.Proofs.YtnmdahkoifeimaaGreatDoor.LaidZ
