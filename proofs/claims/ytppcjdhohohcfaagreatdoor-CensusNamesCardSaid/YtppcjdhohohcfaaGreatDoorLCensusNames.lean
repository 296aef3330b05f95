/- The law CensusNames returns true for every number, where strings.asciiSpace reads as its initialiser lays it; the row and its tied card. -/
import Derived.Test.YtppcjdhohohcfaaGreatDoorLaidE
import Derived.Test.YtppcjdhohohcfaaGreatDoorCards
import Derived.Test.YtppcjdhohohcfaaGreatDoorRunC
namespace Go.Proofs.YtppcjdhohohcfaaGreatDoor.LCensusNames
open Go Go.RowKit Go.WideShapes Go.ChangeShapes Go.Proofs.YtppcjdhohohcfaaGreatDoor.Ex Go.Proofs.YtppcjdhohohcfaaGreatDoor.Lw Go.Proofs.YtppcjdhohohcfaaGreatDoor.LaidD

theorem mixed : Tryz.prog.follows .mixedOrders = true := by kernel_rfl
def lNam : List (Nat × Sm) := (10, .call (smB true)) :: RunC.lCen
theorem smOk : SmOK Tryz.prog (smL lNam) :=
  smL_ok ⟨smBool_ok Tryz.func10 (by kernel_rfl) (by kernel_rfl) fun w hw => callS_calls mixed (smL_ok RunC.lCen_ok) RunC.up (us := []) rfl w hw, RunC.lCen_ok⟩
theorem run0 : isB true (callS Tryz.prog (smL lNam) 1000 3 [.i .i64 (.ofNat 0)]) = true := by kernel_rfl
theorem run1 : isB true (callS Tryz.prog (smL lNam) 1000 3 [.i .i64 (.ofNat 1)]) = true := by kernel_rfl
theorem run2 : isB true (callS Tryz.prog (smL lNam) 1000 3 [.i .i64 (.ofNat 2)]) = true := by kernel_rfl
theorem run3 : isB true (callS Tryz.prog (smL lNam) 1000 3 [.i .i64 (.ofNat 3)]) = true := by kernel_rfl
theorem run4 : isB true (callS Tryz.prog (smL lNam) 1000 3 [.i .i64 (.ofNat 4)]) = true := by kernel_rfl
theorem run5 : isB true (callS Tryz.prog (smL lNam) 1000 3 [.i .i64 (.ofNat 5)]) = true := by kernel_rfl
theorem run6 (n : Nat) : isB true (callS Tryz.prog (smL lNam) 1000 3 [.i .i64 (.ofNat (n + 6))]) = true := by kernel_rfl
theorem run7 (n : Nat) : isB true (callS Tryz.prog (smL lNam) 1000 3 [.i .i64 (.negSucc n)]) = true := by kernel_rfl
theorem run (n : Int) : isB true (callS Tryz.prog (smL lNam) 1000 3 [.i .i64 n]) = true := by
  match n with
  | .ofNat 0 => exact run0
  | .ofNat 1 => exact run1
  | .ofNat 2 => exact run2
  | .ofNat 3 => exact run3
  | .ofNat 4 => exact run4
  | .ofNat 5 => exact run5
  | .ofNat (n + 6) => exact run6 n
  | .negSucc n => exact run7 n
theorem calls (n : Int) (w : World) (hw : GW w) : Calls Tryz.prog 3 #[.int .i64 n] w fun e w' => e = .returned (.bool true) ∧ Below w.heap.size w w' :=
  callS_calls mixed smOk (run n) (us := [.int .i64 n]) ⟨_, _, rfl, rfl, rfl⟩ w hw

set_option maxRecDepth 100000 in
theorem lifted (os : Os) (started : os.Started) (H : Type) (enc : TypeId × Value → H) :
    ReturnsInHanded {} Tryz.checked os 3 .any (fun w args => (Rows.censusNamesSpec.pre enc Tryz.prog Tryz.f3 [] false w args ∧ laidMetH Tryz.prog laid2 w) ∧ sizedMet enc Tryz.prog Tryz.f3 (OpenSpec.ofChange Rows.censusNamesSpec) false w args)
      (Rows.censusNamesSpec.post enc Tryz.prog Tryz.f3 false true false false) := by
  refine returnsInHanded_of_change_and (C := Tryz.checked) (X := fun w _ => laidMetH Tryz.prog laid2 w) (fun _ _ _ hh h => h.of_heap hh) own started (by kernel_rfl) Tryz.func3
    (ChangeSpec.witness_shaped (enc := enc) (C := Tryz.checked) (os := os) (X := fun w _ => laidMetH Tryz.prog laid2 w) false (World.doorLaid Tryz.prog 4000 os) #[.int .i64 0] 8 rfl (shaped os _) (by kernel_rfl) (by kernel_rfl) (by kernel_rfl) (door_met os _)) ?_
  intro W base args ds gs before hval0 hW _ _ hL _
  have hval : ∀ (j : Nat) t v, Tryz.f3.params[j]? = some t → args[j]? = some v → Value.okWide Tryz.prog W .any base t v := hval0
  have hW' := hW
  obtain ⟨p, q, hA0, hV, rfl, hfz, hnd⟩ := hW
  have hA : DataW.TrodAll enc Tryz.prog W 0 (fun _ => true) true Tryz.f3.params.toList args.toList ds p := hA0
  rw [Tryz.params3] at hA hval
  obtain ⟨v0, d0, rfl, rfl, h0⟩ := trodAll_one hA
  obtain ⟨rfl, rfl⟩ := trodVars_none hV
  obtain ⟨n0, rfl, rfl, rfl, _⟩ := open_int Tryz.underlying3 (hval 0 3 v0 rfl rfl) h0
  refine (calls n0 W (gw hL)).mono fun e W' ⟨he, hb⟩ => ?_
  subst he
  exact ⟨_, rfl, law_post hW' rfl rfl Tryz.underlying4 rfl laidOut (by
    rw [Tryz.params3]
    intro t ht
    simp only [List.mem_cons, List.not_mem_nil, or_false] at ht
    subst ht
    exact ⟨by kernel_rfl, of_decide_eq_true (by kernel_rfl)⟩) hb⟩

theorem row : Rows.CensusNamesSaid :=
  OpenClaim.holds_of_wide 3 Tryz.f3 rfl rfl rfl rfl rfl rfl rfl ⟨rfl, rfl, rfl, rfl, rfl⟩ rfl rfl rfl rfl rfl (by kernel_rfl) Tryz.func3 (by kernel_rfl)
    (of_decide_eq_true (by kernel_rfl)) (by unfold Func.isWrapper; first | (rw [if_pos (by decide +kernel)]; kernel_rfl) | (rw [if_neg (by decide +kernel)]; exact ⟨rfl, rfl⟩))
    (fun os started H enc _ => lifted os started H enc)
theorem holds : Rows.CensusNamesCardSaid :=
  Claim7.holds_tied_plain_at .later [] [.listed, .data] true Rows.censusNamesCard.stood.harness false
    row (fun _ h => by cases h) (by kernel_rfl) (fun _ h => by cases h) censusNames_row_tie rfl ⟨rfl, rfl⟩ (by kernel_rfl) rfl
    (fun f fn hf hfn => by
      obtain rfl : f = 3 := Option.some.inj ((show Tryz.prog.funcNamed "gleaning/gleaninglaw33.CensusNames" = some 3 by kernel_rfl).symm.trans hf) |>.symm
      obtain rfl : fn = Tryz.f3 := (Option.some.inj (Tryz.func3.symm.trans hfn)).symm
      exact ⟨by kernel_rfl, fun j t ht => by
        rw [Tryz.params3] at ht
        have hm : t ∈ [3] := by simpa using Array.mem_of_getElem? ht
        have hall : ([3].all fun u => !Tryz.prog.wantsStandIn u) = true := by kernel_rfl
        exact (show Tryz.prog.wantsStandIn t = false by simpa using List.all_eq_true.1 hall t hm)⟩)
    (by kernel_rfl)
#print axioms holds
end Go.Proofs.YtppcjdhohohcfaaGreatDoor.LCensusNames
