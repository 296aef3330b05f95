/- The law ExploreSchedules returns true for all numbers, where strings.asciiSpace and unicode.White_Space read as their initialisers lay them; the row and its tied card. -/
import Derived.Test.YtiikiphkhfmlcaaGreatDoorLaidE
import Derived.Test.YtiikiphkhfmlcaaGreatDoorCards
import Derived.Test.YtiikiphkhfmlcaaGreatDoorRun37
import Derived.Test.YtiikiphkhfmlcaaGreatDoorCSch
import Derived.Test.YtiikiphkhfmlcaaGreatDoorWp
noncomputable section
namespace Go.Proofs.YtiikiphkhfmlcaaGreatDoor.LExploreSchedules
open Go Go.RowKit Go.WideShapes Go.ChangeShapes Go.Proofs.YtiikiphkhfmlcaaGreatDoor.Ex Go.Proofs.YtiikiphkhfmlcaaGreatDoor.Lw Go.Proofs.YtiikiphkhfmlcaaGreatDoor.LaidD

theorem mixed : Tryz.prog.follows .mixedOrders = true := by kernel_rfl
theorem smOk : SmOK Tryz.prog (smL lSch) := smL_ok ⟨awake37 mixed, trivial⟩
set_option maxRecDepth 100000 in
theorem calls {W : World} (hg : GW W) {x y z : Int} :
    Calls Tryz.prog 3 #[.int .i64 x, .int .i64 y, .int .i64 z] W fun e w' => e = .returned (.bool true) ∧ Below W.heap.size W w' :=
  law_callsP mixed smOk (ann := annSc x y z) (n := 1000) hg (args := [.y .i64 x, .y .i64 y, .y .i64 z]) (us := [.int .i64 x, .int .i64 y, .int .i64 z]) ⟨_, _, rfl, ⟨_, _, rfl, ⟨_, _, rfl, rfl, rfl⟩, rfl⟩, rfl⟩ (by
    have h2 := @goalSch_ok
    unfold goalSch at h2
    exact @h2 x y z)

set_option maxRecDepth 100000 in
theorem lifted (os : Os) (started : os.Started) (H : Type) (enc : TypeId × Value → H) :
    ReturnsInHanded {} Tryz.checked os 3 .any (fun w args => (Rows.exploreSchedulesSpec.pre enc Tryz.prog Tryz.f3 [] false w args ∧ laidMetH Tryz.prog laid2 w) ∧ sizedMet enc Tryz.prog Tryz.f3 (OpenSpec.ofChange Rows.exploreSchedulesSpec) false w args)
      (Rows.exploreSchedulesSpec.post enc Tryz.prog Tryz.f3 false true false false) := by
  refine returnsInHanded_of_change_and (C := Tryz.checked) (X := fun w _ => laidMetH Tryz.prog laid2 w) (fun _ _ _ hh h => h.of_heap hh) own started (by kernel_rfl) Tryz.func3
    (ChangeSpec.witness_shaped (enc := enc) (C := Tryz.checked) (os := os) (X := fun w _ => laidMetH Tryz.prog laid2 w) false (World.doorLaid Tryz.prog 4000 os) #[.int .i64 0, .int .i64 0, .int .i64 0] 8 rfl (shaped os _) (by kernel_rfl) (by kernel_rfl) (by kernel_rfl) (door_met os _)) ?_
  intro W base args ds gs before hval0 hW _ _ hL _
  have hval : ∀ (j : Nat) t v, Tryz.f3.params[j]? = some t → args[j]? = some v → Value.okWide Tryz.prog W .any base t v := hval0
  have hW' := hW
  obtain ⟨p, q, hA0, hV, rfl, hfz, hnd⟩ := hW
  have hA : DataW.TrodAll enc Tryz.prog W 0 (fun _ => true) true Tryz.f3.params.toList args.toList ds p := hA0
  rw [Tryz.params3] at hA hval
  obtain ⟨v0, v1, v2, d0, d1, d2, p0, p1, p2, rfl, rfl, rfl, h0, h1, h2⟩ := trodAll_three hA
  obtain ⟨rfl, rfl⟩ := trodVars_none hV
  obtain ⟨x, rfl⟩ := okWide_int Tryz.underlying3 (hval 0 3 v0 rfl rfl)
  obtain ⟨y, rfl⟩ := okWide_int Tryz.underlying3 (hval 1 3 v1 rfl rfl)
  obtain ⟨z, rfl⟩ := okWide_int Tryz.underlying3 (hval 2 3 v2 rfl rfl)
  refine (calls (gw hL)).mono fun e W' ⟨he, hb⟩ => ?_
  subst he
  exact ⟨_, rfl, law_post hW' rfl rfl Tryz.underlying4 rfl laidOut (by
    rw [Tryz.params3]
    intro t ht
    simp only [List.mem_cons, List.not_mem_nil, or_false] at ht
    rcases ht with rfl | rfl | rfl <;> exact ⟨by kernel_rfl, of_decide_eq_true (by kernel_rfl)⟩) hb⟩

end Go.Proofs.YtiikiphkhfmlcaaGreatDoor.LExploreSchedules
