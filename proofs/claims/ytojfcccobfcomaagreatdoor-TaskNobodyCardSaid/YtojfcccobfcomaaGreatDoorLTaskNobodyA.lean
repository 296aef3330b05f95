/- The law TaskNobody returns true for every word, where strings.asciiSpace reads as its initialiser lays it; the row and its tied card. -/
import Derived.Test.YtojfcccobfcomaaGreatDoorLaidD
import Derived.Test.YtojfcccobfcomaaGreatDoorCards
import Derived.Test.YtojfcccobfcomaaGreatDoorRunT
namespace Go.Proofs.YtojfcccobfcomaaGreatDoor.LTaskNobody
open Go Go.RowKit Go.WideShapes Go.ChangeShapes Go.Proofs.YtojfcccobfcomaaGreatDoor.Ex Go.Proofs.YtojfcccobfcomaaGreatDoor.Lw Go.Proofs.YtojfcccobfcomaaGreatDoor.LaidD

theorem mixed : Tryz.prog.follows .mixedOrders = true := by kernel_rfl
def sm : FuncId → Option Sm := fun f => bif Nat.beq f 24 then some (.call (smB true)) else none
theorem smOk : SmOK Tryz.prog sm := by
  intro f
  cases hb : Nat.beq f 24 with
  | false => simp [sm, hb]
  | true =>
    obtain rfl := Nat.eq_of_beq_eq_true hb
    refine ⟨fun g hg => ?_, fun g hg => ?_, fun g hg => ?_⟩
    · simp only [sm, hb, cond_true, Option.some.injEq, Sm.call.injEq] at hg
      subst hg
      exact smBool_ok Tryz.func24 (by kernel_rfl) (by kernel_rfl) fun w hw => callN_calls mixed RunT.up (us := []) rfl w hw
    · simp [sm] at hg
    · simp [sm] at hg
theorem run (n : Int) : isB true (callS Tryz.prog sm 1000 4 [.i .u64 n]) = true := by kernel_rfl
theorem calls (n : Int) (w : World) (hw : GW w) : Calls Tryz.prog 4 #[.int .u64 n] w fun e w' => e = .returned (.bool true) ∧ Below w.heap.size w w' :=
  callS_calls mixed smOk (run n) (us := [.int .u64 n]) ⟨_, _, rfl, rfl, rfl⟩ w hw

set_option maxRecDepth 100000 in
theorem lifted (os : Os) (started : os.Started) (H : Type) (enc : TypeId × Value → H) :
    ReturnsInHanded {} Tryz.checked os 4 .any (fun w args => (Rows.taskNobodySpec.pre enc Tryz.prog Tryz.f4 [] false w args ∧ laidMetH Tryz.prog laid2 w) ∧ sizedMet enc Tryz.prog Tryz.f4 (OpenSpec.ofChange Rows.taskNobodySpec) false w args)
      (Rows.taskNobodySpec.post enc Tryz.prog Tryz.f4 false true false false) := by
  refine returnsInHanded_of_change_and (C := Tryz.checked) (X := fun w _ => laidMetH Tryz.prog laid2 w) (fun _ _ _ hh h => h.of_heap hh) own started (by kernel_rfl) Tryz.func4
    (ChangeSpec.witness_shaped (enc := enc) (C := Tryz.checked) (os := os) (X := fun w _ => laidMetH Tryz.prog laid2 w) false (World.doorLaid Tryz.prog 4000 os) #[.int .u64 0] 8 rfl (shaped os _) (by kernel_rfl) (by kernel_rfl) (by kernel_rfl) (door_met os _)) ?_
  intro W base args ds gs before hval0 hW _ _ hL _
  have hval : ∀ (j : Nat) t v, Tryz.f4.params[j]? = some t → args[j]? = some v → Value.okWide Tryz.prog W .any base t v := hval0
  have hW' := hW
  obtain ⟨p, q, hA0, hV, rfl, hfz, hnd⟩ := hW
  have hA : DataW.TrodAll enc Tryz.prog W 0 (fun _ => true) true Tryz.f4.params.toList args.toList ds p := hA0
  rw [Tryz.params4] at hA hval
  obtain ⟨v0, d0, rfl, rfl, h0⟩ := trodAll_one hA
  obtain ⟨rfl, rfl⟩ := trodVars_none hV
  obtain ⟨n0, rfl, rfl, rfl, _⟩ := open_int Tryz.underlying22 (hval 0 22 v0 rfl rfl) h0
  refine (calls n0 W (gw hL)).mono fun e W' ⟨he, hb⟩ => ?_
  subst he
  exact ⟨_, rfl, law_post hW' rfl rfl Tryz.underlying4 rfl laidOut (by
    rw [Tryz.params4]
    intro t ht
    simp only [List.mem_cons, List.not_mem_nil, or_false] at ht
    subst ht
    exact ⟨by kernel_rfl, of_decide_eq_true (by kernel_rfl)⟩) hb⟩

end Go.Proofs.YtojfcccobfcomaaGreatDoor.LTaskNobody
