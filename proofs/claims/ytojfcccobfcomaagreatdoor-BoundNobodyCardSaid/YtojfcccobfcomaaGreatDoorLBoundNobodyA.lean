/- The law BoundNobody returns true for every two numbers, where strings.asciiSpace reads as its initialiser lays it; the row and its tied card. -/
import Derived.Test.YtojfcccobfcomaaGreatDoorLaidD
import Derived.Test.YtojfcccobfcomaaGreatDoorCards
import Derived.Test.YtojfcccobfcomaaGreatDoorRunB
namespace Go.Proofs.YtojfcccobfcomaaGreatDoor.LBoundNobody
open Go Go.RowKit Go.WideShapes Go.ChangeShapes Go.Proofs.YtojfcccobfcomaaGreatDoor.Ex Go.Proofs.YtojfcccobfcomaaGreatDoor.Lw Go.Proofs.YtojfcccobfcomaaGreatDoor.LaidD

theorem mixed : Tryz.prog.follows .mixedOrders = true := by kernel_rfl
def sm : FuncId → Option Sm := fun f => bif Nat.beq f 28 then some (.call (smB true)) else none
theorem smOk : SmOK Tryz.prog sm := by
  intro f
  cases hb : Nat.beq f 28 with
  | false => simp [sm, hb]
  | true =>
    obtain rfl := Nat.eq_of_beq_eq_true hb
    refine ⟨fun g hg => ?_, fun g hg => ?_, fun g hg => ?_⟩
    · simp only [sm, hb, cond_true, Option.some.injEq, Sm.call.injEq] at hg
      subst hg
      exact smBool_ok Tryz.func28 (by kernel_rfl) (by kernel_rfl) fun w hw => callN_calls mixed RunB.up (us := []) rfl w hw
    · simp [sm] at hg
    · simp [sm] at hg
theorem run0 (t : Int) (n : Nat) : isB true (callS Tryz.prog sm 1000 5 [.i .i64 t, .i .i64 (.ofNat 0)]) = true := by kernel_rfl
theorem run1 (t : Int) (n : Nat) : isB true (callS Tryz.prog sm 1000 5 [.i .i64 t, .i .i64 (.ofNat (n + 1))]) = true := by kernel_rfl
theorem run2 (t : Int) (n : Nat) : isB true (callS Tryz.prog sm 1000 5 [.i .i64 t, .i .i64 (.negSucc n)]) = true := by kernel_rfl
theorem run (t n : Int) : isB true (callS Tryz.prog sm 1000 5 [.i .i64 t, .i .i64 n]) = true := by
  match n with
  | .ofNat 0 => exact run0 t 0
  | .ofNat (n + 1) => exact run1 t n
  | .negSucc n => exact run2 t n
theorem calls (t n : Int) (w : World) (hw : GW w) : Calls Tryz.prog 5 #[.int .i64 t, .int .i64 n] w fun e w' => e = .returned (.bool true) ∧ Below w.heap.size w w' :=
  callS_calls mixed smOk (run t n) (us := [.int .i64 t, .int .i64 n]) ⟨_, _, rfl, ⟨_, _, rfl, rfl, rfl⟩, rfl⟩ w hw

set_option maxRecDepth 100000 in
theorem lifted (os : Os) (started : os.Started) (H : Type) (enc : TypeId × Value → H) :
    ReturnsInHanded {} Tryz.checked os 5 .any (fun w args => (Rows.boundNobodySpec.pre enc Tryz.prog Tryz.f5 [] false w args ∧ laidMetH Tryz.prog laid2 w) ∧ sizedMet enc Tryz.prog Tryz.f5 (OpenSpec.ofChange Rows.boundNobodySpec) false w args)
      (Rows.boundNobodySpec.post enc Tryz.prog Tryz.f5 false true false false) := by
  refine returnsInHanded_of_change_and (C := Tryz.checked) (X := fun w _ => laidMetH Tryz.prog laid2 w) (fun _ _ _ hh h => h.of_heap hh) own started (by kernel_rfl) Tryz.func5
    (ChangeSpec.witness_shaped (enc := enc) (C := Tryz.checked) (os := os) (X := fun w _ => laidMetH Tryz.prog laid2 w) false (World.doorLaid Tryz.prog 4000 os) #[.int .i64 0, .int .i64 0] 8 rfl (shaped os _) (by kernel_rfl) (by kernel_rfl) (by kernel_rfl) (door_met os _)) ?_
  intro W base args ds gs before hval0 hW _ _ hL _
  have hval : ∀ (j : Nat) t v, Tryz.f5.params[j]? = some t → args[j]? = some v → Value.okWide Tryz.prog W .any base t v := hval0
  have hW' := hW
  obtain ⟨p, q, hA0, hV, rfl, hfz, hnd⟩ := hW
  have hA : DataW.TrodAll enc Tryz.prog W 0 (fun _ => true) true Tryz.f5.params.toList args.toList ds p := hA0
  rw [Tryz.params5] at hA hval
  obtain ⟨v0, v1, d0, d1, p0, p1, rfl, rfl, rfl, h0, h1⟩ := trodAll_two hA
  obtain ⟨rfl, rfl⟩ := trodVars_none hV
  obtain ⟨n0, rfl, rfl, rfl, _⟩ := open_int Tryz.underlying3 (hval 0 3 v0 rfl rfl) h0
  obtain ⟨m0, rfl, rfl, rfl, _⟩ := open_int Tryz.underlying3 (hval 1 3 v1 rfl rfl) h1
  refine (calls n0 m0 W (gw hL)).mono fun e W' ⟨he, hb⟩ => ?_
  subst he
  exact ⟨_, rfl, law_post hW' rfl rfl Tryz.underlying4 rfl laidOut (by
    rw [Tryz.params5]
    intro t ht
    simp only [List.mem_cons, List.not_mem_nil, or_false] at ht
    rcases ht with rfl | rfl <;> exact ⟨by kernel_rfl, of_decide_eq_true (by kernel_rfl)⟩) hb⟩

end Go.Proofs.YtojfcccobfcomaaGreatDoor.LBoundNobody
