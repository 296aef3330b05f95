/- The law AuditNames returns true for every number, where strings.asciiSpace and audit.names read as their initialisers lay them; the row and its tied card. -/
import Derived.Test.YtnmdahkoifeimaaGreatDoorLaidZ
import Derived.Test.YtnmdahkoifeimaaGreatDoorCards
namespace Go.Proofs.YtnmdahkoifeimaaGreatDoor.LAuditNames
open Go Go.RowKit Go.WideShapes Go.ChangeShapes Go.Proofs.YtnmdahkoifeimaaGreatDoor.Ex Go.Proofs.YtnmdahkoifeimaaGreatDoor.Lw Go.Proofs.YtnmdahkoifeimaaGreatDoor.LaidZ

theorem mixed : Tryz.prog.follows .mixedOrders = true := by kernel_rfl
theorem up : isB true (callS Tryz.prog noSm 1000 13 []) = true := by kernel_rfl
def sm : FuncId → Option Sm := fun f => bif Nat.beq f 13 then some (.call (smB true)) else none
theorem smOk : SmOK Tryz.prog sm := by
  intro f
  cases hb : Nat.beq f 13 with
  | false => simp [sm, hb]
  | true =>
    obtain rfl := Nat.eq_of_beq_eq_true hb
    refine ⟨fun g hg => ?_, fun g hg => ?_⟩
    · simp only [sm, hb, cond_true, Option.some.injEq, Sm.call.injEq] at hg
      subst hg
      exact smBool_ok Tryz.func13 (by kernel_rfl) (by kernel_rfl) fun w hw => callN_calls mixed up (us := []) rfl w hw
    · simp [sm] at hg
theorem run0 (k : Nat) : isB true (callS Tryz.prog sm 1000 4 [.i .i64 (.ofNat (k + 7))]) = true := by kernel_rfl
theorem runN (k : Nat) : isB true (callS Tryz.prog sm 1000 4 [.i .i64 (.negSucc k)]) = true := by kernel_rfl
theorem run6 : isB true (callS Tryz.prog sm 1000 4 [.i .i64 (.ofNat 0)]) = true ∧ isB true (callS Tryz.prog sm 1000 4 [.i .i64 (.ofNat 1)]) = true ∧
    isB true (callS Tryz.prog sm 1000 4 [.i .i64 (.ofNat 2)]) = true ∧ isB true (callS Tryz.prog sm 1000 4 [.i .i64 (.ofNat 3)]) = true ∧
    isB true (callS Tryz.prog sm 1000 4 [.i .i64 (.ofNat 4)]) = true ∧ isB true (callS Tryz.prog sm 1000 4 [.i .i64 (.ofNat 5)]) = true ∧
    isB true (callS Tryz.prog sm 1000 4 [.i .i64 (.ofNat 6)]) = true :=
  ⟨by kernel_rfl, by kernel_rfl, by kernel_rfl, by kernel_rfl, by kernel_rfl, by kernel_rfl, by kernel_rfl⟩
theorem run (n : Int) : isB true (callS Tryz.prog sm 1000 4 [.i .i64 n]) = true := by
  obtain ⟨r0, r1, r2, r3, r4, r5, r6⟩ := run6
  match n with
  | .negSucc k => exact runN k
  | .ofNat 0 => exact r0
  | .ofNat 1 => exact r1
  | .ofNat 2 => exact r2
  | .ofNat 3 => exact r3
  | .ofNat 4 => exact r4
  | .ofNat 5 => exact r5
  | .ofNat 6 => exact r6
  | .ofNat (k + 7) => exact run0 k
theorem calls (n : Int) (w : World) (hw : GW w) : Calls Tryz.prog 4 #[.int .i64 n] w fun e w' => e = .returned (.bool true) ∧ Below w.heap.size w w' :=
  callS_calls mixed smOk (run n) (us := [.int .i64 n]) ⟨_, _, rfl, rfl, rfl⟩ w hw

set_option maxRecDepth 100000 in
theorem lifted (os : Os) (started : os.Started) (H : Type) (enc : TypeId × Value → H) :
    ReturnsInHanded {} Tryz.checked os 4 .any (fun w args => (Rows.auditNamesSpec.pre enc Tryz.prog Tryz.f4 [] false w args ∧ laidMetH Tryz.prog laid3 w) ∧ sizedMet enc Tryz.prog Tryz.f4 (OpenSpec.ofChange Rows.auditNamesSpec) false w args)
      (Rows.auditNamesSpec.post enc Tryz.prog Tryz.f4 false true false false) := by
  refine returnsInHanded_of_change_and (C := Tryz.checked) (X := fun w _ => laidMetH Tryz.prog laid3 w) (fun _ _ _ hh h => h.of_heap hh) own started (by kernel_rfl) Tryz.func4
    (ChangeSpec.witness_shaped (enc := enc) (C := Tryz.checked) (os := os) (X := fun w _ => laidMetH Tryz.prog laid3 w) false (World.doorLaid Tryz.prog 4000 os) #[.int .i64 0] 8 rfl (shaped os _) (by kernel_rfl) (by kernel_rfl) (by kernel_rfl) (door_met os _)) ?_
  intro W base args ds gs before hval0 hW _ _ hL _
  have hval : ∀ (j : Nat) t v, Tryz.f4.params[j]? = some t → args[j]? = some v → Value.okWide Tryz.prog W .any base t v := hval0
  have hW' := hW
  obtain ⟨p, q, hA0, hV, rfl, hfz, hnd⟩ := hW
  have hA : DataW.TrodAll enc Tryz.prog W 0 (fun _ => true) true Tryz.f4.params.toList args.toList ds p := hA0
  rw [Tryz.params4] at hA hval
  obtain ⟨v0, d0, rfl, rfl, h0⟩ := trodAll_one hA
  obtain ⟨rfl, rfl⟩ := trodVars_none hV
  obtain ⟨n0, rfl, rfl, rfl, _⟩ := open_int Tryz.underlying3 (hval 0 3 v0 rfl rfl) h0
  refine (calls n0 W (gw hL)).mono fun e W' ⟨he, hb⟩ => ?_
  subst he
  exact ⟨_, rfl, law_post hW' rfl rfl Tryz.underlying4 rfl laidOut (by
    rw [Tryz.params4]
    intro t ht
    simp only [List.mem_cons, List.not_mem_nil, or_false] at ht
    subst ht
    exact ⟨by kernel_rfl, of_decide_eq_true (by kernel_rfl)⟩) hb⟩

theorem row : Rows.AuditNamesSaid :=
  OpenClaim.holds_of_wide 4 Tryz.f4 rfl rfl rfl rfl rfl rfl rfl ⟨rfl, rfl, rfl, rfl, rfl⟩ rfl rfl rfl rfl rfl (by kernel_rfl) Tryz.func4 (by kernel_rfl)
    (of_decide_eq_true (by kernel_rfl)) (by unfold Func.isWrapper; first | (rw [if_pos (by decide +kernel)]; kernel_rfl) | (rw [if_neg (by decide +kernel)]; exact ⟨rfl, rfl⟩))
    (fun os started H enc _ => lifted os started H enc)
theorem holds : Rows.AuditNamesCardSaid :=
  Claim7.holds_tied_plain_at .later [] [.listed, .data, .data] true Rows.auditNamesCard.stood.harness true
    row (fun _ h => by cases h) (by kernel_rfl) (fun _ h => by cases h) auditNames_row_tie rfl ⟨rfl, rfl⟩ (by kernel_rfl) rfl
    (fun f fn hf hfn => by
      obtain rfl : f = 4 := Option.some.inj ((show Tryz.prog.funcNamed "gleaning/gleaninglaw35.AuditNames" = some 4 by kernel_rfl).symm.trans hf) |>.symm
      obtain rfl : fn = Tryz.f4 := (Option.some.inj (Tryz.func4.symm.trans hfn)).symm
      exact ⟨by kernel_rfl, fun j t ht => by
        rw [Tryz.params4] at ht
        have hm : t ∈ [3] := by simpa using Array.mem_of_getElem? ht
        have hall : ([3].all fun u => !Tryz.prog.wantsStandIn u) = true := by kernel_rfl
        exact (show Tryz.prog.wantsStandIn t = false by simpa using List.all_eq_true.1 hall t hm)⟩)
    (by kernel_rfl)
#print axioms holds
end Go.Proofs.YtnmdahkoifeimaaGreatDoor.LAuditNames
