/- The law FixNobody returns true for every word, where strings.asciiSpace reads as its initialiser lays it; the row and its tied card. -/
import Derived.Test.YtfcbclalfpcpmaaGreatDoorLaidD
import Derived.Test.YtfcbclalfpcpmaaGreatDoorCards
import Derived.Test.YtfcbclalfpcpmaaGreatDoorFk
namespace Go.Proofs.YtfcbclalfpcpmaaGreatDoor.LFixNobody
open Go Go.RowKit Go.WideShapes Go.ChangeShapes Go.Proofs.YtfcbclalfpcpmaaGreatDoor.Ex Go.Proofs.YtfcbclalfpcpmaaGreatDoor.Lw Go.Proofs.YtfcbclalfpcpmaaGreatDoor.LaidD

theorem mixed : Tryz.prog.follows .mixedOrders = true := by kernel_rfl
/-- fix.right answers true in all states in which its map literal may leave it. -/
def smR (P : Program) : FuncId → Option Sm := fun f => bif Nat.beq f 107 then some (.call (forkG P noSm 900 107 true)) else none
theorem smR_ok : SmOK Tryz.prog (smR Tryz.prog) := fun f => by
  cases hb : Nat.beq f 107 with
  | false => simp [smR, hb]
  | true =>
    obtain rfl := Nat.eq_of_beq_eq_true hb
    refine ⟨fun g hg => ?_, fun g hg => ?_, fun g hg => ?_⟩
    · simp only [smR, hb, cond_true, Option.some.injEq, Sm.call.injEq] at hg
      subst hg
      exact forkG_ok mixed noSm_ok
    · simp [smR] at hg
    · simp [smR] at hg
theorem run (n : Int) : isB true (callS Tryz.prog (smR Tryz.prog) 1000 4 [.i .u64 n]) = true := by kernel_rfl
theorem calls (n : Int) (w : World) (hw : GW w) : Calls Tryz.prog 4 #[.int .u64 n] w fun e w' => e = .returned (.bool true) ∧ Below w.heap.size w w' :=
  callS_calls mixed smR_ok (run n) (us := [.int .u64 n]) ⟨_, _, rfl, rfl, rfl⟩ w hw

set_option maxRecDepth 100000 in
theorem lifted (os : Os) (started : os.Started) (H : Type) (enc : TypeId × Value → H) :
    ReturnsInHanded {} Tryz.checked os 4 .any (fun w args => (Rows.fixNobodySpec.pre enc Tryz.prog Tryz.f4 [] false w args ∧ laidMetH Tryz.prog laid2 w) ∧ sizedMet enc Tryz.prog Tryz.f4 (OpenSpec.ofChange Rows.fixNobodySpec) false w args)
      (Rows.fixNobodySpec.post enc Tryz.prog Tryz.f4 false true false false) := by
  refine returnsInHanded_of_change_and (C := Tryz.checked) (X := fun w _ => laidMetH Tryz.prog laid2 w) (fun _ _ _ hh h => h.of_heap hh) own started (by kernel_rfl) Tryz.func4
    (ChangeSpec.witness_shaped (enc := enc) (C := Tryz.checked) (os := os) (X := fun w _ => laidMetH Tryz.prog laid2 w) false (World.doorLaid Tryz.prog 4000 os) #[.int .u64 0] 8 rfl (shaped os _) (by kernel_rfl) (by kernel_rfl) (by kernel_rfl) (door_met os _)) ?_
  intro W base args ds gs before hval0 hW _ _ hL _
  have hval : ∀ (j : Nat) t v, Tryz.f4.params[j]? = some t → args[j]? = some v → Value.okWide Tryz.prog W .any base t v := hval0
  have hW' := hW
  obtain ⟨p, q, hA0, hV, rfl, hfz, hnd⟩ := hW
  have hA : DataW.TrodAll enc Tryz.prog W 0 (fun _ => true) true Tryz.f4.params.toList args.toList ds p := hA0
  rw [Tryz.params4] at hA hval
  obtain ⟨v0, d0, rfl, rfl, h0⟩ := trodAll_one hA
  obtain ⟨rfl, rfl⟩ := trodVars_none hV
  obtain ⟨n0, rfl, rfl, rfl, _⟩ := open_int Tryz.underlying32 (hval 0 32 v0 rfl rfl) h0
  refine (calls n0 W (gw hL)).mono fun e W' ⟨he, hb⟩ => ?_
  subst he
  exact ⟨_, rfl, law_post hW' rfl rfl Tryz.underlying4 rfl laidOut (by
    rw [Tryz.params4]
    intro t ht
    simp only [List.mem_cons, List.not_mem_nil, or_false] at ht
    subst ht
    exact ⟨by kernel_rfl, of_decide_eq_true (by kernel_rfl)⟩) hb⟩

theorem row : Rows.FixNobodySaid :=
  OpenClaim.holds_of_wide 4 Tryz.f4 rfl rfl rfl rfl rfl rfl rfl ⟨rfl, rfl, rfl, rfl, rfl⟩ rfl rfl rfl rfl rfl (by kernel_rfl) Tryz.func4 (by kernel_rfl)
    (of_decide_eq_true (by kernel_rfl)) (by unfold Func.isWrapper; first | (rw [if_pos (by decide +kernel)]; kernel_rfl) | (rw [if_neg (by decide +kernel)]; exact ⟨rfl, rfl⟩))
    (fun os started H enc _ => lifted os started H enc)
theorem holds : Rows.FixNobodyCardSaid :=
  Claim7.holds_tied_plain_at .later [] [.listed, .data] true Rows.fixNobodyCard.stood.harness true
    row (fun _ h => by cases h) (by kernel_rfl) (fun _ h => by cases h) fixNobody_row_tie rfl ⟨rfl, rfl⟩ (by kernel_rfl) rfl
    (fun f fn hf hfn => by
      obtain rfl : f = 4 := Option.some.inj ((show Tryz.prog.funcNamed "gleaning/gleaninglaw24.FixNobody" = some 4 by kernel_rfl).symm.trans hf) |>.symm
      obtain rfl : fn = Tryz.f4 := (Option.some.inj (Tryz.func4.symm.trans hfn)).symm
      exact ⟨by kernel_rfl, fun j t ht => by
        rw [Tryz.params4] at ht
        have hm : t ∈ [32] := by simpa using Array.mem_of_getElem? ht
        have hall : ([32].all fun u => !Tryz.prog.wantsStandIn u) = true := by kernel_rfl
        exact (show Tryz.prog.wantsStandIn t = false by simpa using List.all_eq_true.1 hall t hm)⟩)
    (by kernel_rfl)
#print axioms holds
end Go.Proofs.YtfcbclalfpcpmaaGreatDoor.LFixNobody
