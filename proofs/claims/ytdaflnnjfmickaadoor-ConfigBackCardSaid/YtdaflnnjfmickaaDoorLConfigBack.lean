/- The law ConfigBack returns true for every configuration, where the five laid variables read as their initialisers lay them; the row and its tied card. -/
import Derived.Test.YtdaflnnjfmickaaDoorLaidH
import Derived.Test.YtdaflnnjfmickaaDoorCards
import Derived.Test.YtdaflnnjfmickaaDoorPkCb
namespace Go.Proofs.YtdaflnnjfmickaaDoor.LConfigBack
open Go Go.RowKit Go.WideShapes Go.ChangeShapes Go.Proofs.YtdaflnnjfmickaaDoor.Ex Go.Proofs.YtdaflnnjfmickaaDoor.Lw Go.Proofs.YtdaflnnjfmickaaDoor.LaidD

theorem mixed : Tryd.prog.follows .mixedOrders = true := by kernel_rfl
def ctP : List CT := [.sc (.int .i64), .sc (.int .i64), .sc (.int .i64), .sc (.int .i64), .sc (.int .i64)]
theorem smOk0 : SmOK Tryd.prog (smL lEr) := smL_ok ⟨smWhy, smField, trivial⟩
theorem awakeOk : SmCall Tryd.prog 7 (smB true) := smBool_ok Tryd.func7 (by kernel_rfl) (by kernel_rfl) fun w hw => callS_calls mixed smOk0 up07 (us := []) rfl w hw
theorem smOkT : SmOK Tryd.prog (smL (lBk fTxt fRight 5)) :=
  smL_ok ⟨smTxt mixed, smWords mixed, smSplit 5, smCutT, smPar mixed, smRight mixed, smWrong mixed, awakeOk, trivial⟩
theorem smOkF : SmOK Tryd.prog (smL (lBk fTxt0 fRight 1)) :=
  smL_ok ⟨smTxt0 mixed, smWords mixed, smSplit 1, smCutT, smPar mixed, smRight mixed, smWrong mixed, awakeOk, trivial⟩
set_option maxRecDepth 100000 in
theorem calls {W : World} (hg : GW W) {ds : List Dc} {v : Value} (hd : DaR W (.agg (ctP.map CT.cs)) (.agg ds) v) (hk : DcKs ctP ds) :
    Calls Tryd.prog 3 #[v] W fun e w' => e = .returned (.bool true) ∧ Below W.heap.size W w' := by
  obtain ⟨_, _, rfl, ⟨_, ⟨n1, rfl, _⟩, rfl⟩, _, _, rfl, ⟨_, ⟨n2, rfl, _⟩, rfl⟩, _, _, rfl, ⟨_, ⟨n3, rfl, _⟩, rfl⟩, _, _, rfl, ⟨_, ⟨n4, rfl, _⟩, rfl⟩, _, _, rfl, ⟨_, ⟨n5, rfl, _⟩, rfl⟩, rfl⟩ := hk
  cases hr : rightC n1 n2 n3 n4 n5 with
  | true =>
    have h2 := @goalBkT_ok
    unfold goalBkT at h2
    refine law_callsG (ann := fun _ => none) (n := 1000) mixed smOkT hg (gs := gConf) (ds := dConf n1 n2 n3 n4 n5) (us := [v]) ⟨_, _, _, _, rfl, rfl, hd, rfl, rfl⟩ (by show 0 < 4294967296; omega) ?_
    with_reducible exact @h2 n1 n2 n3 n4 n5 hr
  | false =>
    have h2 := @goalBkF_ok
    unfold goalBkF at h2
    refine law_callsG (ann := fun _ => none) (n := 1000) mixed smOkF hg (gs := gConf) (ds := dConf n1 n2 n3 n4 n5) (us := [v]) ⟨_, _, _, _, rfl, rfl, hd, rfl, rfl⟩ (by show 0 < 4294967296; omega) ?_
    with_reducible exact @h2 n1 n2 n3 n4 n5 hr

set_option maxRecDepth 100000 in
theorem lifted (os : Os) (started : os.Started) (H : Type) (enc : TypeId × Value → H) :
    ReturnsInHanded {} Tryd.checked os 3 .any (fun w args => (Rows.configBackSpec.pre enc Tryd.prog Tryd.f3 [] false w args ∧ laidMetH Tryd.prog laid3 w) ∧ sizedMet enc Tryd.prog Tryd.f3 (OpenSpec.ofChange Rows.configBackSpec) false w args)
      (Rows.configBackSpec.post enc Tryd.prog Tryd.f3 false true false false) := by
  refine returnsInHanded_of_change_and (C := Tryd.checked) (X := fun w _ => laidMetH Tryd.prog laid3 w) (fun _ _ _ hh h => h.of_heap hh) own started (by kernel_rfl) Tryd.func3
    (ChangeSpec.witness_shaped (enc := enc) (C := Tryd.checked) (os := os) (X := fun w _ => laidMetH Tryd.prog laid3 w) false (door os) #[.agg #[.int .i64 0, .int .i64 0, .int .i64 0, .int .i64 0, .int .i64 0]] 8 (door_os os) (shaped os _) (by kernel_rfl) (by kernel_rfl) (by kernel_rfl) (door_met os _)) ?_
  intro W base args ds gs before hval0 hW _ _ hL _
  have hval : ∀ (j : Nat) t v, Tryd.f3.params[j]? = some t → args[j]? = some v → Value.okWide Tryd.prog W .any base t v := hval0
  have hW' := hW
  obtain ⟨p, q, hA0, hV, rfl, hfz, hnd⟩ := hW
  have hA : DataW.TrodAll enc Tryd.prog W 0 (fun _ => true) true Tryd.f3.params.toList args.toList ds p := hA0
  rw [Tryd.params3] at hA hval
  obtain ⟨v0, d0, rfl, rfl, h0⟩ := trodAll_one hA
  obtain ⟨rfl, rfl⟩ := trodVars_none hV
  have ct : ctsOf Tryd.prog 10 23 = some ctP := by kernel_rfl
  obtain ⟨d, r1, k1⟩ := par_aggG (gw hL) (fun e ks hm => by simp [ctP] at hm) ct Tryd.underlying23 (by kernel_rfl) (hval 0 23 v0 rfl rfl) h0
  refine (calls (gw hL) r1 k1).mono fun e W' ⟨he, hb⟩ => ?_
  subst he
  exact ⟨_, rfl, law_post hW' rfl rfl Tryd.underlying4 rfl laidOut (by
    rw [Tryd.params3]
    intro t ht
    simp only [List.mem_cons, List.not_mem_nil, or_false] at ht
    subst ht
    exact ⟨by kernel_rfl, of_decide_eq_true (by kernel_rfl)⟩) hb⟩

theorem row : Rows.ConfigBackSaid :=
  OpenClaim.holds_of_wide 3 Tryd.f3 rfl rfl rfl rfl rfl rfl rfl ⟨rfl, rfl, rfl, rfl, rfl⟩ rfl rfl rfl rfl rfl (by kernel_rfl) Tryd.func3 (by kernel_rfl)
    (of_decide_eq_true (by kernel_rfl)) (by unfold Func.isWrapper; first | (rw [if_pos (by decide +kernel)]; kernel_rfl) | (rw [if_neg (by decide +kernel)]; exact ⟨rfl, rfl⟩))
    (fun os started H enc _ => lifted os started H enc)
theorem holds : Rows.ConfigBackCardSaid :=
  Claim7.holds_tied_plain_at .later [] [.data, .handle, .listed, .data, .pinned] true Rows.configBackCard.stood.harness true
    row (fun _ h => by cases h) (by kernel_rfl) (fun _ h => by cases h) configBack_row_tie rfl ⟨rfl, rfl⟩ (by kernel_rfl) rfl
    (fun f fn hf hfn => by
      obtain rfl : f = 3 := Option.some.inj ((show Tryd.prog.funcNamed "gleaning/gleaninglaw07.ConfigBack" = some 3 by kernel_rfl).symm.trans hf) |>.symm
      obtain rfl : fn = Tryd.f3 := (Option.some.inj (Tryd.func3.symm.trans hfn)).symm
      exact ⟨by kernel_rfl, fun j t ht => by
        rw [Tryd.params3] at ht
        have hm : t ∈ [23] := by simpa using Array.mem_of_getElem? ht
        have hall : ([23].all fun u => !Tryd.prog.wantsStandIn u) = true := by kernel_rfl
        exact (show Tryd.prog.wantsStandIn t = false by simpa using List.all_eq_true.1 hall t hm)⟩)
    (by kernel_rfl)
#print axioms holds
end Go.Proofs.YtdaflnnjfmickaaDoor.LConfigBack
