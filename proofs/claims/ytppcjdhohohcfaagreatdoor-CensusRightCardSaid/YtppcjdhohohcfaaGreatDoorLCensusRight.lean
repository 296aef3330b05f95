/- The law CensusRight returns true for every census and every number of slots, where strings.asciiSpace reads as its initialiser lays it; the row and its tied card. -/
import Derived.Test.YtppcjdhohohcfaaGreatDoorLaidE
import Derived.Test.YtppcjdhohohcfaaGreatDoorCards
import Derived.Test.YtppcjdhohohcfaaGreatDoorCCr
import Derived.Test.YtppcjdhohohcfaaGreatDoorRunC
namespace Go.Proofs.YtppcjdhohohcfaaGreatDoor.LCensusRight
open Go Go.RowKit Go.WideShapes Go.ChangeShapes Go.Proofs.YtppcjdhohohcfaaGreatDoor.Ex Go.Proofs.YtppcjdhohohcfaaGreatDoor.Lw Go.Proofs.YtppcjdhohohcfaaGreatDoor.LaidD

theorem mixed : Tryz.prog.follows .mixedOrders = true := by kernel_rfl
abbrev rI : CT := .rw 3 [.int .i64]
def ctT : List CT := [rI, rI, rI, rI, rI, .sc .bool]
theorem smOk : SmOK Tryz.prog (smL lCr) :=
  smL_ok ⟨smBool_ok Tryz.func10 (by kernel_rfl) (by kernel_rfl) fun w hw => callS_calls mixed (smL_ok RunC.lCen_ok) RunC.up (us := []) rfl w hw, smCen, smRgt mixed, trivial⟩
theorem rows_open {rest : List CT} {ds : List Dc} (h : DcKs (rI :: rest) ds) : ∃ (x : Bool) (n : Nat) (f : Nat → Int) (r : List Dc), ds = .rows x n [.int .i64 f] :: r ∧ wfI n f = true ∧ DcKs rest r := by
  obtain ⟨_, r, rfl, ⟨x, n, V, _, _, hV, rfl⟩, h⟩ := h
  refine ⟨x, n, fun i => Ex.intOf (V i 0), r, rfl, ?_, h⟩
  unfold wfI
  rw [List.all_eq_true]
  intro i hi
  obtain ⟨z, hz, hw⟩ := hV i (List.mem_range.1 hi) 0 (.int .i64) rfl
  simp only [hz, Ex.intOf]; exact hw
set_option maxRecDepth 100000 in
set_option maxHeartbeats 4000000 in
theorem calls {W : World} (hg : GW W) {ds : List Dc} {v : Value} (slots : Int) (hd : DaR W (.agg (ctT.map CT.cs)) (.agg ds) v) (hk : DcKs ctT ds) :
    Calls Tryz.prog 4 #[v, .int .i64 slots] W fun e w' => e = .returned (.bool true) ∧ Below W.heap.size W w' := by
  obtain ⟨x0, n0, f0, r, rfl, w0, hk⟩ := rows_open hk
  obtain ⟨x1, n1, f1, r, rfl, w1, hk⟩ := rows_open hk
  obtain ⟨x2, n2, f2, r, rfl, w2, hk⟩ := rows_open hk
  obtain ⟨x3, n3, f3, r, rfl, w3, hk⟩ := rows_open hk
  obtain ⟨x4, n4, f4, r, rfl, w4, hk⟩ := rows_open hk
  obtain ⟨_, r, rfl, ⟨_, ⟨sd, rfl⟩, rfl⟩, hk9⟩ := hk
  obtain rfl : r = [] := hk9
  exact law_callsG mixed smOk hg (gs := gRgt) (ds := dRgt x0 n0 f0 x1 n1 f1 x2 n2 f2 x3 n3 f3 x4 n4 f4 sd slots) (us := [v, .int .i64 slots]) ⟨_, _, _, _, rfl, rfl, hd, _, _, _, _, rfl, rfl, rfl, rfl, rfl⟩ (by show 5 < 4294967296; omega)
    (@goalCr_ok x0 n0 f0 x1 n1 f1 x2 n2 f2 x3 n3 f3 x4 n4 f4 sd slots w0 w1 w2 w3 w4)

set_option maxRecDepth 100000 in
theorem lifted (os : Os) (started : os.Started) (H : Type) (enc : TypeId × Value → H) :
    ReturnsInHanded {} Tryz.checked os 4 .any (fun w args => (Rows.censusRightSpec.pre enc Tryz.prog Tryz.f4 [] false w args ∧ laidMetH Tryz.prog laid2 w) ∧ sizedMet enc Tryz.prog Tryz.f4 (OpenSpec.ofChange Rows.censusRightSpec) false w args)
      (Rows.censusRightSpec.post enc Tryz.prog Tryz.f4 false true false false) := by
  refine returnsInHanded_of_change_and (C := Tryz.checked) (X := fun w _ => laidMetH Tryz.prog laid2 w) (fun _ _ _ hh h => h.of_heap hh) own started (by kernel_rfl) Tryz.func4
    (ChangeSpec.witness_shaped (enc := enc) (C := Tryz.checked) (os := os) (X := fun w _ => laidMetH Tryz.prog laid2 w) false (World.doorLaid Tryz.prog 4000 os) #[.agg #[.slice none 0 0, .slice none 0 0, .slice none 0 0, .slice none 0 0, .slice none 0 0, .bool false], .int .i64 0] 8 rfl (shaped os _) (by kernel_rfl) (by kernel_rfl) (by kernel_rfl) (door_met os _)) ?_
  intro W base args ds gs before hval0 hW _ _ hL _
  have hval : ∀ (j : Nat) t v, Tryz.f4.params[j]? = some t → args[j]? = some v → Value.okWide Tryz.prog W .any base t v := hval0
  have hW' := hW
  obtain ⟨p, q, hA0, hV, rfl, hfz, hnd⟩ := hW
  have hA : DataW.TrodAll enc Tryz.prog W 0 (fun _ => true) true Tryz.f4.params.toList args.toList ds p := hA0
  rw [Tryz.params4] at hA hval
  obtain ⟨v0, v1, d0, d1, p0, p1, rfl, rfl, rfl, h0, h1⟩ := trodAll_two hA
  obtain ⟨rfl, rfl⟩ := trodVars_none hV
  have ct : ctsOf Tryz.prog 10 25 = some ctT := by kernel_rfl
  obtain ⟨d, r1, k1⟩ := par_aggG (gw hL) (fun e ks hm k hk => by
    simp only [ctT, rI, List.mem_cons, CT.rw.injEq, reduceCtorEq, List.not_mem_nil, or_false, or_self] at hm
    obtain ⟨rfl, rfl⟩ := hm
    simp at hk; subst hk; exact glk_i64) ct Tryz.underlying25 (by kernel_rfl) (hval 0 25 v0 rfl rfl) h0
  obtain ⟨m0, rfl, rfl, rfl, _⟩ := open_int Tryz.underlying3 (hval 1 3 v1 rfl rfl) h1
  refine (calls (gw hL) m0 r1 k1).mono fun e W' ⟨he, hb⟩ => ?_
  subst he
  exact ⟨_, rfl, law_post hW' rfl rfl Tryz.underlying4 rfl laidOut (by
    rw [Tryz.params4]
    intro t ht
    simp only [List.mem_cons, List.not_mem_nil, or_false] at ht
    rcases ht with rfl | rfl <;> exact ⟨by kernel_rfl, of_decide_eq_true (by kernel_rfl)⟩) hb⟩

theorem row : Rows.CensusRightSaid :=
  OpenClaim.holds_of_wide 4 Tryz.f4 rfl rfl rfl rfl rfl rfl rfl ⟨rfl, rfl, rfl, rfl, rfl⟩ rfl rfl rfl rfl rfl (by kernel_rfl) Tryz.func4 (by kernel_rfl)
    (of_decide_eq_true (by kernel_rfl)) (by unfold Func.isWrapper; first | (rw [if_pos (by decide +kernel)]; kernel_rfl) | (rw [if_neg (by decide +kernel)]; exact ⟨rfl, rfl⟩))
    (fun os started H enc _ => lifted os started H enc)
theorem holds : Rows.CensusRightCardSaid :=
  Claim7.holds_tied_plain_at .later [] [.listed, .data] true Rows.censusRightCard.stood.harness false
    row (fun _ h => by cases h) (by kernel_rfl) (fun _ h => by cases h) censusRight_row_tie rfl ⟨rfl, rfl⟩ (by kernel_rfl) rfl
    (fun f fn hf hfn => by
      obtain rfl : f = 4 := Option.some.inj ((show Tryz.prog.funcNamed "gleaning/gleaninglaw33.CensusRight" = some 4 by kernel_rfl).symm.trans hf) |>.symm
      obtain rfl : fn = Tryz.f4 := (Option.some.inj (Tryz.func4.symm.trans hfn)).symm
      exact ⟨by kernel_rfl, fun j t ht => by
        rw [Tryz.params4] at ht
        have hm : t ∈ [25, 3] := by simpa using Array.mem_of_getElem? ht
        have hall : ([25, 3].all fun u => !Tryz.prog.wantsStandIn u) = true := by kernel_rfl
        exact (show Tryz.prog.wantsStandIn t = false by simpa using List.all_eq_true.1 hall t hm)⟩)
    (by kernel_rfl)
#print axioms holds
end Go.Proofs.YtppcjdhohohcfaaGreatDoor.LCensusRight
