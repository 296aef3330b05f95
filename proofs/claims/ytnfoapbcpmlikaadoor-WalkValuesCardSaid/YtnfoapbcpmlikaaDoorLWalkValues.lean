/- The law WalkValues returns true for every configuration and every way, where strings.asciiSpace reads as its initialiser lays it; the row and its tied card. -/
import Derived.Test.YtnfoapbcpmlikaaDoorLaidE
import Derived.Test.YtnfoapbcpmlikaaDoorCards
import Derived.Test.YtnfoapbcpmlikaaDoorCWl
import Derived.Test.YtnfoapbcpmlikaaDoorRunWv
namespace Go.Proofs.YtnfoapbcpmlikaaDoor.LWalkValues
open Go Go.RowKit Go.WideShapes Go.ChangeShapes Go.Proofs.YtnfoapbcpmlikaaDoor.Ex Go.Proofs.YtnfoapbcpmlikaaDoor.Lw Go.Proofs.YtnfoapbcpmlikaaDoor.LaidD

theorem mixed : Tryd.prog.follows .mixedOrders = true := by kernel_rfl
def ctC : List CT := [.sc (.int .i64), .sc (.int .i64), .sc (.int .i64), .sc (.int .i64), .sc (.int .i64)]
abbrev rU : CT := .rw 24 [.int .u64]
def ctY : List CT := [.sc (.int .i64), .sc (.int .i64), .sc (.int .u64), .sc .bool, rU, .sc (.int .i64), .sc (.int .u64)]
theorem smOk : SmOK Tryd.prog (smL lWv) := smL_ok ⟨smLay mixed, smNew mixed, smTook mixed, smWant mixed, awake20 mixed, trivial⟩
theorem conf_open {ds : List Dc} (h : DcKs ctC ds) : ∃ s t f l p : Int, ds = [.v (.y .i64 s), .v (.y .i64 t), .v (.y .i64 f), .v (.y .i64 l), .v (.y .i64 p)] := by
  obtain ⟨_, _, rfl, ⟨_, ⟨n1, rfl, _⟩, rfl⟩, _, _, rfl, ⟨_, ⟨n2, rfl, _⟩, rfl⟩, _, _, rfl, ⟨_, ⟨n3, rfl, _⟩, rfl⟩, _, _, rfl, ⟨_, ⟨n4, rfl, _⟩, rfl⟩, _, _, rfl, ⟨_, ⟨n5, rfl, _⟩, rfl⟩, rfl⟩ := h
  exact ⟨n1, n2, n3, n4, n5, rfl⟩
theorem way_open {ds : List Dc} (h : DcKs ctY ds) : ∃ (th mode key : Int) (slow nil : Bool) (n : Nat) (told : Nat → Int) (turn link : Int), ds = [.v (.y .i64 th), .v (.y .i64 mode), .v (.y .u64 key), .v (.yb slow), .rows nil n [.int .u64 told], .v (.y .i64 turn), .v (.y .u64 link)] := by
  obtain ⟨_, _, rfl, ⟨_, ⟨n1, rfl, _⟩, rfl⟩, _, _, rfl, ⟨_, ⟨n2, rfl, _⟩, rfl⟩, _, _, rfl, ⟨_, ⟨n3, rfl, _⟩, rfl⟩, _, _, rfl, ⟨_, ⟨b, rfl⟩, rfl⟩, _, _, rfl, ⟨nil, n, V, _, _, _, rfl⟩, _, _, rfl, ⟨_, ⟨n4, rfl, _⟩, rfl⟩, _, _, rfl, ⟨_, ⟨n5, rfl, _⟩, rfl⟩, rfl⟩ := h
  exact ⟨n1, n2, n3, b, nil, n, fun i => Ex.intOf (V i 0), n4, n5, rfl⟩
set_option maxRecDepth 100000 in
theorem calls {W : World} (hg : GW W) {ds es : List Dc} {v0 v1 : Value} (hd : DaR W (.agg (ctC.map CT.cs)) (.agg ds) v0) (hk : DcKs ctC ds) (he : DaR W (.agg (ctY.map CT.cs)) (.agg es) v1) (hke : DcKs ctY es) :
    Calls Tryd.prog 3 #[v0, v1] W fun e w' => e = .returned (.bool true) ∧ Below W.heap.size W w' := by
  obtain ⟨s, t, f, l, p, rfl⟩ := conf_open hk
  obtain ⟨th, mode, key, slow, nil, n, told, turn, link, rfl⟩ := way_open hke
  exact law_callsG mixed smOk hg (gs := gWv) (ds := dWv s t f l p th mode key slow nil n told turn link) (us := [v0, v1]) ⟨_, _, _, _, rfl, rfl, hd, _, _, _, _, rfl, rfl, he, rfl, rfl⟩ (by show 1 < 4294967296; omega)
    (@goalWv_ok s t f l p th mode key slow nil n told turn link)

set_option maxRecDepth 100000 in
theorem lifted (os : Os) (started : os.Started) (H : Type) (enc : TypeId × Value → H) :
    ReturnsInHanded {} Tryd.checked os 3 .any (fun w args => (Rows.walkValuesSpec.pre enc Tryd.prog Tryd.f3 [] false w args ∧ laidMetH Tryd.prog laid2 w) ∧ sizedMet enc Tryd.prog Tryd.f3 (OpenSpec.ofChange Rows.walkValuesSpec) false w args)
      (Rows.walkValuesSpec.post enc Tryd.prog Tryd.f3 false true false false) := by
  refine returnsInHanded_of_change_and (C := Tryd.checked) (X := fun w _ => laidMetH Tryd.prog laid2 w) (fun _ _ _ hh h => h.of_heap hh) own started (by kernel_rfl) Tryd.func3
    (ChangeSpec.witness_shaped (enc := enc) (C := Tryd.checked) (os := os) (X := fun w _ => laidMetH Tryd.prog laid2 w) false (World.doorLaid Tryd.prog 4000 os) #[.agg #[.int .i64 0, .int .i64 0, .int .i64 0, .int .i64 0, .int .i64 0], .agg #[.int .i64 0, .int .i64 0, .int .u64 0, .bool false, .slice none 0 0, .int .i64 0, .int .u64 0]] 8 rfl (shaped os _) (by kernel_rfl) (by kernel_rfl) (by kernel_rfl) (door_met os _)) ?_
  intro W base args ds gs before hval0 hW _ _ hL _
  have hval : ∀ (j : Nat) t v, Tryd.f3.params[j]? = some t → args[j]? = some v → Value.okWide Tryd.prog W .any base t v := hval0
  have hW' := hW
  obtain ⟨p, q, hA0, hV, rfl, hfz, hnd⟩ := hW
  have hA : DataW.TrodAll enc Tryd.prog W 0 (fun _ => true) true Tryd.f3.params.toList args.toList ds p := hA0
  rw [Tryd.params3] at hA hval
  obtain ⟨v0, v1, d0, d1, p0, p1, rfl, rfl, rfl, h0, h1⟩ := trodAll_two hA
  obtain ⟨rfl, rfl⟩ := trodVars_none hV
  have ct0 : ctsOf Tryd.prog 10 23 = some ctC := by kernel_rfl
  have ct1 : ctsOf Tryd.prog 10 27 = some ctY := by kernel_rfl
  obtain ⟨d, r1, k1⟩ := par_aggN ct0 Tryd.underlying23 (by kernel_rfl) (hval 0 23 v0 rfl rfl) h0
  obtain ⟨dd, r2, k2⟩ := par_aggN ct1 Tryd.underlying27 (by kernel_rfl) (hval 1 27 v1 rfl rfl) h1
  refine (calls (gw hL) r1 k1 r2 k2).mono fun e W' ⟨he, hb⟩ => ?_
  subst he
  exact ⟨_, rfl, law_post hW' rfl rfl Tryd.underlying4 rfl laidOut (by
    rw [Tryd.params3]
    intro t ht
    simp only [List.mem_cons, List.not_mem_nil, or_false] at ht
    rcases ht with rfl | rfl <;> exact ⟨by kernel_rfl, of_decide_eq_true (by kernel_rfl)⟩) hb⟩

theorem row : Rows.WalkValuesSaid :=
  OpenClaim.holds_of_wide 3 Tryd.f3 rfl rfl rfl rfl rfl rfl rfl ⟨rfl, rfl, rfl, rfl, rfl⟩ rfl rfl rfl rfl rfl (by kernel_rfl) Tryd.func3 (by kernel_rfl)
    (of_decide_eq_true (by kernel_rfl)) (by unfold Func.isWrapper; first | (rw [if_pos (by decide +kernel)]; kernel_rfl) | (rw [if_neg (by decide +kernel)]; exact ⟨rfl, rfl⟩))
    (fun os started H enc _ => lifted os started H enc)
theorem holds : Rows.WalkValuesCardSaid :=
  Claim7.holds_tied_plain_at .later [] [.listed, .data] true Rows.walkValuesCard.stood.harness false
    row (fun _ h => by cases h) (by kernel_rfl) (fun _ h => by cases h) walkValues_row_tie rfl ⟨rfl, rfl⟩ (by kernel_rfl) rfl
    (fun f fn hf hfn => by
      obtain rfl : f = 3 := Option.some.inj ((show Tryd.prog.funcNamed "gleaning/gleaninglaw20.WalkValues" = some 3 by kernel_rfl).symm.trans hf) |>.symm
      obtain rfl : fn = Tryd.f3 := (Option.some.inj (Tryd.func3.symm.trans hfn)).symm
      exact ⟨by kernel_rfl, fun j t ht => by
        rw [Tryd.params3] at ht
        have hm : t ∈ [23, 27] := by simpa using Array.mem_of_getElem? ht
        have hall : ([23, 27].all fun u => !Tryd.prog.wantsStandIn u) = true := by kernel_rfl
        exact (show Tryd.prog.wantsStandIn t = false by simpa using List.all_eq_true.1 hall t hm)⟩)
    (by kernel_rfl)
#print axioms holds
end Go.Proofs.YtnfoapbcpmlikaaDoor.LWalkValues
