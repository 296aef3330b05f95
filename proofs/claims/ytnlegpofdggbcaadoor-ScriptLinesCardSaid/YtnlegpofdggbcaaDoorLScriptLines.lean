/- The law ScriptLines returns true for every entries and every operation, where strings.asciiSpace reads as its initialiser lays it; the row and its tied card. -/
import Derived.Test.YtnlegpofdggbcaaDoorLaidE
import Derived.Test.YtnlegpofdggbcaaDoorCards
import Derived.Test.YtnlegpofdggbcaaDoorCSl
namespace Go.Proofs.YtnlegpofdggbcaaDoor.LScriptLines
open Go Go.RowKit Go.WideShapes Go.ChangeShapes Go.Proofs.YtnlegpofdggbcaaDoor.Ex Go.Proofs.YtnlegpofdggbcaaDoor.Lw Go.Proofs.YtnlegpofdggbcaaDoor.LaidD

theorem mixed : Tryd.prog.follows .mixedOrders = true := by kernel_rfl
theorem wf_inU {n : Int} (h : (Lit.int .u64 n).wf = true) : inU n = true := by
  simp only [Lit.wf, Bool.and_eq_true, decide_eq_true_eq] at h
  have h1 : IntKind.min .u64 = 0 := by decide
  have h2 : IntKind.max .u64 = 18446744073709551615 := by decide
  rw [h1, h2] at h
  simp only [inU, yAnd_t, yLe_t, yLt_t]
  omega
theorem wf_inI {n : Int} (h : (Lit.int .i64 n).wf = true) : inI n = true := by
  simp only [Lit.wf, Bool.and_eq_true, decide_eq_true_eq] at h
  have h1 : IntKind.min .i64 = -9223372036854775808 := by decide
  have h2 : IntKind.max .i64 = 9223372036854775807 := by decide
  rw [h1, h2] at h
  simp only [inI, yAnd_t, yLe_t, yLt_t]
  omega
def ctE : CT := .rw 30 [.int .i64, .int .i64, .int .i64, .int .u64, .int .u64, .int .u64, .int .i64]
def ctO : List CT := [.sc (.int .i64), .sc (.int .u64), .sc (.int .u64), .sc (.int .u64), .sc (.int .i64)]
theorem kU {v : Value} (h : kV (.int .u64) v) : inU (Ex.intOf v) = true := by
  obtain ⟨n, rfl, hw⟩ := h
  exact wf_inU hw
theorem kI {v : Value} (h : kV (.int .i64) v) : inI (Ex.intOf v) = true := by
  obtain ⟨n, rfl, hw⟩ := h
  exact wf_inI hw
theorem ents_open {d : Dc} (h : DcK ctE d) : ∃ (nil : Bool) (n : Nat) (kd th k key val hi most : Nat → Int), d = .rows nil n [.int .i64 kd, .int .i64 th, .int .i64 k, .int .u64 key, .int .u64 val, .int .u64 hi, .int .i64 most] ∧ colsOk n th key val hi = true := by
  obtain ⟨nil, n, V, _, _, hk, rfl⟩ := h
  refine ⟨nil, n, fun i => Ex.intOf (V i 0), fun i => Ex.intOf (V i 1), fun i => Ex.intOf (V i 2), fun i => Ex.intOf (V i 3), fun i => Ex.intOf (V i 4), fun i => Ex.intOf (V i 5), fun i => Ex.intOf (V i 6), rfl, ?_⟩
  unfold colsOk
  rw [List.all_eq_true]
  intro i hi
  have hi := List.mem_range.1 hi
  simp only [inE, inO, yAnd_t]
  exact ⟨kI (hk i hi 1 _ rfl), kU (hk i hi 3 _ rfl), kU (hk i hi 4 _ rfl), kU (hk i hi 5 _ rfl)⟩
theorem op_open {ds : List Dc} (h : DcKs ctO ds) : ∃ (k key val hi most : Int), ds = [.v (.y .i64 k), .v (.y .u64 key), .v (.y .u64 val), .v (.y .u64 hi), .v (.y .i64 most)] ∧ inO key val hi = true := by
  obtain ⟨_, _, rfl, ⟨_, ⟨n1, rfl, _⟩, rfl⟩, _, _, rfl, ⟨_, ⟨n2, rfl, w2⟩, rfl⟩, _, _, rfl, ⟨_, ⟨n3, rfl, w3⟩, rfl⟩, _, _, rfl, ⟨_, ⟨n4, rfl, w4⟩, rfl⟩, _, _, rfl, ⟨_, ⟨n5, rfl, _⟩, rfl⟩, rfl⟩ := h
  refine ⟨n1, n2, n3, n4, n5, rfl, ?_⟩
  simp only [inO, yAnd_t]
  exact ⟨wf_inU w2, wf_inU w3, wf_inU w4⟩
set_option maxRecDepth 100000 in
theorem calls {W : World} (hg : GW W) {d : Dc} {ds : List Dc} {v0 v1 : Value} (hd : DaR W (.cell ctE.cs) (.cell d) v0) (hk : DcK ctE d) (hd1 : DaR W (.agg (ctO.map CT.cs)) (.agg ds) v1) (hk1 : DcKs ctO ds) :
    Calls Tryd.prog 4 #[v0, v1] W fun e w' => e = .returned (.bool true) ∧ Below W.heap.size W w' := by
  obtain ⟨nil, n, kd, th, k, key, val, hi, most, rfl, hc⟩ := ents_open hk
  obtain ⟨ok, okey, oval, ohi, omost, rfl, ho⟩ := op_open hk1
  exact law_callsG mixed (lSl_ok mixed) hg (gs := gSl) (ds := dSl nil n kd th k key val hi most ok okey oval ohi omost) (us := [v0, v1]) ⟨_, _, _, _, rfl, rfl, hd, _, _, _, _, rfl, rfl, hd1, rfl, rfl⟩ (by show 1 < 4294967296; omega)
    (@goalSl_ok nil n kd th k key val hi most ok okey oval ohi omost hc ho)

set_option maxRecDepth 100000 in
theorem lifted (os : Os) (started : os.Started) (H : Type) (enc : TypeId × Value → H) :
    ReturnsInHanded {} Tryd.checked os 4 .any (fun w args => (Rows.scriptLinesSpec.pre enc Tryd.prog Tryd.f4 [] false w args ∧ laidMetH Tryd.prog laid2 w) ∧ sizedMet enc Tryd.prog Tryd.f4 (OpenSpec.ofChange Rows.scriptLinesSpec) false w args)
      (Rows.scriptLinesSpec.post enc Tryd.prog Tryd.f4 false true false false) := by
  refine returnsInHanded_of_change_and (C := Tryd.checked) (X := fun w _ => laidMetH Tryd.prog laid2 w) (fun _ _ _ hh h => h.of_heap hh) own started (by kernel_rfl) Tryd.func4
    (ChangeSpec.witness_shaped (enc := enc) (C := Tryd.checked) (os := os) (X := fun w _ => laidMetH Tryd.prog laid2 w) false (World.doorLaid Tryd.prog 4000 os) #[.slice none 0 0, .agg #[.int .i64 0, .int .u64 0, .int .u64 0, .int .u64 0, .int .i64 0]] 8 rfl (shaped os _) (by kernel_rfl) (by kernel_rfl) (by kernel_rfl) (door_met os _)) ?_
  intro W base args ds gs before hval0 hW _ _ hL _
  have hval : ∀ (j : Nat) t v, Tryd.f4.params[j]? = some t → args[j]? = some v → Value.okWide Tryd.prog W .any base t v := hval0
  have hW' := hW
  obtain ⟨p, q, hA0, hV, rfl, hfz, hnd⟩ := hW
  have hA : DataW.TrodAll enc Tryd.prog W 0 (fun _ => true) true Tryd.f4.params.toList args.toList ds p := hA0
  rw [Tryd.params4] at hA hval
  obtain ⟨v0, v1, d0, d1, p0, p1, rfl, rfl, rfl, h0, h1⟩ := trodAll_two hA
  obtain ⟨rfl, rfl⟩ := trodVars_none hV
  have ct0 : ctsOf Tryd.prog 10 24 = some [ctE] := by kernel_rfl
  have ct1 : ctsOf Tryd.prog 10 28 = some ctO := by kernel_rfl
  obtain ⟨d, r1, k1⟩ := par_cellG (c := ctE) (gw hL) (fun e ks hm k hk => by
    simp only [ctE, List.mem_cons, CT.rw.injEq, List.not_mem_nil, or_false] at hm
    obtain ⟨rfl, rfl⟩ := hm
    simp [ctE] at hk
    rcases hk with rfl | rfl <;> first | exact glk_i64 | exact glk_u64) ct0 (by obtain ⟨a, n, c, rfl⟩ := okWide_slice Tryd.underlying24 (hval 0 24 v0 rfl rfl); rfl) h0
  obtain ⟨dd, r2, k2⟩ := par_aggG (gw hL) (fun e ks hm => by simp [ctO] at hm) ct1 Tryd.underlying28 (by kernel_rfl) (hval 1 28 v1 rfl rfl) h1
  refine (calls (gw hL) r1 k1 r2 k2).mono fun e W' ⟨he, hb⟩ => ?_
  subst he
  exact ⟨_, rfl, law_post hW' rfl rfl Tryd.underlying4 rfl laidOut (by
    rw [Tryd.params4]
    intro t ht
    simp only [List.mem_cons, List.not_mem_nil, or_false] at ht
    rcases ht with rfl | rfl <;> exact ⟨by kernel_rfl, of_decide_eq_true (by kernel_rfl)⟩) hb⟩

theorem row : Rows.ScriptLinesSaid :=
  OpenClaim.holds_of_wide 4 Tryd.f4 rfl rfl rfl rfl rfl rfl rfl ⟨rfl, rfl, rfl, rfl, rfl⟩ rfl rfl rfl rfl rfl (by kernel_rfl) Tryd.func4 (by kernel_rfl)
    (of_decide_eq_true (by kernel_rfl)) (by unfold Func.isWrapper; first | (rw [if_pos (by decide +kernel)]; kernel_rfl) | (rw [if_neg (by decide +kernel)]; exact ⟨rfl, rfl⟩))
    (fun os started H enc _ => lifted os started H enc)
theorem holds : Rows.ScriptLinesCardSaid :=
  Claim7.holds_tied_plain_at .later [] [.listed, .data] true Rows.scriptLinesCard.stood.harness false
    row (fun _ h => by cases h) (by kernel_rfl) (fun _ h => by cases h) scriptLines_row_tie rfl ⟨rfl, rfl⟩ (by kernel_rfl) rfl
    (fun f fn hf hfn => by
      obtain rfl : f = 4 := Option.some.inj ((show Tryd.prog.funcNamed "gleaning/gleaninglaw28.ScriptLines" = some 4 by kernel_rfl).symm.trans hf) |>.symm
      obtain rfl : fn = Tryd.f4 := (Option.some.inj (Tryd.func4.symm.trans hfn)).symm
      exact ⟨by kernel_rfl, fun j t ht => by
        rw [Tryd.params4] at ht
        have hm : t ∈ [24, 28] := by simpa using Array.mem_of_getElem? ht
        have hall : ([24, 28].all fun u => !Tryd.prog.wantsStandIn u) = true := by kernel_rfl
        exact (show Tryd.prog.wantsStandIn t = false by simpa using List.all_eq_true.1 hall t hm)⟩)
    (by kernel_rfl)
#print axioms holds
end Go.Proofs.YtnlegpofdggbcaaDoor.LScriptLines
