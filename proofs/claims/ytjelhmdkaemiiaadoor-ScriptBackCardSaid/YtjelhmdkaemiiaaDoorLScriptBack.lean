/- The law ScriptBack returns true for every bytes and every number of threads, where strings.asciiSpace reads as its initialiser lays it; the row and its tied card. -/
import Derived.Test.YtjelhmdkaemiiaaDoorLaidI
import Derived.Test.YtjelhmdkaemiiaaDoorCards
import Derived.Test.YtjelhmdkaemiiaaDoorPkSb
namespace Go.Proofs.YtjelhmdkaemiiaaDoor.LScriptBack
open Go Go.RowKit Go.WideShapes Go.ChangeShapes Go.Proofs.YtjelhmdkaemiiaaDoor.Ex Go.Proofs.YtjelhmdkaemiiaaDoor.Lw Go.Proofs.YtjelhmdkaemiiaaDoor.LaidD

theorem mixed : Tryd.prog.follows .mixedOrders = true := by kernel_rfl
theorem wf_inU {n : Int} (h : (Lit.int .u64 n).wf = true) : inU n = true := by
  simp only [Lit.wf, Bool.and_eq_true, decide_eq_true_eq] at h
  have h1 : IntKind.min .u64 = 0 := by decide
  have h2 : IntKind.max .u64 = 18446744073709551615 := by decide
  rw [h1, h2] at h
  simp only [inU, yAnd_t, yLe_t, yLt_t]
  omega
theorem wf_inI {n : Int} (h : (Lit.int .i64 n).wf = true) : inI n = true := by
  simp only [Lit.wf, Bool.and_eq_true, decide_eq_true_eq] at h
  have h1 : IntKind.min .i64 = -9223372036854775808 := by decide
  have h2 : IntKind.max .i64 = 9223372036854775807 := by decide
  rw [h1, h2] at h
  simp only [inI, yAnd_t, yLe_t, yLt_t]
  omega
def ctE : CT := .rw 29 [.int .i64, .int .i64, .int .i64, .int .u64, .int .u64, .int .u64, .int .i64]
theorem kU {v : Value} (h : kV (.int .u64) v) : inU (Ex.intOf v) = true := by
  obtain ⟨n, rfl, hw⟩ := h
  exact wf_inU hw
theorem kI {v : Value} (h : kV (.int .i64) v) : inI (Ex.intOf v) = true := by
  obtain ⟨n, rfl, hw⟩ := h
  exact wf_inI hw
theorem ents_open {d : Dc} (h : DcK ctE d) : ∃ (nil : Bool) (n : Nat) (kd th k key val hi most : Nat → Int), d = .rows nil n [.int .i64 kd, .int .i64 th, .int .i64 k, .int .u64 key, .int .u64 val, .int .u64 hi, .int .i64 most] ∧ colsOk n th key val hi = true := by
  obtain ⟨nil, n, V, _, _, hk, rfl⟩ := h
  refine ⟨nil, n, fun i => Ex.intOf (V i 0), fun i => Ex.intOf (V i 1), fun i => Ex.intOf (V i 2), fun i => Ex.intOf (V i 3), fun i => Ex.intOf (V i 4), fun i => Ex.intOf (V i 5), fun i => Ex.intOf (V i 6), rfl, ?_⟩
  unfold colsOk
  rw [List.all_eq_true]
  intro i hi
  have hi := List.mem_range.1 hi
  simp only [inE, inO, yAnd_t]
  exact ⟨kI (hk i hi 1 _ rfl), kU (hk i hi 3 _ rfl), kU (hk i hi 4 _ rfl), kU (hk i hi 5 _ rfl)⟩
set_option maxRecDepth 100000 in
theorem calls {W : World} (hg : GW W) {d : Dc} {v0 : Value} (hd : DaR W (.cell ctE.cs) (.cell d) v0) (hk : DcK ctE d) :
    Calls Tryd.prog 3 #[v0] W fun e w' => e = .returned (.bool true) ∧ Below W.heap.size W w' := by
  obtain ⟨nil, n, kd, th, k, key, val, hi, most, rfl, hc⟩ := ents_open hk
  exact law_callsG mixed (lSk_ok mixed) hg (gs := gSk) (ds := dSk nil n kd th k key val hi most) (us := [v0]) ⟨_, _, _, _, rfl, rfl, hd, rfl, rfl⟩ (by show 1 < 4294967296; omega)
    (@goalSk_ok nil n kd th k key val hi most hc)

set_option maxRecDepth 100000 in
theorem lifted (os : Os) (started : os.Started) (H : Type) (enc : TypeId × Value → H) :
    ReturnsInHanded {} Tryd.checked os 3 .any (fun w args => (Rows.scriptBackSpec.pre enc Tryd.prog Tryd.f3 [] false w args ∧ laidMetH Tryd.prog laid2 w) ∧ sizedMet enc Tryd.prog Tryd.f3 (OpenSpec.ofChange Rows.scriptBackSpec) false w args)
      (Rows.scriptBackSpec.post enc Tryd.prog Tryd.f3 false true false false) := by
  refine returnsInHanded_of_change_and (C := Tryd.checked) (X := fun w _ => laidMetH Tryd.prog laid2 w) (fun _ _ _ hh h => h.of_heap hh) own started (by kernel_rfl) Tryd.func3
    (ChangeSpec.witness_shaped (enc := enc) (C := Tryd.checked) (os := os) (X := fun w _ => laidMetH Tryd.prog laid2 w) false (door os) #[.slice none 0 0] 8 (door_os os) (shaped os _) (by kernel_rfl) (by kernel_rfl) (by kernel_rfl) (door_met os _)) ?_
  intro W base args ds gs before hval0 hW _ _ hL _
  have hval : ∀ (j : Nat) t v, Tryd.f3.params[j]? = some t → args[j]? = some v → Value.okWide Tryd.prog W .any base t v := hval0
  have hW' := hW
  obtain ⟨p, q, hA0, hV, rfl, hfz, hnd⟩ := hW
  have hA : DataW.TrodAll enc Tryd.prog W 0 (fun _ => true) true Tryd.f3.params.toList args.toList ds p := hA0
  rw [Tryd.params3] at hA hval
  obtain ⟨v0, d0, rfl, rfl, h0⟩ := trodAll_one hA
  obtain ⟨rfl, rfl⟩ := trodVars_none hV
  have ct0 : ctsOf Tryd.prog 10 22 = some [ctE] := by kernel_rfl
  obtain ⟨d, r1, k1⟩ := par_cellN (c := ctE) ct0 (by obtain ⟨a, n, c, rfl⟩ := okWide_slice Tryd.underlying22 (hval 0 22 v0 rfl rfl); rfl) h0
  refine (calls (gw hL) r1 k1).mono fun e W' ⟨he, hb⟩ => ?_
  subst he
  exact ⟨_, rfl, law_post hW' rfl rfl Tryd.underlying4 rfl laidOut (by
    rw [Tryd.params3]
    intro t ht
    simp only [List.mem_cons, List.not_mem_nil, or_false] at ht
    subst ht
    exact ⟨by kernel_rfl, of_decide_eq_true (by kernel_rfl)⟩) hb⟩

theorem row : Rows.ScriptBackSaid :=
  OpenClaim.holds_of_wide 3 Tryd.f3 rfl rfl rfl rfl rfl rfl rfl ⟨rfl, rfl, rfl, rfl, rfl⟩ rfl rfl rfl rfl rfl (by kernel_rfl) Tryd.func3 (by kernel_rfl)
    (of_decide_eq_true (by kernel_rfl)) (by unfold Func.isWrapper; first | (rw [if_pos (by decide +kernel)]; kernel_rfl) | (rw [if_neg (by decide +kernel)]; exact ⟨rfl, rfl⟩))
    (fun os started H enc _ => lifted os started H enc)
theorem holds : Rows.ScriptBackCardSaid :=
  Claim7.holds_tied_plain_at .later [] [.data, .listed, .data, .pinned] true Rows.scriptBackCard.stood.harness true
    row (fun _ h => by cases h) (by kernel_rfl) (fun _ h => by cases h) scriptBack_row_tie rfl ⟨rfl, rfl⟩ (by kernel_rfl) rfl
    (fun f fn hf hfn => by
      obtain rfl : f = 3 := Option.some.inj ((show Tryd.prog.funcNamed "gleaning/gleaninglaw28.ScriptBack" = some 3 by kernel_rfl).symm.trans hf) |>.symm
      obtain rfl : fn = Tryd.f3 := (Option.some.inj (Tryd.func3.symm.trans hfn)).symm
      exact ⟨by kernel_rfl, fun j t ht => by
        rw [Tryd.params3] at ht
        have hm : t ∈ [22] := by simpa using Array.mem_of_getElem? ht
        have hall : ([22].all fun u => !Tryd.prog.wantsStandIn u) = true := by kernel_rfl
        exact (show Tryd.prog.wantsStandIn t = false by simpa using List.all_eq_true.1 hall t hm)⟩)
    (by kernel_rfl)
#print axioms holds
end Go.Proofs.YtjelhmdkaemiiaaDoor.LScriptBack
