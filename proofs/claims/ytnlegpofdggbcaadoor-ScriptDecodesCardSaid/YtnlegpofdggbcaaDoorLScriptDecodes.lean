/- The law ScriptDecodes returns true for every bytes and every number of threads, where strings.asciiSpace reads as its initialiser lays it; the row and its tied card. -/
import Derived.Test.YtnlegpofdggbcaaDoorLaidE
import Derived.Test.YtnlegpofdggbcaaDoorCards
import Derived.Test.YtnlegpofdggbcaaDoorCSd
namespace Go.Proofs.YtnlegpofdggbcaaDoor.LScriptDecodes
open Go Go.RowKit Go.WideShapes Go.ChangeShapes Go.Proofs.YtnlegpofdggbcaaDoor.Ex Go.Proofs.YtnlegpofdggbcaaDoor.Lw Go.Proofs.YtnlegpofdggbcaaDoor.LaidD

theorem mixed : Tryd.prog.follows .mixedOrders = true := by kernel_rfl
def ctB : CT := .rw 5 [.int .u8]
theorem wf_byte {n : Int} (h : (Lit.int .u8 n).wf = true) : yAnd (yLe 0 n) (yLe n 255) = true := by
  simp only [Lit.wf, Bool.and_eq_true, decide_eq_true_eq] at h
  have h1 : IntKind.min .u8 = 0 := by decide
  have h2 : IntKind.max .u8 = 255 := by decide
  rw [h1, h2] at h
  simp only [yAnd_t, yLe_t]
  omega
theorem bytes_open {d : Dc} (h : DcK ctB d) : ∃ (nil : Bool) (n : Nat) (f : Nat → Int), d = .rows nil n [.int .u8 f] ∧ bytesOk n f = true := by
  obtain ⟨nil, n, V, _, _, hk, rfl⟩ := h
  refine ⟨nil, n, fun i => Ex.intOf (V i 0), rfl, ?_⟩
  unfold bytesOk
  rw [List.all_eq_true]
  intro i hi
  obtain ⟨m, e, hw⟩ := hk i (List.mem_range.1 hi) 0 _ rfl
  simp only [e]
  exact wf_byte hw
set_option maxRecDepth 100000 in
theorem calls {W : World} (hg : GW W) {d : Dc} {v0 : Value} {t : Int} (hd : DaR W (.cell ctB.cs) (.cell d) v0) (hk : DcK ctB d) :
    Calls Tryd.prog 3 #[v0, .int .i64 t] W fun e w' => e = .returned (.bool true) ∧ Below W.heap.size W w' := by
  obtain ⟨nil, n, f, rfl, hb⟩ := bytes_open hk
  exact law_callsG mixed (lSd_ok mixed) hg (gs := gSd) (ds := dSd nil n f t) (us := [v0, .int .i64 t]) ⟨_, _, _, _, rfl, rfl, hd, _, _, _, _, rfl, rfl, rfl, rfl, rfl⟩ (by show 1 < 4294967296; omega)
    (@goalSd_ok nil n f t hb)

set_option maxRecDepth 100000 in
theorem lifted (os : Os) (started : os.Started) (H : Type) (enc : TypeId × Value → H) :
    ReturnsInHanded {} Tryd.checked os 3 .any (fun w args => (Rows.scriptDecodesSpec.pre enc Tryd.prog Tryd.f3 [] false w args ∧ laidMetH Tryd.prog laid2 w) ∧ sizedMet enc Tryd.prog Tryd.f3 (OpenSpec.ofChange Rows.scriptDecodesSpec) false w args)
      (Rows.scriptDecodesSpec.post enc Tryd.prog Tryd.f3 false true false false) := by
  refine returnsInHanded_of_change_and (C := Tryd.checked) (X := fun w _ => laidMetH Tryd.prog laid2 w) (fun _ _ _ hh h => h.of_heap hh) own started (by kernel_rfl) Tryd.func3
    (ChangeSpec.witness_shaped (enc := enc) (C := Tryd.checked) (os := os) (X := fun w _ => laidMetH Tryd.prog laid2 w) false (World.doorLaid Tryd.prog 4000 os) #[.slice none 0 0, .int .i64 0] 8 rfl (shaped os _) (by kernel_rfl) (by kernel_rfl) (by kernel_rfl) (door_met os _)) ?_
  intro W base args ds gs before hval0 hW _ _ hL _
  have hval : ∀ (j : Nat) t v, Tryd.f3.params[j]? = some t → args[j]? = some v → Value.okWide Tryd.prog W .any base t v := hval0
  have hW' := hW
  obtain ⟨p, q, hA0, hV, rfl, hfz, hnd⟩ := hW
  have hA : DataW.TrodAll enc Tryd.prog W 0 (fun _ => true) true Tryd.f3.params.toList args.toList ds p := hA0
  rw [Tryd.params3] at hA hval
  obtain ⟨v0, v1, d0, d1, p0, p1, rfl, rfl, rfl, h0, h1⟩ := trodAll_two hA
  obtain ⟨rfl, rfl⟩ := trodVars_none hV
  have ct0 : ctsOf Tryd.prog 10 22 = some [ctB] := by kernel_rfl
  obtain ⟨d, r1, k1⟩ := par_cellN (c := ctB) ct0 (by obtain ⟨a, n, c, rfl⟩ := okWide_slice Tryd.underlying22 (hval 0 22 v0 rfl rfl); rfl) h0
  obtain ⟨m0, rfl, rfl, rfl, _⟩ := open_int Tryd.underlying3 (hval 1 3 v1 rfl rfl) h1
  refine (calls (gw hL) r1 k1).mono fun e W' ⟨he, hb⟩ => ?_
  subst he
  exact ⟨_, rfl, law_post hW' rfl rfl Tryd.underlying4 rfl laidOut (by
    rw [Tryd.params3]
    intro t ht
    simp only [List.mem_cons, List.not_mem_nil, or_false] at ht
    rcases ht with rfl | rfl <;> exact ⟨by kernel_rfl, of_decide_eq_true (by kernel_rfl)⟩) hb⟩

theorem row : Rows.ScriptDecodesSaid :=
  OpenClaim.holds_of_wide 3 Tryd.f3 rfl rfl rfl rfl rfl rfl rfl ⟨rfl, rfl, rfl, rfl, rfl⟩ rfl rfl rfl rfl rfl (by kernel_rfl) Tryd.func3 (by kernel_rfl)
    (of_decide_eq_true (by kernel_rfl)) (by unfold Func.isWrapper; first | (rw [if_pos (by decide +kernel)]; kernel_rfl) | (rw [if_neg (by decide +kernel)]; exact ⟨rfl, rfl⟩))
    (fun os started H enc _ => lifted os started H enc)
theorem holds : Rows.ScriptDecodesCardSaid :=
  Claim7.holds_tied_plain_at .later [] [.listed, .data] true Rows.scriptDecodesCard.stood.harness false
    row (fun _ h => by cases h) (by kernel_rfl) (fun _ h => by cases h) scriptDecodes_row_tie rfl ⟨rfl, rfl⟩ (by kernel_rfl) rfl
    (fun f fn hf hfn => by
      obtain rfl : f = 3 := Option.some.inj ((show Tryd.prog.funcNamed "gleaning/gleaninglaw28.ScriptDecodes" = some 3 by kernel_rfl).symm.trans hf) |>.symm
      obtain rfl : fn = Tryd.f3 := (Option.some.inj (Tryd.func3.symm.trans hfn)).symm
      exact ⟨by kernel_rfl, fun j t ht => by
        rw [Tryd.params3] at ht
        have hm : t ∈ [22, 3] := by simpa using Array.mem_of_getElem? ht
        have hall : ([22, 3].all fun u => !Tryd.prog.wantsStandIn u) = true := by kernel_rfl
        exact (show Tryd.prog.wantsStandIn t = false by simpa using List.all_eq_true.1 hall t hm)⟩)
    (by kernel_rfl)
#print axioms holds
end Go.Proofs.YtnlegpofdggbcaaDoor.LScriptDecodes
