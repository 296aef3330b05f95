/- The law ModelTells returns true for every list of pairs and every key, and its arguments read behind the call as they read before. Conditions: none. -/
import Derived.Test.YtofhaechpllaoaaTeA
import Derived.Test.YtofhaechpllaoaaLPar
import Derived.Test.YtofhaechpllaoaaLaw
import Derived.Test.YtofhaechpllaoaaExQ
namespace Go.Proofs.Ytofhaechpllaoaa.LModelTells
open Go Go.RowKit Go.WideShapes Go.ChangeShapes Go.Proofs.Ytofhaechpllaoaa.Lw

theorem run21 : Ex.isB true (Ex.callS Try.prog Ex.noSm 1000 17 []) = true := by kernel_rfl
theorem awake (W : World) : Calls Try.prog 17 #[] W fun e w' => e = .returned (.bool true) ∧ Below W.heap.size W w' :=
  Ex.callN_calls (by kernel_rfl) run21 (us := []) rfl W (fun g c h => by simp [Ex.GL] at h)

set_option maxRecDepth 100000 in
theorem lifted (os : Os) (started : os.Started) (H : Type) (enc : TypeId × Value → H) :
    ReturnsInHanded {} Try.checked os 8 .any (Rows.modelTellsSpec.pre6 enc Try.prog Try.f8 Rows.modelTellsRow.domain false) (Rows.modelTellsSpec.post enc Try.prog Try.f8 false true false false) := by
  refine returnsInHanded_of_change (C := Try.checked) own started (by kernel_rfl) Try.func8
    (ChangeSpec.witness6 (enc := enc) (C := Try.checked) false ⟨#[], #[.slice none 0 0, .int .u64 0], []⟩ 8 (by kernel_rfl) (by kernel_rfl) (by kernel_rfl) (by kernel_rfl)) ?_
  intro W base args ds gs before hval0 hW hcnd _
  have hval : ∀ (j : Nat) t v, Try.f8.params[j]? = some t → args[j]? = some v → Value.okWide Try.prog W .any base t v := hval0
  have hW' := hW
  obtain ⟨p, q, hA0, hV, rfl, hfz, hnd⟩ := hW
  have hA : DataW.TrodAll enc Try.prog W 0 (fun _ => true) true Try.f8.params.toList args.toList ds p := hA0
  rw [Try.params8] at hA hval
  obtain ⟨v0, v1, d0, d1, p0, p1, rfl, rfl, rfl, h0, h1⟩ := trodAll_two hA
  obtain ⟨rfl, rfl⟩ := trodVars_none hV
  obtain ⟨key, rfl, rfl, rfl, hk⟩ := open_int Try.underlying22 (hval 1 22 v1 rfl rfl) h1
  obtain ⟨l, hl, hu⟩ := LPar.par_pairs (fun _ => rfl) (by obtain ⟨a, n, c, rfl⟩ := okWide_slice Try.underlying25 (hval 0 25 v0 rfl rfl); rfl) h0
  have hk' : 0 ≤ key ∧ key ≤ 18446744073709551615 := by
    simp [Lit.wf, IntKind.min, IntKind.max, IntKind.signed, IntKind.bits] at hk
    omega
  refine (tells_walk v0 l key W hl hu hk' awake).mono fun e W' ⟨he, hb⟩ => ?_
  subst he
  exact ⟨_, rfl, law_post hW' rfl rfl Try.underlying4 rfl laidOut (by
    rw [Try.params8]
    intro t ht
    simp only [List.mem_cons, List.not_mem_nil, or_false] at ht
    rcases ht with rfl | rfl <;> exact ⟨by kernel_rfl, of_decide_eq_true (by kernel_rfl)⟩) hb⟩

theorem holds : Rows.ModelTellsSaid :=
  OpenClaim.holds_of_wide 8 Try.f8 rfl rfl rfl rfl rfl rfl rfl ⟨rfl, rfl, rfl, rfl, rfl⟩ rfl rfl rfl rfl rfl (by kernel_rfl) Try.func8 (by kernel_rfl)
    (of_decide_eq_true (by kernel_rfl)) (by unfold Func.isWrapper; first | (rw [if_pos (by decide +kernel)]; kernel_rfl) | (rw [if_neg (by decide +kernel)]; exact ⟨rfl, rfl⟩))
    (fun os started H enc _ => lifted os started H enc)
#print axioms holds
end Go.Proofs.Ytofhaechpllaoaa.LModelTells
