/- The law ModelSame returns true for every two results, and its arguments read behind the call as they read before. Conditions: none. -/
import Derived.Test.YtofhaechpllaoaaCModelSame
import Derived.Test.YtofhaechpllaoaaWl
namespace Go.Proofs.Ytofhaechpllaoaa.LModelSame
open Go Go.RowKit Go.WideShapes Go.ChangeShapes Go.Proofs.Ytofhaechpllaoaa.Ex Go.Proofs.Ytofhaechpllaoaa.Lw

def ctR : List CT := [.sc (.int .i64), .sc (.int .u64), .rw 47 [.int .u64, .int .u64]]
theorem walk {w : World} {us : List Value} {ds1 ds2 : List Dc} (h1 : DcKs ctR ds1) (h2 : DcKs ctR ds2) (hd : DaRs w gResult [.agg ds1, .agg ds2] us) :
    Calls Try.prog 5 us.toArray w fun e w' => e = .returned (.bool true) ∧ Below w.heap.size w w' := by
  obtain ⟨_, _, rfl, ⟨_, ⟨k, rfl, _⟩, rfl⟩, _, _, rfl, ⟨_, ⟨v, rfl, _⟩, rfl⟩, _, _, rfl, ⟨nilA, n, V, _, _, _, rfl⟩, rfl⟩ := h1
  obtain ⟨_, _, rfl, ⟨_, ⟨k2, rfl, _⟩, rfl⟩, _, _, rfl, ⟨_, ⟨v2, rfl, _⟩, rfl⟩, _, _, rfl, ⟨nilB, m, V2, _, _, _, rfl⟩, rfl⟩ := h2
  exact law_calls (by kernel_rfl) (sm2_ok (by kernel_rfl) (fun w g c h => by simp [GL] at h)) (fun _ => rfl) hd (by show 2 < 4294967296; omega)
    (goalModelSame_ok k v nilA n (fun i => Ex.intOf (V i 0)) (fun i => Ex.intOf (V i 1)) k2 v2 nilB m (fun i => Ex.intOf (V2 i 0)) (fun i => Ex.intOf (V2 i 1)))

set_option maxRecDepth 100000 in
theorem lifted (os : Os) (started : os.Started) (H : Type) (enc : TypeId × Value → H) :
    ReturnsInHanded {} Try.checked os 5 .any (Rows.modelSameSpec.pre6 enc Try.prog Try.f5 Rows.modelSameRow.domain false) (Rows.modelSameSpec.post enc Try.prog Try.f5 false true false false) := by
  refine returnsInHanded_of_change (C := Try.checked) own started (by kernel_rfl) Try.func5
    (ChangeSpec.witness6 (enc := enc) (C := Try.checked) false ⟨#[], #[.agg #[.int .i64 0, .int .u64 0, .slice none 0 0], .agg #[.int .i64 0, .int .u64 0, .slice none 0 0]], []⟩ 8 (by kernel_rfl) (by kernel_rfl) (by kernel_rfl) (by kernel_rfl)) ?_
  intro W base args ds gs before hval0 hW hcnd _
  have hval : ∀ (j : Nat) t v, Try.f5.params[j]? = some t → args[j]? = some v → Value.okWide Try.prog W .any base t v := hval0
  have hW' := hW
  obtain ⟨p, q, hA0, hV, rfl, hfz, hnd⟩ := hW
  have hA : DataW.TrodAll enc Try.prog W 0 (fun _ => true) true Try.f5.params.toList args.toList ds p := hA0
  rw [Try.params5] at hA hval
  obtain ⟨v0, v1, d0, d1, p0, p1, rfl, rfl, rfl, h0, h1⟩ := trodAll_two hA
  obtain ⟨rfl, rfl⟩ := trodVars_none hV
  have ct : ctsOf Try.prog 10 27 = some ctR := by kernel_rfl
  obtain ⟨ds1, r1, k1⟩ := par_agg (fun _ => rfl) ct Try.underlying27 (by kernel_rfl) (hval 0 27 v0 rfl rfl) h0
  obtain ⟨ds2, r2, k2⟩ := par_agg (fun _ => rfl) ct Try.underlying27 (by kernel_rfl) (hval 1 27 v1 rfl rfl) h1
  refine (walk k1 k2 (us := [v0, v1]) ⟨_, _, _, _, rfl, rfl, r1, _, _, _, _, rfl, rfl, r2, rfl, rfl⟩).mono fun e W' ⟨he, hb⟩ => ?_
  subst he
  exact ⟨_, rfl, law_post hW' rfl rfl Try.underlying4 rfl laidOut (by
    rw [Try.params5]
    intro t ht
    simp only [List.mem_cons, List.not_mem_nil, or_false] at ht
    rcases ht with rfl | rfl <;> exact ⟨by kernel_rfl, of_decide_eq_true (by kernel_rfl)⟩) hb⟩

theorem holds : Rows.ModelSameSaid :=
  OpenClaim.holds_of_wide 5 Try.f5 rfl rfl rfl rfl rfl rfl rfl ⟨rfl, rfl, rfl, rfl, rfl⟩ rfl rfl rfl rfl rfl (by kernel_rfl) Try.func5 (by kernel_rfl)
    (of_decide_eq_true (by kernel_rfl)) (by unfold Func.isWrapper; first | (rw [if_pos (by decide +kernel)]; kernel_rfl) | (rw [if_neg (by decide +kernel)]; exact ⟨rfl, rfl⟩))
    (fun os started H enc _ => lifted os started H enc)
#print axioms holds
end Go.Proofs.Ytofhaechpllaoaa.LModelSame
