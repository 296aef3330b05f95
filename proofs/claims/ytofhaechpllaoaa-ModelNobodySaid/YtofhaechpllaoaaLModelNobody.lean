/- The law ModelNobody returns true for every operation, and its argument reads behind the call as it read before. Conditions: none. -/
import Derived.Test.YtofhaechpllaoaaLaw
import Derived.Test.YtofhaechpllaoaaExQ
namespace Go.Proofs.Ytofhaechpllaoaa.LModelNobody
open Go Go.RowKit Go.WideShapes Go.ChangeShapes Go.Proofs.Ytofhaechpllaoaa.Ex Go.Proofs.Ytofhaechpllaoaa.Lw

theorem run (k a b c d : Int) : isB true (callN Try.prog 1000 9 [.agg [.i .i64 k, .i .u64 a, .i .u64 b, .i .u64 c, .i .i64 d]]) = true := by kernel_rfl
theorem calls (k a b c d : Int) (w : World) : Calls Try.prog 9 #[.agg #[.int .i64 k, .int .u64 a, .int .u64 b, .int .u64 c, .int .i64 d]] w fun e w' => e = .returned (.bool true) ∧ Below w.heap.size w w' :=
  callN_calls (by kernel_rfl) (run k a b c d) (us := [.agg #[.int .i64 k, .int .u64 a, .int .u64 b, .int .u64 c, .int .i64 d]])
    (by simp only [AV.RL, AV.R]; exact ⟨_, _, ⟨[.int .i64 k, .int .u64 a, .int .u64 b, .int .u64 c, .int .i64 d], by simp [AV.RL, AV.R], rfl⟩, rfl, rfl⟩) w

set_option maxRecDepth 100000 in
theorem lifted (os : Os) (started : os.Started) (H : Type) (enc : TypeId × Value → H) :
    ReturnsInHanded {} Try.checked os 9 .any (Rows.modelNobodySpec.pre6 enc Try.prog Try.f9 Rows.modelNobodyRow.domain false) (Rows.modelNobodySpec.post enc Try.prog Try.f9 false true false false) := by
  refine returnsInHanded_of_change (C := Try.checked) own started (by kernel_rfl) Try.func9
    (ChangeSpec.witness6 (enc := enc) (C := Try.checked) false ⟨#[], #[.agg #[.int .i64 0, .int .u64 0, .int .u64 0, .int .u64 0, .int .i64 0]], []⟩ 8 (by kernel_rfl) (by kernel_rfl) (by kernel_rfl) (by kernel_rfl)) ?_
  intro W base args ds gs before hval0 hW hcnd _
  have hval : ∀ (j : Nat) t v, Try.f9.params[j]? = some t → args[j]? = some v → Value.okWide Try.prog W .any base t v := hval0
  have hW' := hW
  obtain ⟨p, q, hA0, hV, rfl, hfz, hnd⟩ := hW
  have hA : DataW.TrodAll enc Try.prog W 0 (fun _ => true) true Try.f9.params.toList args.toList ds p := hA0
  rw [Try.params9] at hA hval
  obtain ⟨v0, d0, rfl, rfl, h0⟩ := trodAll_one hA
  obtain ⟨rfl, rfl⟩ := trodVars_none hV
  obtain ⟨cs, rfl, hsz, hc⟩ := cells_of (ts := [3, 22, 22, 22, 3]) Try.underlying24 (by kernel_rfl) (by kernel_rfl) (hval 0 24 v0 rfl rfl)
  obtain ⟨x0, e0, y0⟩ := hc 0 _ rfl
  obtain ⟨x1, e1, y1⟩ := hc 1 _ rfl
  obtain ⟨x2, e2, y2⟩ := hc 2 _ rfl
  obtain ⟨x3, e3, y3⟩ := hc 3 _ rfl
  obtain ⟨x4, e4, y4⟩ := hc 4 _ rfl
  obtain ⟨n0, rfl⟩ := cell_int Try.underlying3 y0
  obtain ⟨n1, rfl⟩ := cell_int Try.underlying22 y1
  obtain ⟨n2, rfl⟩ := cell_int Try.underlying22 y2
  obtain ⟨n3, rfl⟩ := cell_int Try.underlying22 y3
  obtain ⟨n4, rfl⟩ := cell_int Try.underlying3 y4
  have hcs : cs = #[.int .i64 n0, .int .u64 n1, .int .u64 n2, .int .u64 n3, .int .i64 n4] := by
    apply Array.ext_getElem?
    intro i
    match i with
    | 0 => rw [e0]; rfl
    | 1 => rw [e1]; rfl
    | 2 => rw [e2]; rfl
    | 3 => rw [e3]; rfl
    | 4 => rw [e4]; rfl
    | i + 5 => rw [Array.getElem?_eq_none (by rw [hsz]; simp), Array.getElem?_eq_none (by simp)]
  subst hcs
  refine (calls n0 n1 n2 n3 n4 W).mono fun e W' ⟨he, hb⟩ => ?_
  subst he
  exact ⟨_, rfl, law_post hW' rfl rfl Try.underlying4 rfl laidOut (by
    rw [Try.params9]
    intro t ht
    simp only [List.mem_cons, List.not_mem_nil, or_false] at ht
    subst ht
    exact ⟨by kernel_rfl, of_decide_eq_true (by kernel_rfl)⟩) hb⟩

theorem holds : Rows.ModelNobodySaid :=
  OpenClaim.holds_of_wide 9 Try.f9 rfl rfl rfl rfl rfl rfl rfl ⟨rfl, rfl, rfl, rfl, rfl⟩ rfl rfl rfl rfl rfl (by kernel_rfl) Try.func9 (by kernel_rfl)
    (of_decide_eq_true (by kernel_rfl)) (by unfold Func.isWrapper; first | (rw [if_pos (by decide +kernel)]; kernel_rfl) | (rw [if_neg (by decide +kernel)]; exact ⟨rfl, rfl⟩))
    (fun os started H enc _ => lifted os started H enc)
#print axioms holds
end Go.Proofs.Ytofhaechpllaoaa.LModelNobody
