/- The law HistoryBefore returns true for every two calls, and its arguments read behind the call as they read before. Conditions: none. -/
import Derived.Test.YtofhaechpllaoaaCHistoryBefore
import Derived.Test.YtofhaechpllaoaaWl
namespace Go.Proofs.Ytofhaechpllaoaa.LHistoryBefore
open Go Go.RowKit Go.WideShapes Go.ChangeShapes Go.Proofs.Ytofhaechpllaoaa.Ex Go.Proofs.Ytofhaechpllaoaa.Lw

def ctR : List CT := [.sc (.int .i64), .sc (.int .i64), .sc (.int .i64), .sc (.int .u64), .sc (.int .u64), .sc (.int .u64), .sc (.int .i64), .sc (.int .i64), .sc (.int .i64), .sc .bool, .sc (.int .i64), .sc (.int .u64), .rw 47 [.int .u64, .int .u64]]
theorem walk {w : World} {us : List Value} {ds1 ds2 : List Dc} (h1 : DcKs ctR ds1) (h2 : DcKs ctR ds2) (hd : DaRs w [.agg gCall, .agg gCall] [.agg ds1, .agg ds2] us) :
    Calls Try.prog 3 us.toArray w fun e w' => e = .returned (.bool true) ∧ Below w.heap.size w w' := by
  obtain ⟨_, _, rfl, ⟨_, ⟨id1, rfl, _⟩, rfl⟩, _, _, rfl, ⟨_, ⟨th1, rfl, _⟩, rfl⟩, _, _, rfl, ⟨_, ⟨ok1, rfl, _⟩, rfl⟩, _, _, rfl, ⟨_, ⟨key1, rfl, _⟩, rfl⟩, _, _, rfl, ⟨_, ⟨val1, rfl, _⟩, rfl⟩, _, _, rfl, ⟨_, ⟨hi1, rfl, _⟩, rfl⟩, _, _, rfl, ⟨_, ⟨mo1, rfl, _⟩, rfl⟩, _, _, rfl, ⟨_, ⟨fr1, rfl, _⟩, rfl⟩, _, _, rfl, ⟨_, ⟨to1, rfl, _⟩, rfl⟩, _, _, rfl, ⟨_, ⟨ov1, rfl⟩, rfl⟩, _, _, rfl, ⟨_, ⟨rk1, rfl, _⟩, rfl⟩, _, _, rfl, ⟨_, ⟨rv1, rfl, _⟩, rfl⟩, _, _, rfl, ⟨nil1, n1, V1, _, _, _, rfl⟩, rfl⟩ := h1
  obtain ⟨_, _, rfl, ⟨_, ⟨id2, rfl, _⟩, rfl⟩, _, _, rfl, ⟨_, ⟨th2, rfl, _⟩, rfl⟩, _, _, rfl, ⟨_, ⟨ok2, rfl, _⟩, rfl⟩, _, _, rfl, ⟨_, ⟨key2, rfl, _⟩, rfl⟩, _, _, rfl, ⟨_, ⟨val2, rfl, _⟩, rfl⟩, _, _, rfl, ⟨_, ⟨hi2, rfl, _⟩, rfl⟩, _, _, rfl, ⟨_, ⟨mo2, rfl, _⟩, rfl⟩, _, _, rfl, ⟨_, ⟨fr2, rfl, _⟩, rfl⟩, _, _, rfl, ⟨_, ⟨to2, rfl, _⟩, rfl⟩, _, _, rfl, ⟨_, ⟨ov2, rfl⟩, rfl⟩, _, _, rfl, ⟨_, ⟨rk2, rfl, _⟩, rfl⟩, _, _, rfl, ⟨_, ⟨rv2, rfl, _⟩, rfl⟩, _, _, rfl, ⟨nil2, n2, V2, _, _, _, rfl⟩, rfl⟩ := h2
  exact law_calls (by kernel_rfl) (sm29_ok (by kernel_rfl) (fun w g c h => by simp [GL] at h)) (fun _ => rfl) hd (by show 2 < 4294967296; omega)
    (goalHistoryBefore_ok id1 th1 ok1 key1 val1 hi1 mo1 fr1 to1 ov1 rk1 rv1 nil1 n1 (fun i => Ex.intOf (V1 i 0)) (fun i => Ex.intOf (V1 i 1)) id2 th2 ok2 key2 val2 hi2 mo2 fr2 to2 ov2 rk2 rv2 nil2 n2 (fun i => Ex.intOf (V2 i 0)) (fun i => Ex.intOf (V2 i 1)))

set_option maxRecDepth 100000 in
theorem lifted (os : Os) (started : os.Started) (H : Type) (enc : TypeId × Value → H) :
    ReturnsInHanded {} Try.checked os 3 .any (Rows.historyBeforeSpec.pre6 enc Try.prog Try.f3 Rows.historyBeforeRow.domain false) (Rows.historyBeforeSpec.post enc Try.prog Try.f3 false true false false) := by
  refine returnsInHanded_of_change (C := Try.checked) own started (by kernel_rfl) Try.func3
    (ChangeSpec.witness6 (enc := enc) (C := Try.checked) false ⟨#[], #[.agg #[.int .i64 0, .int .i64 0, .int .i64 0, .int .u64 0, .int .u64 0, .int .u64 0, .int .i64 0, .int .i64 0, .int .i64 0, .bool false, .int .i64 0, .int .u64 0, .slice none 0 0], .agg #[.int .i64 0, .int .i64 0, .int .i64 0, .int .u64 0, .int .u64 0, .int .u64 0, .int .i64 0, .int .i64 0, .int .i64 0, .bool false, .int .i64 0, .int .u64 0, .slice none 0 0]], []⟩ 8 (by kernel_rfl) (by kernel_rfl) (by kernel_rfl) (by kernel_rfl)) ?_
  intro W base args ds gs before hval0 hW hcnd _
  have hval : ∀ (j : Nat) t v, Try.f3.params[j]? = some t → args[j]? = some v → Value.okWide Try.prog W .any base t v := hval0
  have hW' := hW
  obtain ⟨p, q, hA0, hV, rfl, hfz, hnd⟩ := hW
  have hA : DataW.TrodAll enc Try.prog W 0 (fun _ => true) true Try.f3.params.toList args.toList ds p := hA0
  rw [Try.params3] at hA hval
  obtain ⟨v0, v1, d0, d1, p0, p1, rfl, rfl, rfl, h0, h1⟩ := trodAll_two hA
  obtain ⟨rfl, rfl⟩ := trodVars_none hV
  have ct : ctsOf Try.prog 10 29 = some ctR := by kernel_rfl
  obtain ⟨ds1, r1, k1⟩ := par_agg (fun _ => rfl) ct Try.underlying29 (by kernel_rfl) (hval 0 29 v0 rfl rfl) h0
  obtain ⟨ds2, r2, k2⟩ := par_agg (fun _ => rfl) ct Try.underlying29 (by kernel_rfl) (hval 1 29 v1 rfl rfl) h1
  refine (walk k1 k2 (us := [v0, v1]) ⟨_, _, _, _, rfl, rfl, r1, _, _, _, _, rfl, rfl, r2, rfl, rfl⟩).mono fun e W' ⟨he, hb⟩ => ?_
  subst he
  exact ⟨_, rfl, law_post hW' rfl rfl Try.underlying4 rfl laidOut (by
    rw [Try.params3]
    intro t ht
    simp only [List.mem_cons, List.not_mem_nil, or_false] at ht
    rcases ht with rfl | rfl <;> exact ⟨by kernel_rfl, of_decide_eq_true (by kernel_rfl)⟩) hb⟩

theorem holds : Rows.HistoryBeforeSaid :=
  OpenClaim.holds_of_wide 3 Try.f3 rfl rfl rfl rfl rfl rfl rfl ⟨rfl, rfl, rfl, rfl, rfl⟩ rfl rfl rfl rfl rfl (by kernel_rfl) Try.func3 (by kernel_rfl)
    (of_decide_eq_true (by kernel_rfl)) (by unfold Func.isWrapper; first | (rw [if_pos (by decide +kernel)]; kernel_rfl) | (rw [if_neg (by decide +kernel)]; exact ⟨rfl, rfl⟩))
    (fun os started H enc _ => lifted os started H enc)
#print axioms holds
end Go.Proofs.Ytofhaechpllaoaa.LHistoryBefore
