/- The law HistoryCuts returns true for every history and every step, and its arguments read behind the call as they read before. Conditions: none. -/
import Derived.Test.YtalifabdjolkhaaCHs
import Derived.Test.YtalifabdjolkhaaWl
namespace Go.Proofs.Ytalifabdjolkhaa.LHistoryCuts
open Go Go.RowKit Go.WideShapes Go.ChangeShapes Go.Proofs.Ytalifabdjolkhaa.Ex Go.Proofs.Ytalifabdjolkhaa.Lw

theorem wf {w : World} {v : Value} (h : OkT w (.ls kEvT) v) : wfE (evOf w v) (lenOf v) = true := by
  refine decide_eq_true fun i hi => ?_
  have key : ∃ u, cEv w v i 11 = u ∧ OkT w (.ls [.sc (.int .u64), .sc (.int .u64)]) u := by
    simp only [OkT] at h
    rcases h with rfl | ⟨a, n, c, rfl, _, _, h⟩
    · exact absurd hi (Nat.not_lt_zero _)
    · have hi : i < n := hi
      rcases h with h0 | ⟨b, off, rfl, _, cs, e, fr, hb, h⟩
      · omega
      · obtain ⟨u, h1, h2⟩ := okTs_at (j := 11) (h i hi) rfl
        refine ⟨u, ?_, h2⟩
        simp only [cEv, cellAt, hb]
        have h1 : cs[off + i * 12 + 11]? = some u := by rw [Nat.zero_add] at h1; exact h1
        rw [← Nat.add_assoc, h1]; rfl
  obtain ⟨u, hu, hk⟩ := key
  show nilOk (nilOf (cEv w v i 11)) (lenOf (cEv w v i 11)) = true
  rw [hu]
  unfold nilOk
  rw [yOr_t, yNot_t, yNeq_t]
  cases hn : nilOf u with
  | false => exact .inl rfl
  | true => exact .inr (okT_nil hk hn)
theorem calls {w : World} (hg : GW w) {v : Value} {a : Int} (h : OkT w (.ls kEvT) v) (hwf : wfE (evOf w v) (lenOf v) = true) :
    Calls Try.prog 3 #[v, .int .i64 a] w fun e w' => e = .returned (.bool true) ∧ Below w.heap.size w w' :=
  law_callsP (by kernel_rfl) (okLHc (by kernel_rfl)) hg (args := [.lst false (nilOf v) 12 (lenOf v) (colF (colsE (evOf w v))), .y .i64 a]) (us := [v, .int .i64 a]) ⟨_, _, evOf_R (okT_R _ _ h).1, ⟨_, _, rfl, rfl, rfl⟩, rfl⟩ (by
      have h1 : yNle (lenOf v) 9223372036854775807 = true := by rw [yNle_t]; exact evOf_len h
      revert h1 hwf
      have h2 := @goalHc_ok
      unfold goalHc at h2
      intro hwf h1; revert hwf; revert h1
      exact @h2 (evOf w v) (nilOf v) (lenOf v) a)

set_option maxRecDepth 100000 in
theorem lifted (os : Os) (started : os.Started) (H : Type) (enc : TypeId × Value → H) :
    ReturnsInHanded {} Try.checked os 3 .any (Rows.historyCutsSpec.pre6 enc Try.prog Try.f3 Rows.historyCutsRow.domain false) (Rows.historyCutsSpec.post enc Try.prog Try.f3 false true false false) := by
  refine returnsInHanded_of_change (C := Try.checked) own started (by kernel_rfl) Try.func3
    (ChangeSpec.witness6 (enc := enc) (C := Try.checked) false ⟨#[], #[.slice none 0 0, .int .i64 0], []⟩ 8 (by kernel_rfl) (by kernel_rfl) (by kernel_rfl) (by kernel_rfl)) ?_
  intro W base args ds gs before hval0 hW hcnd _
  have hval : ∀ (j : Nat) t v, Try.f3.params[j]? = some t → args[j]? = some v → Value.okWide Try.prog W .any base t v := hval0
  have hW' := hW
  obtain ⟨p, q, hA0, hV, rfl, hfz, hnd⟩ := hW
  have hA : DataW.TrodAll enc Try.prog W 0 (fun _ => true) true Try.f3.params.toList args.toList ds p := hA0
  rw [Try.params3] at hA hval
  obtain ⟨v0, v1, d0, d1, p0, p1, rfl, rfl, rfl, h0, h1⟩ := trodAll_two hA
  obtain ⟨rfl, rfl⟩ := trodVars_none hV
  have hs : v0.cells = #[v0] := by obtain ⟨a, n, c, rfl⟩ := okWide_slice Try.underlying22 (hval 0 22 v0 rfl rfl); rfl
  have gw : GW W := gw_none (fun _ => rfl)
  have kt : ktsOf Try.prog 10 22 = some [.ls kEvT] := by kernel_rfl
  obtain ⟨fuel, h0'⟩ := h0
  rw [hs] at h0'
  have hk := trod_kts gw (by simp [GLos, GLo, GLT, kEvT, GL]) kt rfl h0'
  obtain ⟨u, hu, hk⟩ := okTs_at (j := 0) hk rfl
  obtain rfl : v0 = u := by simpa using hu
  obtain ⟨a, rfl⟩ := okWide_int Try.underlying3 (hval 1 3 v1 rfl rfl)
  refine (calls gw hk (wf hk)).mono fun e W' ⟨he, hb⟩ => ?_
  subst he
  exact ⟨_, rfl, law_post hW' rfl rfl Try.underlying4 rfl laidOut (by
    rw [Try.params3]
    intro t ht
    simp only [List.mem_cons, List.not_mem_nil, or_false] at ht
    rcases ht with rfl | rfl <;> exact ⟨by kernel_rfl, of_decide_eq_true (by kernel_rfl)⟩) hb⟩

theorem holds : Rows.HistoryCutsSaid :=
  OpenClaim.holds_of_wide 3 Try.f3 rfl rfl rfl rfl rfl rfl rfl ⟨rfl, rfl, rfl, rfl, rfl⟩ rfl rfl rfl rfl rfl (by kernel_rfl) Try.func3 (by kernel_rfl)
    (of_decide_eq_true (by kernel_rfl)) (by unfold Func.isWrapper; first | (rw [if_pos (by decide +kernel)]; kernel_rfl) | (rw [if_neg (by decide +kernel)]; exact ⟨rfl, rfl⟩))
    (fun os started H enc _ => lifted os started H enc)
#print axioms holds
end Go.Proofs.Ytalifabdjolkhaa.LHistoryCuts
