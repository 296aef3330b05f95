/- The law HistoryCuts: what its walk leaves. -/
import Derived.Test.YtalifabdjolkhaaCHp
namespace Go.Proofs.Ytalifabdjolkhaa.Ex
open Go

theorem same_self' {k v : Int} {n : Nat} {a0 a1 : Nat → Int} : sameRes k v n a0 a1 k v n a0 a1 = true := by simp [sameRes, samePairs]
theorem same_self (E : EvS) (n : Nat) : sameE E n E n = true := decide_eq_true ⟨rfl, fun _ _ => decide_eq_true ⟨rfl, rfl, rfl, rfl, ⟨rfl, rfl, rfl, rfl, rfl⟩, same_self'⟩⟩
def cutX (E : EvS) (a : Int) (n : Nat) : EvS := cutE E a n
set_option maxRecDepth 100000 in
theorem goalHc_ok : goalHc := by
  refine @kernel_go _ _ goalHc_eq ?_
  intro E nil n a hn hw
  have hw2 := wf_cut (a := a) hw
  have hle : ∀ i, cntU E a i ≤ i := fun i => cntQ_le _ i
  have hcol : ∀ m, yCol (.ls [.int .u64, .int .u64]) m (fun i => AV.lst false (eNil E i) 2 (ePn E i) (cl2F [Cl2.int IntKind.u64 (ePk E), Cl2.int IntKind.u64 (ePv E)] i)) = true := fun m => yCol_ok.2 fun i _ => List.all_eq_true.2 fun p _ => rfl
  have hcolC : ∀ m, yCol (.ls [.int .u64, .int .u64]) m (fun i => AV.lst false (eNil E (selU E a n i)) 2 (ePn E (selU E a n i)) (cl2F [Cl2.int IntKind.u64 (fun j => ePk E (selU E a n j)), Cl2.int IntKind.u64 (fun j => ePv E (selU E a n j))] i)) = true := fun m => yCol_ok.2 fun i _ => List.all_eq_true.2 fun p _ => rfl
  unfold cutE at hw2
  cases hp : preE E n with
  | false =>
    simp only [yNot_t, yNot_f, yEq_t, yEq_f, yAnd_t, yAnd_f, yIff_t, yIff_f, yLt_t, yLt_f, yIn_t, yIn_f, yNlt_t, yNlt_f, yNle_t, yNle_f, yNeq_t, yNeq_f, yGrow_t, yGrow_f, yInt_e, yNat_e, yNadd_e, yAdd_e, yCol_int, true_and, and_true, Nat.zero_add, Nat.le_refl, forall_const, Bool.true_eq_false, Bool.false_eq_true, false_implies, hcol, hp, hn, reduceCtorEq]
    try trivial
  | true =>
    have hp2 := pre_cut (a := a) hp
    unfold cutE at hp2
    have hs := same_self (cutE E a n) (cntU E a n)
    unfold cutE at hs
    obtain ⟨hn2, -⟩ := of_decide_eq_true hp
    have hsel : ∀ i, i < n → eAt E i < a → selU E a n (cntU E a i) = i := fun i hin h => by
      have hq : (fun q => yLt (eAt E q) a) i = true := by show yLt _ _ = true; simp only [yLt_t]; exact h
      unfold selU cntU; rw [selQ_at n (by omega) hq]; rfl
    simp only [yNot_t, yNot_f, yEq_t, yEq_f, yAnd_t, yAnd_f, yIff_t, yIff_f, yLt_t, yLt_f, yIn_t, yIn_f, yNlt_t, yNlt_f, yNle_t, yNle_f, yNeq_t, yNeq_f, yGrow_t, yGrow_f, yInt_e, yNat_e, yNadd_e, yAdd_e, yCol_int, true_and, and_true, Nat.zero_add, Nat.le_refl, forall_const, Bool.true_eq_false, false_implies, yCol_int, hcol, hcolC, hp, hn, hw, hp2, hw2, reduceCtorEq]
    refine ⟨⟨0, Nat.zero_le _, rfl, rfl, rfl, rfl⟩, fun _ i hi => ⟨fun hlt => ?_, fun hge => ?_⟩⟩
    all_goals have hi : i ≤ n := hi
    · by_cases h : eAt E i < a
      · have hq : (fun q => yLt (eAt E q) a) i = true := by show yLt _ _ = true; simp only [yLt_t]; exact h
        have hc1 : cntU E a (i + 1) = cntU E a i + 1 := cntQ_t hq
        have hs1 := hsel i (by omega) h
        have hnz : yNeq (cntU E a (i + 1)) 0 = yAnd (yNeq (cntU E a i) 0) (yNeq 1 0) := by
          rw [hc1]
          have e1 : yNeq (cntU E a i + 1) 0 = false := by simp only [yNeq_f]; omega
          have e2 : yNeq 1 0 = false := rfl
          rw [e1, e2]
          cases yNeq (cntU E a i) 0 <;> rfl
        have hi1 := hle i
        repeat' (first | apply And.intro | intro _)
        all_goals first
          | omega
          | (refine ⟨i + 1, by show i + 1 ≤ n; omega, by unfold mKp; omega, hnz, hc1, by rw [wrap64 (by omega) (by omega)]; omega, hc1, fun q hq => ?_⟩
             rw [hc1] at hq
             rcases Nat.lt_or_ge q (cntU E a i) with h | h
             · have hb : yNlt q (cntU E a i) = true := decide_eq_true h
               rw [hb]
               exact ⟨rfl, rfl, rfl, rfl, rfl, rfl, rfl, rfl, rfl, rfl, rfl, rfl, rfl, fun _ _ => ⟨rfl, rfl⟩⟩
             · obtain rfl : q = cntU E a i := by omega
               have hb : yNlt (cntU E a i) (cntU E a i) = false := decide_eq_false (by omega)
               rw [hb, hs1]
               exact ⟨rfl, rfl, rfl, rfl, rfl, rfl, rfl, rfl, rfl, rfl, rfl, rfl, rfl, fun _ _ => ⟨rfl, rfl⟩⟩)
          | (trace_state; fail)
      · have hq : (fun q => yLt (eAt E q) a) i = false := by show yLt _ _ = false; simp only [yLt_f]; omega
        have hc1 : cntU E a (i + 1) = cntU E a i := cntQ_f hq
        repeat' (first | apply And.intro | intro _)
        all_goals first
          | omega
          | exact ⟨i + 1, by show i + 1 ≤ n; omega, by unfold mKp; omega, by rw [hc1], hc1, by rw [wrap64 (by omega) (by omega)]; omega, hc1, fun _ _ _ _ => trivial⟩
          | exact ⟨i + 1, by show i + 1 ≤ n; omega, by unfold mKp; omega, by rw [hc1], hc1, by rw [wrap64 (by omega) (by omega)]; omega, hc1⟩
          | exact ⟨i + 1, by show i + 1 ≤ n; omega, by unfold mKp; omega, by rw [hc1], hc1, by rw [wrap64 (by omega) (by omega)]; omega, hc1, fun _ _ => ⟨rfl, rfl, rfl, rfl, rfl, rfl, rfl, rfl, rfl, rfl, rfl, rfl, rfl, fun _ _ => ⟨rfl, rfl⟩⟩⟩
          | (trace_state; fail)
    · obtain rfl : i = n := by omega
      simp only [hs, reduceCtorEq]
      cases hk : gOk E i with
      | false =>
        simp only [true_and, and_true, forall_const, Bool.false_eq_true, false_implies, reduceCtorEq]
        exact fun h => absurd h (Nat.lt_irrefl _)
      | true =>
        have hk2 := hc_ok (a := a) hk
        unfold cutE at hk2
        have hlit : (⟨fun j => eKd E (selU E a i j), fun j => eTh E (selU E a i j), fun j => eId E (selU E a i j), fun j => eAt E (selU E a i j), fun j => eOk E (selU E a i j), fun j => eKey E (selU E a i j), fun j => eVal E (selU E a i j), fun j => eHi E (selU E a i j), fun j => eMost E (selU E a i j), fun j => eRk E (selU E a i j), fun j => eRv E (selU E a i j), fun j => eNil E (selU E a i j), fun j => ePn E (selU E a i j), fun j p => ePk E (selU E a i j) p, fun j p => ePv E (selU E a i j) p⟩ : EvS) = cutX E a i := rfl
        have hN : resN (cutX E a i) (cntU E a i) ≤ resN E i := hc_n (a := a) hk
        have hev : ∀ j, j < resN (cutX E a i) (cntU E a i) → selU E a i (gEv (cutX E a i) (cntU E a i) j) = gEv E i j := fun j => hc_ev (a := a) (i := j) hk
        have hen : ∀ j, j < resN (cutX E a i) (cntU E a i) → cOv (gEn (cutX E a i) (cntU E a i) j) = yAnd (cOv (gEn E i j)) (yLt (cTo E (gEn E i j)) a) := fun j => hc_en (a := a) (i := j) hk
        have hgr : resN E i ≤ i := by unfold resN; rw [hk, cond_true]; exact (gInv E i).le
        have hpr : ∀ j, prHl E a i j → j ≤ resN (cutX E a i) (cntU E a i) := fun _ h => h
        have hpr' : ∀ j, j ≤ resN (cutX E a i) (cntU E a i) → prHl E a i j := fun _ h => h
        have hmr : ∀ j, mHl E a i j = resN (cutX E a i) (cntU E a i) - j := fun _ => rfl
        simp only [true_and, and_true, forall_const, Bool.true_eq_false, false_implies, hk2, reduceCtorEq]
        refine ⟨?_, fun h => absurd h (Nat.lt_irrefl _)⟩
        simp only [hlit]
        clear hlit hp2 hs hcol hcolC hw2 hw hk2 hsel
        generalize resN (cutX E a i) (cntU E a i) = R at *
        have hnext : ∀ j, j < R → ∃ i', prHl E a i i' ∧ (mHl E a i i').succ ≤ mHl E a i j ∧ (i' : Int) = yWrap .i64 ((j : Int) + 1) := fun j hj => by
          refine ⟨j + 1, hpr' _ (by omega), by rw [hmr, hmr]; omega, ?_⟩
          rw [wrap64 (by omega) (by omega)]; omega
        repeat' (first | apply And.intro | intro _)
        all_goals first
          | omega
          | exact hnext _ (by assumption)
          | trivial
          | (rename_i h; rcases h with h | h <;> exact h)
          | (rename_i h3 _ _ h; rw [hen _ (by assumption), h3] at h; exact h rfl)
          | (rename_i h3 h; rw [hen _ (by assumption), h3] at h; first | exact h rfl | cases h)
          | exact ⟨0, hpr' 0 (Nat.zero_le _), rfl⟩
          | (rename_i h; rw [hev _ (by omega)] at h; exact h rfl)
end Go.Proofs.Ytalifabdjolkhaa.Ex
