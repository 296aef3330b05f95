/- Contracts: plan.Set and gleaningref14.Set. -/
import Derived.Test.YtfpokmglhaenaaaDoorCShr
namespace Go.Proofs.YtfpokmglhaenaaaDoor.Ex
open Go

-- OPEN setL
def setOk (cs s : Int) (i : Bool) (nk : Nat) (k : Nat → Int) (nv : Nat) (cf at_ : Int) : Bool := decide ((1 ≤ s ∧ s ≤ cs) ∧ fitsC i nk k nv cf = true ∧ i = false ∧ 0 ≤ at_ ∧ at_ < nv)
def setL (cs ct cf s v : Int) (i : Bool) (nk : Nat) (k : Nat → Int) (nv : Nat) (at_ word : Int) : List (Int × Int) :=
  if setOk cs s i nk k nv cf at_ then [(valC cs ct cf s at_, word), (verC cs ct cf s, bumpC v)] else []
def goalSet (P : Program) (f : FuncId) : Prop := ∀ (cs ct cf cl cp s v : Int) (i kn : Bool) (nk : Nat) (k : Nat → Int) (vn : Bool) (nv : Nat) (w : Nat → Int) (l at_ word : Int) (L : List (Int × Int)),
  rightC cs ct cf cl cp = true → inU v = true → yAnd (yNle nk 80) (yNle nv 80) = true → L = setL cs ct cf s v i nk k nv at_ word →
  wxP P (smL lShr) (fun _ => none) f [sConf, sPart, .sc, .sc] [dCf cs ct cf cl cp, dPt s v i kn nk k vn nv w l, .v (.y .i64 at_), .v (.y .u64 word)] ownW (rowsW L) []
def goalSetP : Prop := goalSet Tryd.prog 23
def goalSetR : Prop := goalSet Tryd.prog 24
def goalSetPV : Prop := (∀ (cs ct cf cl cp s v : Int) (i _kn : Bool) (nk : Nat) (k : Nat → Int) (_vn : Bool) (nv : Nat) (w : Nat → Int) (_l at_ word : Int) (L : List (Int × Int)), rightC cs ct cf cl cp = true → yAnd (yLe (0 : Int) v) (yLt v (18446744073709551616 : Int)) = true → yAnd (yNle nk (nat_lit 80)) (yNle nv (nat_lit 80)) = true → L = setL cs ct cf s v i nk k nv at_ word → (rightC cs ct cf cl cp = true → (yLt (verC cs ct cf s) (0 : Int) = true → rE L = true ∧ rN L = nat_lit 0 ∧ rN L = nat_lit 0 ∧ true = true ∧ true = true) ∧ (yLt (verC cs ct cf s) (0 : Int) = false → (yEq s (0 : Int) = true → rE L = true ∧ rN L = nat_lit 0 ∧ rN L = nat_lit 0 ∧ true = true ∧ true = true) ∧ (yEq s (0 : Int) = false → (yNle (yNadd (nat_lit 0) nk) nk = true → ((yCol (CK.int IntKind.u64) nk fun (i : Nat) => AV.y IntKind.u64 (k i)) = true → (yNle (yNadd (nat_lit 0) nv) nv = true → ((yCol (CK.int IntKind.u64) nv fun (i : Nat) => AV.y IntKind.u64 (w i)) = true → (yAnd (yNle nk (nat_lit 80)) (yNle nv (nat_lit 80)) = true → (yNot (fitsC i nk (fun (i : Nat) => k i) nv cf) = true → rE L = true ∧ rN L = nat_lit 0 ∧ rN L = nat_lit 0 ∧ true = true ∧ true = true) ∧ (yNot (fitsC i nk (fun (i : Nat) => k i) nv cf) = false → (yNot i = true → (yLe (0 : Int) at_ = true → (yNot (yLt at_ (yInt nv)) = true → rE L = true ∧ rN L = nat_lit 0 ∧ rN L = nat_lit 0 ∧ true = true ∧ true = true) ∧ (yNot (yLt at_ (yInt nv)) = false → (rightC cs ct cf cl cp = true → (rightC cs ct cf cl cp = true → (yAnd (yLe (0 : Int) v) (yLt v (18446744073709551616 : Int)) = true → rE L = false ∧ nat_lit 0 = nat_lit 0 ∧ rN L = nat_lit 2 ∧ rN L = nat_lit 2 ∧ ((rA L (nat_lit 0) = valC cs ct cf s at_ ∧ rB L (nat_lit 0) = word ∧ True) ∧ (rA L (nat_lit 1) = verC cs ct cf s ∧ rB L (nat_lit 1) = bumpC v ∧ True) ∧ True) ∧ true = true) ∧ (yAnd (yLe (0 : Int) v) (yLt v (18446744073709551616 : Int)) = false → False)) ∧ (rightC cs ct cf cl cp = false → False)) ∧ (rightC cs ct cf cl cp = false → False))) ∧ (yLe (0 : Int) at_ = false → rE L = true ∧ rN L = nat_lit 0 ∧ rN L = nat_lit 0 ∧ true = true ∧ true = true)) ∧ (yNot i = false → rE L = true ∧ rN L = nat_lit 0 ∧ rN L = nat_lit 0 ∧ true = true ∧ true = true))) ∧ (yAnd (yNle nk (nat_lit 80)) (yNle nv (nat_lit 80)) = false → False)) ∧ ((yCol (CK.int IntKind.u64) nv fun (i : Nat) => AV.y IntKind.u64 (w i)) = false → False)) ∧ (yNle (yNadd (nat_lit 0) nv) nv = false → False)) ∧ ((yCol (CK.int IntKind.u64) nk fun (i : Nat) => AV.y IntKind.u64 (k i)) = false → False)) ∧ (yNle (yNadd (nat_lit 0) nk) nk = false → False)))) ∧ (rightC cs ct cf cl cp = false → False))
set_option maxRecDepth 100000 in
theorem goalSetP_eq : goalSetP = goalSetPV := by kernel_rfl
set_option maxRecDepth 100000 in
set_option maxHeartbeats 4000000 in
theorem goalSetP_vc : goalSetPV := by
  unfold goalSetPV
  intro cs ct cf cl cp s v i kn nk k vn nv w l at_ word L hr hv h8 hL
  have hv1 := verC_or (a := s) hr
  have hc := rightC_iff.1 hr
  simp only [yAnd_t, yLe_t, yLt_t, yNle_t] at hv h8
  unfold setL at hL
  by_cases hk : setOk cs s i nk k nv cf at_ = true
  · rw [if_pos hk] at hL
    subst hL
    unfold setOk at hk
    rw [decide_eq_true_iff] at hk
    obtain ⟨k1, k2, rfl, k4, k5⟩ := hk
    have k6 := (fits_t.1 k2).1
    simp only [yNot_t, yNot_f, yEq_t, yEq_f, yAnd_t, yAnd_f, yOr_t, yOr_f, yIff_t, yIff_f, yLt_t, yLt_f, yLe_t, yLe_f, yIn_t, yIn_f, yNlt_t, yNlt_f, yNle_t, yNle_f, yNeq_t, yNeq_f, yGrow_t, yGrow_f, yInt_e, yNat_e, yNadd_e, yNsub_e, yAdd_e, ySub_e, yMul_e, yCol_int, yCol_bool, true_and, and_true, Nat.zero_add, Nat.add_zero, Nat.le_refl, forall_const, true_implies, Bool.true_eq_false, Bool.false_eq_true, false_implies, hr, k2, false_or, or_false]
    repeat' (first | apply And.intro | intro _)
    all_goals first
      | rfl
      | (exfalso; omega)
      | omega
  · rw [if_neg hk] at hL
    subst hL
    simp only [yNot_t, yNot_f, yEq_t, yEq_f, yAnd_t, yAnd_f, yOr_t, yOr_f, yIff_t, yIff_f, yLt_t, yLt_f, yLe_t, yLe_f, yIn_t, yIn_f, yNlt_t, yNlt_f, yNle_t, yNle_f, yNeq_t, yNeq_f, yGrow_t, yGrow_f, yInt_e, yNat_e, yNadd_e, yNsub_e, yAdd_e, ySub_e, yMul_e, yCol_int, yCol_bool, true_and, and_true, Nat.zero_add, Nat.add_zero, Nat.le_refl, forall_const, true_implies, Bool.true_eq_false, Bool.false_eq_true, false_implies, hr, false_or, or_false]
    repeat' (first | apply And.intro | intro _)
    all_goals first
      | rfl
      | (exfalso; omega)
      | omega
      | (exfalso
         apply hk
         unfold setOk
         rw [decide_eq_true_iff]
         exact ⟨by omega, by assumption, by assumption, by omega, by omega⟩)
set_option maxRecDepth 100000 in
theorem goalSetP_tt : (goalSetP) = True := goalSetP_eq.trans (eq_true goalSetP_vc)
theorem goalSetP_ok : goalSetP := @ft' goalSetP goalSetP_tt
def goalSetRV : Prop := (∀ (cs ct cf cl cp s v : Int) (i _kn : Bool) (nk : Nat) (k : Nat → Int) (_vn : Bool) (nv : Nat) (w : Nat → Int) (_l at_ word : Int) (L : List (Int × Int)), rightC cs ct cf cl cp = true → yAnd (yLe (0 : Int) v) (yLt v (18446744073709551616 : Int)) = true → yAnd (yNle nk (nat_lit 80)) (yNle nv (nat_lit 80)) = true → L = setL cs ct cf s v i nk k nv at_ word → (yLt s (0 : Int) = true → rE L = true ∧ rN L = nat_lit 0 ∧ rN L = nat_lit 0 ∧ true = true ∧ true = true) ∧ (yLt s (0 : Int) = false → (yLt cs s = true → rE L = true ∧ rN L = nat_lit 0 ∧ rN L = nat_lit 0 ∧ true = true ∧ true = true) ∧ (yLt cs s = false → (yEq s (0 : Int) = true → rE L = true ∧ rN L = nat_lit 0 ∧ rN L = nat_lit 0 ∧ true = true ∧ true = true) ∧ (yEq s (0 : Int) = false → (yNle (yNadd (nat_lit 0) nk) nk = true → ((yCol (CK.int IntKind.u64) nk fun (i : Nat) => AV.y IntKind.u64 (k i)) = true → (yNle (yNadd (nat_lit 0) nv) nv = true → ((yCol (CK.int IntKind.u64) nv fun (i : Nat) => AV.y IntKind.u64 (w i)) = true → (yAnd (yNle nk (nat_lit 80)) (yNle nv (nat_lit 80)) = true → (yNot (fitsC i nk (fun (i : Nat) => k i) nv cf) = true → rE L = true ∧ rN L = nat_lit 0 ∧ rN L = nat_lit 0 ∧ true = true ∧ true = true) ∧ (yNot (fitsC i nk (fun (i : Nat) => k i) nv cf) = false → (i = true → rE L = true ∧ rN L = nat_lit 0 ∧ rN L = nat_lit 0 ∧ true = true ∧ true = true) ∧ (i = false → (yLt at_ (0 : Int) = true → rE L = true ∧ rN L = nat_lit 0 ∧ rN L = nat_lit 0 ∧ true = true ∧ true = true) ∧ (yLt at_ (0 : Int) = false → (yLe (yInt nv) at_ = true → rE L = true ∧ rN L = nat_lit 0 ∧ rN L = nat_lit 0 ∧ true = true ∧ true = true) ∧ (yLe (yInt nv) at_ = false → (yAnd (yAnd (rightC cs ct cf cl cp) (yAnd (yLe (0 : Int) s) (yLe s cs))) (yAnd (yLe (0 : Int) at_) (yLt at_ cf)) = true → (yAnd (rightC cs ct cf cl cp) (yAnd (yLe (0 : Int) s) (yLe s cs)) = true → (yAnd (yLe (0 : Int) v) (yLt v (18446744073709551616 : Int)) = true → rE L = false ∧ nat_lit 0 = nat_lit 0 ∧ rN L = nat_lit 2 ∧ rN L = nat_lit 2 ∧ ((rA L (nat_lit 0) = valC cs ct cf s at_ ∧ rB L (nat_lit 0) = word ∧ True) ∧ (rA L (nat_lit 1) = verC cs ct cf s ∧ rB L (nat_lit 1) = bumpC v ∧ True) ∧ True) ∧ true = true) ∧ (yAnd (yLe (0 : Int) v) (yLt v (18446744073709551616 : Int)) = false → False)) ∧ (yAnd (rightC cs ct cf cl cp) (yAnd (yLe (0 : Int) s) (yLe s cs)) = false → False)) ∧ (yAnd (yAnd (rightC cs ct cf cl cp) (yAnd (yLe (0 : Int) s) (yLe s cs))) (yAnd (yLe (0 : Int) at_) (yLt at_ cf)) = false → False)))))) ∧ (yAnd (yNle nk (nat_lit 80)) (yNle nv (nat_lit 80)) = false → False)) ∧ ((yCol (CK.int IntKind.u64) nv fun (i : Nat) => AV.y IntKind.u64 (w i)) = false → False)) ∧ (yNle (yNadd (nat_lit 0) nv) nv = false → False)) ∧ ((yCol (CK.int IntKind.u64) nk fun (i : Nat) => AV.y IntKind.u64 (k i)) = false → False)) ∧ (yNle (yNadd (nat_lit 0) nk) nk = false → False)))))
set_option maxRecDepth 100000 in
theorem goalSetR_eq : goalSetR = goalSetRV := by kernel_rfl
set_option maxRecDepth 100000 in
set_option maxHeartbeats 4000000 in
theorem goalSetR_vc : goalSetRV := by
  unfold goalSetRV
  intro cs ct cf cl cp s v i kn nk k vn nv w l at_ word L hr hv h8 hL
  have hv1 := verC_or (a := s) hr
  have hc := rightC_iff.1 hr
  simp only [yAnd_t, yLe_t, yLt_t, yNle_t] at hv h8
  unfold setL at hL
  by_cases hk : setOk cs s i nk k nv cf at_ = true
  · rw [if_pos hk] at hL
    subst hL
    unfold setOk at hk
    rw [decide_eq_true_iff] at hk
    obtain ⟨k1, k2, rfl, k4, k5⟩ := hk
    have k6 := (fits_t.1 k2).1
    simp only [yNot_t, yNot_f, yEq_t, yEq_f, yAnd_t, yAnd_f, yOr_t, yOr_f, yIff_t, yIff_f, yLt_t, yLt_f, yLe_t, yLe_f, yIn_t, yIn_f, yNlt_t, yNlt_f, yNle_t, yNle_f, yNeq_t, yNeq_f, yGrow_t, yGrow_f, yInt_e, yNat_e, yNadd_e, yNsub_e, yAdd_e, ySub_e, yMul_e, yCol_int, yCol_bool, true_and, and_true, Nat.zero_add, Nat.add_zero, Nat.le_refl, forall_const, true_implies, Bool.true_eq_false, Bool.false_eq_true, false_implies, hr, k2, false_or, or_false]
    repeat' (first | apply And.intro | intro _)
    all_goals first
      | rfl
      | (exfalso; omega)
      | omega
  · rw [if_neg hk] at hL
    subst hL
    simp only [yNot_t, yNot_f, yEq_t, yEq_f, yAnd_t, yAnd_f, yOr_t, yOr_f, yIff_t, yIff_f, yLt_t, yLt_f, yLe_t, yLe_f, yIn_t, yIn_f, yNlt_t, yNlt_f, yNle_t, yNle_f, yNeq_t, yNeq_f, yGrow_t, yGrow_f, yInt_e, yNat_e, yNadd_e, yNsub_e, yAdd_e, ySub_e, yMul_e, yCol_int, yCol_bool, true_and, and_true, Nat.zero_add, Nat.add_zero, Nat.le_refl, forall_const, true_implies, Bool.true_eq_false, Bool.false_eq_true, false_implies, hr, false_or, or_false]
    repeat' (first | apply And.intro | intro _)
    all_goals first
      | rfl
      | (exfalso; omega)
      | omega
      | (exfalso
         apply hk
         unfold setOk
         rw [decide_eq_true_iff]
         exact ⟨by omega, by assumption, by assumption, by omega, by omega⟩)
set_option maxRecDepth 100000 in
theorem goalSetR_tt : (goalSetR) = True := goalSetR_eq.trans (eq_true goalSetR_vc)
theorem goalSetR_ok : goalSetR := @ft' goalSetR goalSetR_tt
end Go.Proofs.YtfpokmglhaenaaaDoor.Ex
