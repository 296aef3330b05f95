/- Contracts: plan.Insert and gleaningref14.Insert. The law PlanLeaf, walked. -/
import Derived.Test.YtlfehgagnelbhaaGreatDoorCOpn2
import Derived.Test.YtlfehgagnelbhaaGreatDoorPkEb
import Derived.Test.YtlfehgagnelbhaaGreatDoorPkEa
namespace Go.Proofs.YtlfehgagnelbhaaGreatDoor.Ex
open Go

-- OPEN insL
def insOk (cs s : Int) (i : Bool) (nk : Nat) (k : Nat → Int) (nv : Nat) (cf at_ key : Int) : Bool :=
  decide ((1 ≤ s ∧ s ≤ cs) ∧ fitsC i nk k nv cf = true ∧ i = false ∧ 0 ≤ at_ ∧ at_ ≤ nv ∧ (nv : Int) < cf ∧ (at_ = 0 ∨ k (yNat (at_ - 1)) < key) ∧ (at_ = nv ∨ key < k (yNat at_)))
def insL (cs ct cf s v : Int) (i : Bool) (nk : Nat) (k : Nat → Int) (nv : Nat) (w : Nat → Int) (at_ key val : Int) : List (Int × Int) :=
  if insOk cs s i nk k nv cf at_ key then opL cs ct cf s k w 0 (fun _ => 0) (fun _ => 0) nv (yNat at_) key val ++ [(verC cs ct cf s, bumpC v)] else []
def fOpn (ds : List Dx) : Option (Bool × Dx × List (List Dx)) :=
  match ds with
  | [.l [.v (.y .i64 cs), .v (.y .i64 ct), .v (.y .i64 cf), .v (.y .i64 cl), .v (.y .i64 cp), .rows nil0 n0 [.int .i64 a0, .int .u64 b0]], .l [.v (.y .i64 s), .v (.y .u64 _), .v (.yb i), .rows _ nk [.int .u64 k], .rows _ nv [.int .u64 w], .v (.y .u64 _)], .v (.y .i64 j), .v (.y .u64 key), .v (.y .u64 val)] =>
    some (yAnd (rightC cs ct cf cl cp) (yAnd (yNle nv 80) (yAnd (yNle n0 1000) (yAnd (yAnd (yLe 0 j) (yLe j (yInt nv))) (yAnd (yIff nil0 (yNeq n0 0)) (yAnd (yNot i) (yNeq nk nv)))))), .l [],
      [[.v (.y .i64 cs), .v (.y .i64 ct), .v (.y .i64 cf), .v (.y .i64 cl), .v (.y .i64 cp), rowsW (opL cs ct cf s k w n0 a0 b0 nv (yNat j) key val)]])
  | _ => none
def fOpR (ds : List Dx) : Option (Bool × Dx × List (List Dx)) :=
  match ds with
  | [.l [.v (.y .i64 cs), .v (.y .i64 ct), .v (.y .i64 cf), .v (.y .i64 cl), .v (.y .i64 cp)], .rows nil0 n0 [.int .i64 a0, .int .u64 b0], .l [.v (.y .i64 s), .v (.y .u64 _), .v (.yb i), .rows _ nk [.int .u64 k], .rows _ nv [.int .u64 w], .v (.y .u64 _)], .v (.y .i64 j), .v (.y .u64 key), .v (.y .u64 val)] =>
    some (yAnd (rightC cs ct cf cl cp) (yAnd (yNle nv 80) (yAnd (yNle n0 1000) (yAnd (yAnd (yLe 0 j) (yLe j (yInt nv))) (yAnd (yIff nil0 (yNeq n0 0)) (yAnd (yNot i) (yAnd (yNeq nk nv) (yAnd (yAnd (yLe 0 s) (yLe s cs)) (yLt (yInt nv) cf)))))))),
      rowsW (opL cs ct cf s k w n0 a0 b0 nv (yNat j) key val), [])
  | _ => none
def lIns : List (Nat × Sm) := (99, .ct (ctX [sPen, sPart, .sc, .sc, .sc] (.tup []) fOpn)) :: (106, .ct (ctX [sConf, ownW, sPart, .sc, .sc, .sc] ownW fOpR)) :: lShr
def goalIns (P : Program) (f : FuncId) : Prop := ∀ (cs ct cf cl cp s v : Int) (i kn : Bool) (nk : Nat) (k : Nat → Int) (vn : Bool) (nv : Nat) (w : Nat → Int) (l at_ key val : Int) (L : List (Int × Int)),
  rightC cs ct cf cl cp = true → inU v = true → yAnd (yNle nk 80) (yNle nv 80) = true → L = insL cs ct cf s v i nk k nv w at_ key val →
  wxP P (smL lIns) (fun _ => none) f [sConf, sPart, .sc, .sc, .sc] [dCf cs ct cf cl cp, dPt s v i kn nk k vn nv w l, .v (.y .i64 at_), .v (.y .u64 key), .v (.y .u64 val)] ownW (rowsW L) []
def goalInsP : Prop := goalIns Tryz.prog 82
def goalInsR : Prop := goalIns Tryz.prog 85
theorem insOk_iff {cs s : Int} {i : Bool} {nk : Nat} {k : Nat → Int} {nv : Nat} {cf at_ key : Int} : insOk cs s i nk k nv cf at_ key = true ↔
    ((1 ≤ s ∧ s ≤ cs) ∧ fitsC i nk k nv cf = true ∧ i = false ∧ 0 ≤ at_ ∧ at_ ≤ nv ∧ (nv : Int) < cf ∧ (at_ = 0 ∨ k (yNat (at_ - 1)) < key) ∧ (at_ = nv ∨ key < k (yNat at_))) := by
  unfold insOk; rw [decide_eq_true_iff]
theorem opL_len {cs ct cf s : Int} {k w : Nat → Int} {n0 : Nat} {a0 b0 : Nat → Int} {n j : Nat} {key val : Int} : rN (opL cs ct cf s k w n0 a0 b0 n j key val) ≤ n0 + 2 * n + 5 := by
  unfold opL
  split
  · simp only [rN, List.length_append, prw_len, layL, List.length_cons, List.length_nil]; omega
  · have := opR_len (cs := cs) (ct := ct) (cf := cf) (s := s) (k := k) (w := w) (n0 := n0) (a0 := a0) (b0 := b0) (n := n) (n - 1 - j + 1)
    simp only [opR] at this
    simp only [rN, List.length_append, layL, List.length_cons, List.length_nil] at this ⊢
    omega
def goalInsP_1 (cs : Int) (ct : Int) (cf : Int) (s : Int) (k : Nat → Int) (w : Nat → Int) (nv : Nat) (at_ : Int) (key : Int) (val : Int) := opL cs ct cf s (fun (i : Nat) => k i) (fun (i : Nat) => w i) (nat_lit 0) (fun (_ : Nat) => (0 : Int)) (fun (_ : Nat) => (0 : Int)) nv (yNat at_) key val
def goalInsP_0 (nk : Nat) (k : Nat → Int) (nv : Nat) (w : Nat → Int) (cs : Int) (ct : Int) (cf : Int) (cl : Int) (cp : Int) (at_ : Int) (i : Bool) (v : Int) (s : Int) (key : Int) (val : Int) (L : List (Int × Int)) := yNle (yNadd (nat_lit 0) nk) nk = true → ((yCol (CK.int IntKind.u64) nk fun (i : Nat) => AV.y IntKind.u64 (k i)) = true → (yNle (yNadd (nat_lit 0) nv) nv = true → ((yCol (CK.int IntKind.u64) nv fun (i : Nat) => AV.y IntKind.u64 (w i)) = true → (yAnd (rightC cs ct cf cl cp) (yAnd (yNle nv (nat_lit 80)) (yAnd (yNle (nat_lit 0) (nat_lit 1000)) (yAnd (yAnd (yLe (0 : Int) at_) (yLe at_ (yInt nv))) (yAnd (yIff true (yNeq (nat_lit 0) (nat_lit 0))) (yAnd (yNot i) (yNeq nk nv)))))) = true → (rightC cs ct cf cl cp = true → (yAnd (yLe (0 : Int) v) (yLt v (18446744073709551616 : Int)) = true → (yNeq (rN (goalInsP_1 cs ct cf s k w nv at_ key val)) (rN (goalInsP_1 cs ct cf s k w nv at_ key val)) = true → (yGrow (yNadd (rN (goalInsP_1 cs ct cf s k w nv at_ key val)) (nat_lit 1)) (nat_lit 16) = true → rE L = yAnd (rE (goalInsP_1 cs ct cf s k w nv at_ key val)) (yNeq (nat_lit 1) (nat_lit 0)) ∧ nat_lit 0 = nat_lit 0 ∧ rN L = yNadd (rN (goalInsP_1 cs ct cf s k w nv at_ key val)) (nat_lit 1) ∧ rN L = yNadd (rN (goalInsP_1 cs ct cf s k w nv at_ key val)) (nat_lit 1) ∧ (∀ (i : Nat), Nat.succ i ≤ rN L → rA L i = ySel (yNlt i (rN (goalInsP_1 cs ct cf s k w nv at_ key val))) (rA (goalInsP_1 cs ct cf s k w nv at_ key val) i) (verC cs ct cf s) ∧ rB L i = ySel (yNlt i (rN (goalInsP_1 cs ct cf s k w nv at_ key val))) (rB (goalInsP_1 cs ct cf s k w nv at_ key val) i) (bumpC v) ∧ True) ∧ true = true) ∧ (yGrow (yNadd (rN (goalInsP_1 cs ct cf s k w nv at_ key val)) (nat_lit 1)) (nat_lit 16) = false → False)) ∧ (yNeq (rN (goalInsP_1 cs ct cf s k w nv at_ key val)) (rN (goalInsP_1 cs ct cf s k w nv at_ key val)) = false → False)) ∧ (yAnd (yLe (0 : Int) v) (yLt v (18446744073709551616 : Int)) = false → False)) ∧ (rightC cs ct cf cl cp = false → False)) ∧ (yAnd (rightC cs ct cf cl cp) (yAnd (yNle nv (nat_lit 80)) (yAnd (yNle (nat_lit 0) (nat_lit 1000)) (yAnd (yAnd (yLe (0 : Int) at_) (yLe at_ (yInt nv))) (yAnd (yIff true (yNeq (nat_lit 0) (nat_lit 0))) (yAnd (yNot i) (yNeq nk nv)))))) = false → False)) ∧ ((yCol (CK.int IntKind.u64) nv fun (i : Nat) => AV.y IntKind.u64 (w i)) = false → False)) ∧ (yNle (yNadd (nat_lit 0) nv) nv = false → False)) ∧ ((yCol (CK.int IntKind.u64) nk fun (i : Nat) => AV.y IntKind.u64 (k i)) = false → False)
def goalInsP_2 (at_ : Int) (nv : Nat) (nk : Nat) (key : Int) (k : Nat → Int) (L : List (Int × Int)) (w : Nat → Int) (cs : Int) (ct : Int) (cf : Int) (cl : Int) (cp : Int) (i : Bool) (v : Int) (s : Int) (val : Int) := yEq at_ (yInt nv) = false → (yIn at_ nk = true → (yNlt (yNadd (nat_lit 0) (yNat at_)) nk = true → (yNot (yLt key (k (yNadd (nat_lit 0) (yNat at_)))) = true → rE L = true ∧ rN L = nat_lit 0 ∧ rN L = nat_lit 0 ∧ true = true ∧ true = true) ∧ (yNot (yLt key (k (yNadd (nat_lit 0) (yNat at_)))) = false → (goalInsP_0 nk k nv w cs ct cf cl cp at_ i v s key val L) ∧ (yNle (yNadd (nat_lit 0) nk) nk = false → False))) ∧ (yNlt (yNadd (nat_lit 0) (yNat at_)) nk = false → False)) ∧ (yIn at_ nk = false → False)
def goalInsPV : Prop := (∀ (cs ct cf cl cp s v : Int) (i _kn : Bool) (nk : Nat) (k : Nat → Int) (_vn : Bool) (nv : Nat) (w : Nat → Int) (_l at_ key val : Int) (L : List (Int × Int)), rightC cs ct cf cl cp = true → yAnd (yLe (0 : Int) v) (yLt v (18446744073709551616 : Int)) = true → yAnd (yNle nk (nat_lit 80)) (yNle nv (nat_lit 80)) = true → L = insL cs ct cf s v i nk k nv w at_ key val → (rightC cs ct cf cl cp = true → (yLt (verC cs ct cf s) (0 : Int) = true → rE L = true ∧ rN L = nat_lit 0 ∧ rN L = nat_lit 0 ∧ true = true ∧ true = true) ∧ (yLt (verC cs ct cf s) (0 : Int) = false → (yEq s (0 : Int) = true → rE L = true ∧ rN L = nat_lit 0 ∧ rN L = nat_lit 0 ∧ true = true ∧ true = true) ∧ (yEq s (0 : Int) = false → (yNle (yNadd (nat_lit 0) nk) nk = true → ((yCol (CK.int IntKind.u64) nk fun (i : Nat) => AV.y IntKind.u64 (k i)) = true → (yNle (yNadd (nat_lit 0) nv) nv = true → ((yCol (CK.int IntKind.u64) nv fun (i : Nat) => AV.y IntKind.u64 (w i)) = true → (yAnd (yNle nk (nat_lit 80)) (yNle nv (nat_lit 80)) = true → (yNot (fitsC i nk (fun (i : Nat) => k i) nv cf) = true → rE L = true ∧ rN L = nat_lit 0 ∧ rN L = nat_lit 0 ∧ true = true ∧ true = true) ∧ (yNot (fitsC i nk (fun (i : Nat) => k i) nv cf) = false → (yNot i = true → (yLt (yInt nv) cf = true → (yLe (0 : Int) at_ = true → (yLe at_ (yInt nv) = true → (yEq at_ (0 : Int) = true → (yEq at_ (yInt nv) = true → (goalInsP_0 nk k nv w cs ct cf cl cp at_ i v s key val L) ∧ (yNle (yNadd (nat_lit 0) nk) nk = false → False)) ∧ (goalInsP_2 at_ nv nk key k L w cs ct cf cl cp i v s val)) ∧ (yEq at_ (0 : Int) = false → (yIn (yWrap IntKind.i64 (ySub at_ (1 : Int))) nk = true → (yNlt (yNadd (nat_lit 0) (yNat (yWrap IntKind.i64 (ySub at_ (1 : Int))))) nk = true → (yLt (k (yNadd (nat_lit 0) (yNat (yWrap IntKind.i64 (ySub at_ (1 : Int)))))) key = true → (yEq at_ (yInt nv) = true → (goalInsP_0 nk k nv w cs ct cf cl cp at_ i v s key val L) ∧ (yNle (yNadd (nat_lit 0) nk) nk = false → False)) ∧ (goalInsP_2 at_ nv nk key k L w cs ct cf cl cp i v s val)) ∧ (yLt (k (yNadd (nat_lit 0) (yNat (yWrap IntKind.i64 (ySub at_ (1 : Int)))))) key = false → rE L = true ∧ rN L = nat_lit 0 ∧ rN L = nat_lit 0 ∧ true = true ∧ true = true)) ∧ (yNlt (yNadd (nat_lit 0) (yNat (yWrap IntKind.i64 (ySub at_ (1 : Int))))) nk = false → False)) ∧ (yIn (yWrap IntKind.i64 (ySub at_ (1 : Int))) nk = false → False))) ∧ (yLe at_ (yInt nv) = false → rE L = true ∧ rN L = nat_lit 0 ∧ rN L = nat_lit 0 ∧ true = true ∧ true = true)) ∧ (yLe (0 : Int) at_ = false → rE L = true ∧ rN L = nat_lit 0 ∧ rN L = nat_lit 0 ∧ true = true ∧ true = true)) ∧ (yLt (yInt nv) cf = false → rE L = true ∧ rN L = nat_lit 0 ∧ rN L = nat_lit 0 ∧ true = true ∧ true = true)) ∧ (yNot i = false → rE L = true ∧ rN L = nat_lit 0 ∧ rN L = nat_lit 0 ∧ true = true ∧ true = true))) ∧ (yAnd (yNle nk (nat_lit 80)) (yNle nv (nat_lit 80)) = false → False)) ∧ ((yCol (CK.int IntKind.u64) nv fun (i : Nat) => AV.y IntKind.u64 (w i)) = false → False)) ∧ (yNle (yNadd (nat_lit 0) nv) nv = false → False)) ∧ ((yCol (CK.int IntKind.u64) nk fun (i : Nat) => AV.y IntKind.u64 (k i)) = false → False)) ∧ (yNle (yNadd (nat_lit 0) nk) nk = false → False)))) ∧ (rightC cs ct cf cl cp = false → False))
set_option maxRecDepth 100000 in
theorem goalInsP_eq : goalInsP = goalInsPV := by kernel_rfl
set_option maxRecDepth 100000 in
set_option maxHeartbeats 4000000 in
theorem goalInsP_vc : goalInsPV := by
  unfold goalInsPV goalInsP_2 goalInsP_0 goalInsP_1
  intro cs ct cf cl cp s v i kn nk k vn nv w l at_ key val L hr hv h8 hL
  have hv1 := verC_or (a := s) hr
  have hc := rightC_iff.1 hr
  simp only [yAnd_t, yLe_t, yLt_t, yNle_t] at hv h8
  unfold insL at hL
  by_cases hk : insOk cs s i nk k nv cf at_ key = true
  · rw [if_pos hk] at hL
    subst hL
    rw [insOk_iff] at hk
    obtain ⟨k1, k2, rfl, k4, k5, k8, k9, k10⟩ := hk
    have k6 := (fits_t.1 k2).1
    have k7 : nv = nk := by have := (fits_t.1 k2).2.1; simpa using this
    have hlen := opL_len (cs := cs) (ct := ct) (cf := cf) (s := s) (k := k) (w := w) (n0 := 0) (a0 := fun _ => 0) (b0 := fun _ => 0) (n := nv) (j := yNat at_) (key := key) (val := val)
    have e1 : yWrap .i64 (at_ - 1) = at_ - 1 := wrap64 (by omega) (by omega)
    have hT : (true = yNeq 0 0) = True := eq_true rfl
    have hl2 : rN (opL cs ct cf s (fun i => k i) (fun i => w i) 0 (fun _ => 0) (fun _ => 0) nv (yNat at_) key val) ≤ 2000 := by show rN (opL cs ct cf s k w 0 (fun _ => 0) (fun _ => 0) nv (yNat at_) key val) ≤ 2000; omega
    have n1 : 0 < at_ → yNat (at_ - 1) < nk := fun _ => by unfold yNat; omega
    have n2 : at_ < nv → yNat at_ < nk := fun _ => by unfold yNat; omega
    clear hlen
    simp only [yNot_t, yNot_f, yEq_t, yEq_f, yAnd_t, yAnd_f, yOr_t, yOr_f, yIff_t, yIff_f, yLt_t, yLt_f, yLe_t, yLe_f, yIn_t, yIn_f, yNlt_t, yNlt_f, yNle_t, yNle_f, yNeq_t, yNeq_f, yGrow_t, yGrow_f, yInt_e, yNat_e, yNadd_e, yNsub_e, yAdd_e, ySub_e, yMul_e, yCol_int, yCol_bool, true_and, and_true, Nat.zero_add, Nat.add_zero, Nat.le_refl, forall_const, true_implies, Bool.true_eq_false, Bool.false_eq_true, false_implies, hr, k2, e1, false_or, or_false, ne_eq, hT, not_true_eq_false]
    repeat' (first | apply And.intro | intro _)
    all_goals first
      | rfl
      | (exfalso; omega)
      | omega
      | exact rE_snoc' _ _
      | exact rN_snoc _ _
      | (rename_i hq; rw [rN_snoc] at hq; first | exact rA_snoc _ _ hq | exact rB_snoc _ _ hq)
      | (exfalso; have a1 := n1 (by omega); omega)
      | (exfalso; have a2 := n2 (by omega); omega)
  · rw [if_neg hk] at hL
    subst hL
    rw [insOk_iff] at hk
    cases i <;> simp only [yNot_t, yNot_f, yEq_t, yEq_f, yAnd_t, yAnd_f, yOr_t, yOr_f, yIff_t, yIff_f, yLt_t, yLt_f, yLe_t, yLe_f, yIn_t, yIn_f, yNlt_t, yNlt_f, yNle_t, yNle_f, yNeq_t, yNeq_f, yGrow_t, yGrow_f, yInt_e, yNat_e, yNadd_e, yNsub_e, yAdd_e, ySub_e, yMul_e, yCol_int, yCol_bool, true_and, and_true, Nat.zero_add, Nat.add_zero, Nat.le_refl, forall_const, true_implies, Bool.true_eq_false, Bool.false_eq_true, false_implies, hr, false_or, or_false]
    repeat' (first | apply And.intro | intro _)
    all_goals first
      | rfl
      | (exfalso; omega)
      | omega
      | (exfalso
         have q := (fits_t.1 (by assumption)).2.1
         simp only [Bool.false_eq_true, if_false] at q
         (try simp (disch := omega) only [wrap64] at *)
         unfold yNat at *
         omega)
      | (exfalso
         apply hk
         (try simp (disch := omega) only [wrap64] at *)
         exact ⟨by omega, by assumption, by first | trivial | rfl | assumption, by omega, by omega, by omega, by first | exact Or.inl (by omega) | exact Or.inr (by omega), by first | exact Or.inl (by omega) | exact Or.inr (by omega)⟩)
set_option maxRecDepth 100000 in
theorem goalInsP_tt : (goalInsP) = True := goalInsP_eq.trans (eq_true goalInsP_vc)
theorem goalInsP_ok : goalInsP := @ft' goalInsP goalInsP_tt
def goalInsR_1 (cs : Int) (ct : Int) (cf : Int) (s : Int) (k : Nat → Int) (w : Nat → Int) (nv : Nat) (at_ : Int) (key : Int) (val : Int) := opL cs ct cf s (fun (i : Nat) => k i) (fun (i : Nat) => w i) (nat_lit 0) (fun (_ : Nat) => (0 : Int)) (fun (_ : Nat) => (0 : Int)) nv (yNat at_) key val
def goalInsR_0 (nk : Nat) (k : Nat → Int) (nv : Nat) (w : Nat → Int) (cs : Int) (ct : Int) (cf : Int) (cl : Int) (cp : Int) (at_ : Int) (i : Bool) (s : Int) (v : Int) (key : Int) (val : Int) (L : List (Int × Int)) := yNle (yNadd (nat_lit 0) nk) nk = true → ((yCol (CK.int IntKind.u64) nk fun (i : Nat) => AV.y IntKind.u64 (k i)) = true → (yNle (yNadd (nat_lit 0) nv) nv = true → ((yCol (CK.int IntKind.u64) nv fun (i : Nat) => AV.y IntKind.u64 (w i)) = true → (yAnd (rightC cs ct cf cl cp) (yAnd (yNle nv (nat_lit 80)) (yAnd (yNle (nat_lit 0) (nat_lit 1000)) (yAnd (yAnd (yLe (0 : Int) at_) (yLe at_ (yInt nv))) (yAnd (yIff true (yNeq (nat_lit 0) (nat_lit 0))) (yAnd (yNot i) (yAnd (yNeq nk nv) (yAnd (yAnd (yLe (0 : Int) s) (yLe s cs)) (yLt (yInt nv) cf)))))))) = true → (yAnd (rightC cs ct cf cl cp) (yAnd (yLe (0 : Int) s) (yLe s cs)) = true → (yAnd (yLe (0 : Int) v) (yLt v (18446744073709551616 : Int)) = true → (yNeq (rN (goalInsR_1 cs ct cf s k w nv at_ key val)) (rN (goalInsR_1 cs ct cf s k w nv at_ key val)) = true → (yGrow (yNadd (rN (goalInsR_1 cs ct cf s k w nv at_ key val)) (nat_lit 1)) (nat_lit 16) = true → rE L = yAnd (rE (goalInsR_1 cs ct cf s k w nv at_ key val)) (yNeq (nat_lit 1) (nat_lit 0)) ∧ nat_lit 0 = nat_lit 0 ∧ rN L = yNadd (rN (goalInsR_1 cs ct cf s k w nv at_ key val)) (nat_lit 1) ∧ rN L = yNadd (rN (goalInsR_1 cs ct cf s k w nv at_ key val)) (nat_lit 1) ∧ (∀ (i : Nat), Nat.succ i ≤ rN L → rA L i = ySel (yNlt i (rN (goalInsR_1 cs ct cf s k w nv at_ key val))) (rA (goalInsR_1 cs ct cf s k w nv at_ key val) i) (verC cs ct cf s) ∧ rB L i = ySel (yNlt i (rN (goalInsR_1 cs ct cf s k w nv at_ key val))) (rB (goalInsR_1 cs ct cf s k w nv at_ key val) i) (bumpC v) ∧ True) ∧ true = true) ∧ (yGrow (yNadd (rN (goalInsR_1 cs ct cf s k w nv at_ key val)) (nat_lit 1)) (nat_lit 16) = false → False)) ∧ (yNeq (rN (goalInsR_1 cs ct cf s k w nv at_ key val)) (rN (goalInsR_1 cs ct cf s k w nv at_ key val)) = false → False)) ∧ (yAnd (yLe (0 : Int) v) (yLt v (18446744073709551616 : Int)) = false → False)) ∧ (yAnd (rightC cs ct cf cl cp) (yAnd (yLe (0 : Int) s) (yLe s cs)) = false → False)) ∧ (yAnd (rightC cs ct cf cl cp) (yAnd (yNle nv (nat_lit 80)) (yAnd (yNle (nat_lit 0) (nat_lit 1000)) (yAnd (yAnd (yLe (0 : Int) at_) (yLe at_ (yInt nv))) (yAnd (yIff true (yNeq (nat_lit 0) (nat_lit 0))) (yAnd (yNot i) (yAnd (yNeq nk nv) (yAnd (yAnd (yLe (0 : Int) s) (yLe s cs)) (yLt (yInt nv) cf)))))))) = false → False)) ∧ ((yCol (CK.int IntKind.u64) nv fun (i : Nat) => AV.y IntKind.u64 (w i)) = false → False)) ∧ (yNle (yNadd (nat_lit 0) nv) nv = false → False)) ∧ ((yCol (CK.int IntKind.u64) nk fun (i : Nat) => AV.y IntKind.u64 (k i)) = false → False)
def goalInsR_2 (at_ : Int) (nv : Nat) (nk : Nat) (k : Nat → Int) (key : Int) (L : List (Int × Int)) (w : Nat → Int) (cs : Int) (ct : Int) (cf : Int) (cl : Int) (cp : Int) (i : Bool) (s : Int) (v : Int) (val : Int) := yLt at_ (yInt nv) = true → (yIn at_ nk = true → (yNlt (yNadd (nat_lit 0) (yNat at_)) nk = true → (yLe (k (yNadd (nat_lit 0) (yNat at_))) key = true → rE L = true ∧ rN L = nat_lit 0 ∧ rN L = nat_lit 0 ∧ true = true ∧ true = true) ∧ (yLe (k (yNadd (nat_lit 0) (yNat at_))) key = false → (goalInsR_0 nk k nv w cs ct cf cl cp at_ i s v key val L) ∧ (yNle (yNadd (nat_lit 0) nk) nk = false → False))) ∧ (yNlt (yNadd (nat_lit 0) (yNat at_)) nk = false → False)) ∧ (yIn at_ nk = false → False)
def goalInsRV : Prop := (∀ (cs ct cf cl cp s v : Int) (i _kn : Bool) (nk : Nat) (k : Nat → Int) (_vn : Bool) (nv : Nat) (w : Nat → Int) (_l at_ key val : Int) (L : List (Int × Int)), rightC cs ct cf cl cp = true → yAnd (yLe (0 : Int) v) (yLt v (18446744073709551616 : Int)) = true → yAnd (yNle nk (nat_lit 80)) (yNle nv (nat_lit 80)) = true → L = insL cs ct cf s v i nk k nv w at_ key val → (yLt s (0 : Int) = true → rE L = true ∧ rN L = nat_lit 0 ∧ rN L = nat_lit 0 ∧ true = true ∧ true = true) ∧ (yLt s (0 : Int) = false → (yLt cs s = true → rE L = true ∧ rN L = nat_lit 0 ∧ rN L = nat_lit 0 ∧ true = true ∧ true = true) ∧ (yLt cs s = false → (yEq s (0 : Int) = true → rE L = true ∧ rN L = nat_lit 0 ∧ rN L = nat_lit 0 ∧ true = true ∧ true = true) ∧ (yEq s (0 : Int) = false → (yNle (yNadd (nat_lit 0) nk) nk = true → ((yCol (CK.int IntKind.u64) nk fun (i : Nat) => AV.y IntKind.u64 (k i)) = true → (yNle (yNadd (nat_lit 0) nv) nv = true → ((yCol (CK.int IntKind.u64) nv fun (i : Nat) => AV.y IntKind.u64 (w i)) = true → (yAnd (yNle nk (nat_lit 80)) (yNle nv (nat_lit 80)) = true → (yNot (fitsC i nk (fun (i : Nat) => k i) nv cf) = true → rE L = true ∧ rN L = nat_lit 0 ∧ rN L = nat_lit 0 ∧ true = true ∧ true = true) ∧ (yNot (fitsC i nk (fun (i : Nat) => k i) nv cf) = false → (i = true → rE L = true ∧ rN L = nat_lit 0 ∧ rN L = nat_lit 0 ∧ true = true ∧ true = true) ∧ (i = false → (yLt at_ (0 : Int) = true → rE L = true ∧ rN L = nat_lit 0 ∧ rN L = nat_lit 0 ∧ true = true ∧ true = true) ∧ (yLt at_ (0 : Int) = false → (yLt (yInt nv) at_ = true → rE L = true ∧ rN L = nat_lit 0 ∧ rN L = nat_lit 0 ∧ true = true ∧ true = true) ∧ (yLt (yInt nv) at_ = false → (yLe cf (yInt nv) = true → rE L = true ∧ rN L = nat_lit 0 ∧ rN L = nat_lit 0 ∧ true = true ∧ true = true) ∧ (yLe cf (yInt nv) = false → (yLt (0 : Int) at_ = true → (yIn (yWrap IntKind.i64 (ySub at_ (1 : Int))) nk = true → (yNlt (yNadd (nat_lit 0) (yNat (yWrap IntKind.i64 (ySub at_ (1 : Int))))) nk = true → (yLe key (k (yNadd (nat_lit 0) (yNat (yWrap IntKind.i64 (ySub at_ (1 : Int)))))) = true → rE L = true ∧ rN L = nat_lit 0 ∧ rN L = nat_lit 0 ∧ true = true ∧ true = true) ∧ (yLe key (k (yNadd (nat_lit 0) (yNat (yWrap IntKind.i64 (ySub at_ (1 : Int)))))) = false → (goalInsR_2 at_ nv nk k key L w cs ct cf cl cp i s v val) ∧ (yLt at_ (yInt nv) = false → (goalInsR_0 nk k nv w cs ct cf cl cp at_ i s v key val L) ∧ (yNle (yNadd (nat_lit 0) nk) nk = false → False)))) ∧ (yNlt (yNadd (nat_lit 0) (yNat (yWrap IntKind.i64 (ySub at_ (1 : Int))))) nk = false → False)) ∧ (yIn (yWrap IntKind.i64 (ySub at_ (1 : Int))) nk = false → False)) ∧ (yLt (0 : Int) at_ = false → (goalInsR_2 at_ nv nk k key L w cs ct cf cl cp i s v val) ∧ (yLt at_ (yInt nv) = false → (goalInsR_0 nk k nv w cs ct cf cl cp at_ i s v key val L) ∧ (yNle (yNadd (nat_lit 0) nk) nk = false → False))))))))) ∧ (yAnd (yNle nk (nat_lit 80)) (yNle nv (nat_lit 80)) = false → False)) ∧ ((yCol (CK.int IntKind.u64) nv fun (i : Nat) => AV.y IntKind.u64 (w i)) = false → False)) ∧ (yNle (yNadd (nat_lit 0) nv) nv = false → False)) ∧ ((yCol (CK.int IntKind.u64) nk fun (i : Nat) => AV.y IntKind.u64 (k i)) = false → False)) ∧ (yNle (yNadd (nat_lit 0) nk) nk = false → False)))))
set_option maxRecDepth 100000 in
theorem goalInsR_eq : goalInsR = goalInsRV := by kernel_rfl
set_option maxRecDepth 100000 in
set_option maxHeartbeats 4000000 in
theorem goalInsR_vc : goalInsRV := by
  unfold goalInsRV goalInsR_2 goalInsR_0 goalInsR_1
  intro cs ct cf cl cp s v i kn nk k vn nv w l at_ key val L hr hv h8 hL
  have hv1 := verC_or (a := s) hr
  have hc := rightC_iff.1 hr
  simp only [yAnd_t, yLe_t, yLt_t, yNle_t] at hv h8
  unfold insL at hL
  by_cases hk : insOk cs s i nk k nv cf at_ key = true
  · rw [if_pos hk] at hL
    subst hL
    rw [insOk_iff] at hk
    obtain ⟨k1, k2, rfl, k4, k5, k8, k9, k10⟩ := hk
    have k6 := (fits_t.1 k2).1
    have k7 : nv = nk := by have := (fits_t.1 k2).2.1; simpa using this
    have hlen := opL_len (cs := cs) (ct := ct) (cf := cf) (s := s) (k := k) (w := w) (n0 := 0) (a0 := fun _ => 0) (b0 := fun _ => 0) (n := nv) (j := yNat at_) (key := key) (val := val)
    have e1 : yWrap .i64 (at_ - 1) = at_ - 1 := wrap64 (by omega) (by omega)
    have hT : (true = yNeq 0 0) = True := eq_true rfl
    have hl2 : rN (opL cs ct cf s (fun i => k i) (fun i => w i) 0 (fun _ => 0) (fun _ => 0) nv (yNat at_) key val) ≤ 2000 := by show rN (opL cs ct cf s k w 0 (fun _ => 0) (fun _ => 0) nv (yNat at_) key val) ≤ 2000; omega
    have n1 : 0 < at_ → yNat (at_ - 1) < nk := fun _ => by unfold yNat; omega
    have n2 : at_ < nv → yNat at_ < nk := fun _ => by unfold yNat; omega
    clear hlen
    simp only [yNot_t, yNot_f, yEq_t, yEq_f, yAnd_t, yAnd_f, yOr_t, yOr_f, yIff_t, yIff_f, yLt_t, yLt_f, yLe_t, yLe_f, yIn_t, yIn_f, yNlt_t, yNlt_f, yNle_t, yNle_f, yNeq_t, yNeq_f, yGrow_t, yGrow_f, yInt_e, yNat_e, yNadd_e, yNsub_e, yAdd_e, ySub_e, yMul_e, yCol_int, yCol_bool, true_and, and_true, Nat.zero_add, Nat.add_zero, Nat.le_refl, forall_const, true_implies, Bool.true_eq_false, Bool.false_eq_true, false_implies, hr, k2, e1, false_or, or_false, ne_eq, hT, not_true_eq_false]
    repeat' (first | apply And.intro | intro _)
    all_goals first
      | rfl
      | (exfalso; omega)
      | omega
      | exact rE_snoc' _ _
      | exact rN_snoc _ _
      | (rename_i hq; rw [rN_snoc] at hq; first | exact rA_snoc _ _ hq | exact rB_snoc _ _ hq)
      | (exfalso; have a1 := n1 (by omega); omega)
      | (exfalso; have a2 := n2 (by omega); omega)
  · rw [if_neg hk] at hL
    subst hL
    rw [insOk_iff] at hk
    cases i <;> simp only [yNot_t, yNot_f, yEq_t, yEq_f, yAnd_t, yAnd_f, yOr_t, yOr_f, yIff_t, yIff_f, yLt_t, yLt_f, yLe_t, yLe_f, yIn_t, yIn_f, yNlt_t, yNlt_f, yNle_t, yNle_f, yNeq_t, yNeq_f, yGrow_t, yGrow_f, yInt_e, yNat_e, yNadd_e, yNsub_e, yAdd_e, ySub_e, yMul_e, yCol_int, yCol_bool, true_and, and_true, Nat.zero_add, Nat.add_zero, Nat.le_refl, forall_const, true_implies, Bool.true_eq_false, Bool.false_eq_true, false_implies, hr, false_or, or_false]
    repeat' (first | apply And.intro | intro _)
    all_goals first
      | rfl
      | (exfalso; omega)
      | omega
      | (exfalso
         have q := (fits_t.1 (by assumption)).2.1
         simp only [Bool.false_eq_true, if_false] at q
         (try simp (disch := omega) only [wrap64] at *)
         unfold yNat at *
         omega)
      | (exfalso
         apply hk
         (try simp (disch := omega) only [wrap64] at *)
         exact ⟨by omega, by assumption, by first | trivial | rfl | assumption, by omega, by omega, by omega, by first | exact Or.inl (by omega) | exact Or.inr (by omega), by first | exact Or.inl (by omega) | exact Or.inr (by omega)⟩)
set_option maxRecDepth 100000 in
theorem goalInsR_tt : (goalInsR) = True := goalInsR_eq.trans (eq_true goalInsR_vc)
theorem goalInsR_ok : goalInsR := @ft' goalInsR goalInsR_tt
end Go.Proofs.YtlfehgagnelbhaaGreatDoor.Ex
namespace Go.Proofs.YtlfehgagnelbhaaGreatDoor.Ex
open Go

set_option maxRecDepth 100000 in
theorem smPk {f : FuncId} (hm : Tryz.prog.follows .mixedOrders = true) (hg : gPkgoal Tryz.prog f) : SmCall Tryz.prog f (fun args h => (ctS gPk fPk args h).sel) :=
  ctS_ok hm noSm_ok (by decide) (fun ds a h => by
    unfold fPk at h
    split at h
    · simp only [Option.some.injEq, Prod.mk.injEq] at h
      obtain ⟨h1, rfl⟩ := h
      exact ⟨_, 1000, hg _ _⟩
    · cases h)
set_option maxRecDepth 100000 in
theorem smMk {f : FuncId} (hm : Tryz.prog.follows .mixedOrders = true) (hg : gMkgoal Tryz.prog f) : SmCall Tryz.prog f (fun args h => (ctS gMk fMk args h).sel) :=
  ctS_ok hm noSm_ok (by decide) (fun ds a h => by
    unfold fMk at h
    split at h
    · simp only [Option.some.injEq, Prod.mk.injEq] at h
      obtain ⟨h1, rfl⟩ := h
      exact ⟨_, 1000, hg _ _ h1⟩
    · cases h)
set_option maxRecDepth 100000 in
theorem lLay_ok (hm : Tryz.prog.follows .mixedOrders = true) : SmAll Tryz.prog lLay :=
  ⟨smL2 (f := 47) (F := keyC) hm @goalKey_ok, smVal hm, smL1 (f := 126) (F := shapeC) hm @goalShp_ok, smPk hm @goalPack_ok,
   smR2 (f := 50) (F := keyC) hm @goalKeyR_ok, smValR hm, smR1 (f := 56) (F := shapeC) hm @goalShpR_ok, smPk hm @goalPackR_ok, trivial⟩
theorem yNot_ff {i : Bool} (h : yNot i = true) : i = false := by cases i <;> simp [yNot] at h ⊢
theorem yIn_nat {j : Int} {n : Nat} (h : yIn j n = true) : ∃ m : Nat, j = yInt m := by
  simp only [yIn_t] at h; exact ⟨j.toNat, by unfold yInt; omega⟩
theorem yNat_yInt (m : Nat) : yNat (yInt m) = m := by unfold yNat yInt; omega
theorem yIn_lt {m n : Nat} (h : yIn (yInt m) n = true) : yNlt m n = true := by simp only [yIn_t, yInt_e, yNlt_t] at h ⊢; omega
set_option maxRecDepth 100000 in
theorem smClo (hm : Tryz.prog.follows .mixedOrders = true) : SmCall Tryz.prog 103 (fun args h => (ctX [sPen, sPart, .sc] (.tup []) fClo args h).sel) :=
  ctX_ok hm (smL_ok (lLay_ok hm)) (fun ds r post h => by
    unfold fClo at h
    split at h
    · simp only [Option.some.injEq, Prod.mk.injEq] at h
      obtain ⟨h1, rfl, rfl⟩ := h
      rw [yAnd_t, yAnd_t, yAnd_t, yAnd_t, yAnd_t, yAnd_t] at h1
      obtain ⟨q1, q2, q3, q4, q5, q6, q7⟩ := h1
      obtain ⟨jn, rfl⟩ := yIn_nat q4
      obtain rfl := yNot_ff q6
      obtain rfl := yNeq_t.mp q7
      rw [yNat_yInt]
      exact ⟨_, 1000, @goalClo_ok _ _ _ _ _ _ _ _ _ _ _ _ _ _ _ _ _ _ q1 q2 q3 (yIn_lt q4) q5⟩
    · cases h)
set_option maxRecDepth 100000 in
theorem smShut (hm : Tryz.prog.follows .mixedOrders = true) : SmCall Tryz.prog 107 (fun args h => (ctX [sConf, ownW, sPart, .sc] ownW fShut args h).sel) :=
  ctX_ok hm (smL_ok (lLay_ok hm)) (fun ds r post h => by
    unfold fShut at h
    split at h
    · simp only [Option.some.injEq, Prod.mk.injEq] at h
      obtain ⟨h1, rfl, rfl⟩ := h
      rw [yAnd_t, yAnd_t, yAnd_t, yAnd_t, yAnd_t, yAnd_t, yAnd_t] at h1
      obtain ⟨q1, q2, q3, q4, q5, q6, q7, q8⟩ := h1
      obtain ⟨jn, rfl⟩ := yIn_nat q4
      obtain rfl := yNot_ff q6
      obtain rfl := yNeq_t.mp q7
      rw [yNat_yInt]
      rw [yAnd_t] at q8
      exact ⟨_, 1000, @goalShut_ok _ _ _ _ _ _ _ _ _ _ _ _ _ _ _ _ _ _ q1 q2 q3 (yIn_lt q4) q5 q8.1 q8.2⟩
    · cases h)
theorem yLe_nat {j : Int} {n : Nat} (h : yLe 0 j = true ∧ yLe j (yInt n) = true) : ∃ m : Nat, j = yInt m ∧ yNle m n = true := by
  simp only [yLe_t, yInt_e, yNle_t] at h ⊢; exact ⟨j.toNat, by omega, by omega⟩
set_option maxRecDepth 100000 in
theorem smOpn (hm : Tryz.prog.follows .mixedOrders = true) : SmCall Tryz.prog 99 (fun args h => (ctX [sPen, sPart, .sc, .sc, .sc] (.tup []) fOpn args h).sel) :=
  ctX_ok hm (smL_ok (lLay_ok hm)) (fun ds r post h => by
    unfold fOpn at h
    split at h
    · simp only [Option.some.injEq, Prod.mk.injEq] at h
      obtain ⟨h1, rfl, rfl⟩ := h
      simp only [yAnd_t] at h1
      obtain ⟨q1, q2, q3, q4, q5, q6, q7⟩ := h1
      obtain ⟨jn, rfl, q4'⟩ := yLe_nat q4
      obtain rfl := yNot_ff q6
      obtain rfl := yNeq_t.mp q7
      rw [yNat_yInt]
      exact ⟨_, 1000, @goalOpn_ok _ _ _ _ _ _ _ _ _ _ _ _ _ _ _ _ _ _ _ _ _ _ q1 q2 q3 q4' q5 rfl rfl⟩
    · cases h)
set_option maxRecDepth 100000 in
theorem smOpR (hm : Tryz.prog.follows .mixedOrders = true) : SmCall Tryz.prog 106 (fun args h => (ctX [sConf, ownW, sPart, .sc, .sc, .sc] ownW fOpR args h).sel) :=
  ctX_ok hm (smL_ok (lLay_ok hm)) (fun ds r post h => by
    unfold fOpR at h
    split at h
    · simp only [Option.some.injEq, Prod.mk.injEq] at h
      obtain ⟨h1, rfl, rfl⟩ := h
      simp only [yAnd_t] at h1
      obtain ⟨q1, q2, q3, q4, q5, q6, q7, q8⟩ := h1
      obtain ⟨jn, rfl, q4'⟩ := yLe_nat q4
      obtain rfl := yNot_ff q6
      obtain rfl := yNeq_t.mp q7
      rw [yNat_yInt]
      exact ⟨_, 1000, @goalOpR_ok _ _ _ _ _ _ _ _ _ _ _ _ _ _ _ _ _ _ _ _ _ q1 q2 q3 q4' q5 (by simp only [yAnd_t]; exact q8.1) q8.2 rfl⟩
    · cases h)
theorem lRem_ok (hm : Tryz.prog.follows .mixedOrders = true) : SmAll Tryz.prog lRem := ⟨smClo hm, smShut hm, lShr_ok hm⟩
theorem lIns_ok (hm : Tryz.prog.follows .mixedOrders = true) : SmAll Tryz.prog lIns := ⟨smOpn hm, smOpR hm, lShr_ok hm⟩
def preP (cs ct cf cl cp v : Int) (nk nv : Nat) : Bool := yAnd (rightC cs ct cf cl cp) (yAnd (inU v) (yAnd (yNle nk 80) (yNle nv 80)))
def fSet (ds : List Dx) : Option (Bool × Dx × List (List Dx)) :=
  match ds with
  | [.l [.v (.y .i64 cs), .v (.y .i64 ct), .v (.y .i64 cf), .v (.y .i64 cl), .v (.y .i64 cp)], .l [.v (.y .i64 s), .v (.y .u64 v), .v (.yb i), .rows _ nk [.int .u64 k], .rows _ nv [.int .u64 _], .v (.y .u64 _)], .v (.y .i64 j), .v (.y .u64 word)] =>
    some (yAnd (rightC cs ct cf cl cp) (yAnd (inU v) (yAnd (yNle nk 80) (yNle nv 80))), rowsW (setL cs ct cf s v i nk k nv j word), [])
  | _ => none
def fRem (ds : List Dx) : Option (Bool × Dx × List (List Dx)) :=
  match ds with
  | [.l [.v (.y .i64 cs), .v (.y .i64 ct), .v (.y .i64 cf), .v (.y .i64 cl), .v (.y .i64 cp)], .l [.v (.y .i64 s), .v (.y .u64 v), .v (.yb i), .rows _ nk [.int .u64 k], .rows _ nv [.int .u64 w], .v (.y .u64 _)], .v (.y .i64 j)] =>
    some (yAnd (rightC cs ct cf cl cp) (yAnd (inU v) (yAnd (yNle nk 80) (yNle nv 80))), rowsW (remL cs ct cf s v i nk k nv w j), [])
  | _ => none
def fIns (ds : List Dx) : Option (Bool × Dx × List (List Dx)) :=
  match ds with
  | [.l [.v (.y .i64 cs), .v (.y .i64 ct), .v (.y .i64 cf), .v (.y .i64 cl), .v (.y .i64 cp)], .l [.v (.y .i64 s), .v (.y .u64 v), .v (.yb i), .rows _ nk [.int .u64 k], .rows _ nv [.int .u64 w], .v (.y .u64 _)], .v (.y .i64 j), .v (.y .u64 key), .v (.y .u64 val)] =>
    some (yAnd (rightC cs ct cf cl cp) (yAnd (inU v) (yAnd (yNle nk 80) (yNle nv 80))), rowsW (insL cs ct cf s v i nk k nv w j key val), [])
  | _ => none
set_option maxRecDepth 100000 in
theorem smSetP {f : FuncId} (hm : Tryz.prog.follows .mixedOrders = true) (hg : goalSet Tryz.prog f) : SmCall Tryz.prog f (fun args h => (ctX [sConf, sPart, .sc, .sc] ownW fSet args h).sel) :=
  ctX_ok hm (smL_ok (lShr_ok hm)) (fun ds r post h => by
    unfold fSet at h
    split at h
    · simp only [Option.some.injEq, Prod.mk.injEq] at h
      obtain ⟨h1, rfl, rfl⟩ := h
      rw [yAnd_t, yAnd_t] at h1
      obtain ⟨q1, q2, q3⟩ := h1
      exact ⟨_, 1000, @hg _ _ _ _ _ _ _ _ _ _ _ _ _ _ _ _ _ _ q1 q2 q3 rfl⟩
    · cases h)
set_option maxRecDepth 100000 in
theorem smRemP {f : FuncId} (hm : Tryz.prog.follows .mixedOrders = true) (hg : goalRem Tryz.prog f) : SmCall Tryz.prog f (fun args h => (ctX [sConf, sPart, .sc] ownW fRem args h).sel) :=
  ctX_ok hm (smL_ok (lRem_ok hm)) (fun ds r post h => by
    unfold fRem at h
    split at h
    · simp only [Option.some.injEq, Prod.mk.injEq] at h
      obtain ⟨h1, rfl, rfl⟩ := h
      rw [yAnd_t, yAnd_t] at h1
      obtain ⟨q1, q2, q3⟩ := h1
      exact ⟨_, 1000, @hg _ _ _ _ _ _ _ _ _ _ _ _ _ _ _ _ _ q1 q2 q3 rfl⟩
    · cases h)
set_option maxRecDepth 100000 in
theorem smInsP {f : FuncId} (hm : Tryz.prog.follows .mixedOrders = true) (hg : goalIns Tryz.prog f) : SmCall Tryz.prog f (fun args h => (ctX [sConf, sPart, .sc, .sc, .sc] ownW fIns args h).sel) :=
  ctX_ok hm (smL_ok (lIns_ok hm)) (fun ds r post h => by
    unfold fIns at h
    split at h
    · simp only [Option.some.injEq, Prod.mk.injEq] at h
      obtain ⟨h1, rfl, rfl⟩ := h
      rw [yAnd_t, yAnd_t] at h1
      obtain ⟨q1, q2, q3⟩ := h1
      exact ⟨_, 1000, @hg _ _ _ _ _ _ _ _ _ _ _ _ _ _ _ _ _ _ _ q1 q2 q3 rfl⟩
    · cases h)
theorem yIff_refl (b : Bool) : yIff b b = true := by cases b <;> rfl
theorem yEq_refl (a : Int) : yEq a a = true := by simp [yEq]
theorem set_len {cs ct cf s v : Int} {i : Bool} {nk : Nat} {k : Nat → Int} {nv : Nat} {a b : Int} : rN (setL cs ct cf s v i nk k nv a b) ≤ 1000000 := by
  unfold rN setL
  split <;> simp
theorem ins_len {cs ct cf s v : Int} {i : Bool} {nk : Nat} {k : Nat → Int} {nv : Nat} {w : Nat → Int} {a b c : Int} (h : nv ≤ 80) : rN (insL cs ct cf s v i nk k nv w a b c) ≤ 1000000 := by
  unfold insL
  split
  · rw [rN_snoc]
    have := opL_len (cs := cs) (ct := ct) (cf := cf) (s := s) (k := k) (w := w) (n0 := 0) (a0 := fun _ => 0) (b0 := fun _ => 0) (n := nv) (j := yNat a) (key := b) (val := c)
    omega
  · simp [rN]
theorem rem_len {cs ct cf s v : Int} {i : Bool} {nk : Nat} {k : Nat → Int} {nv : Nat} {w : Nat → Int} {a : Int} (h : nv ≤ 80) : rN (remL cs ct cf s v i nk k nv w a) ≤ 1000000 := by
  unfold remL
  split
  · rename_i hk
    rw [rN_snoc]
    unfold setOk at hk
    rw [decide_eq_true_iff] at hk
    have := cloL_len (cs := cs) (ct := ct) (cf := cf) (s := s) (k := k) (w := w) (n0 := 0) (a0 := fun _ => 0) (b0 := fun _ => 0) (j := yNat a) (nv := nv) (by unfold yNat; omega) h (by omega)
    omega
  · simp [rN]
end Go.Proofs.YtlfehgagnelbhaaGreatDoor.Ex
