/- Contracts: plan.Shrink and gleaningref14.Shrink. -/
import Derived.Test.YtfpokmglhaenaaaDoorCFits
import Derived.Test.YtfpokmglhaenaaaDoorCLay
import Derived.Test.YtfpokmglhaenaaaDoorCArith
import Derived.Test.YtfpokmglhaenaaaDoorWo
namespace Go.Proofs.YtfpokmglhaenaaaDoor.Ex
open Go

-- OPEN shrL rN rA rB rE
def rN (l : List (Int × Int)) : Nat := l.length
def rA (l : List (Int × Int)) (i : Nat) : Int := (l.getD i (0, 0)).1
def rB (l : List (Int × Int)) (i : Nat) : Int := (l.getD i (0, 0)).2
def rE (l : List (Int × Int)) : Bool := l.isEmpty
abbrev rowsW (l : List (Int × Int)) : Dx := .rows (rE l) (rN l) [.int .i64 (rA l), .int .u64 (rB l)]
abbrev ownW : Sx := .own 88 [.int .i64, .int .u64]
abbrev wxP (P : Program) (sm : FuncId → Option Sm) (ann : Nat → Option (St → LoopA)) (f : FuncId) (ss : List Sx) (ds : List Dx) (rs : Sx) (r : Dx) (post : List (List Dx)) : Prop :=
  wxF P sm ann 1000 f (canXs nmI ss ds []).1 (heapOf (canXs nmI ss ds []).2)
    (postX (canXs nmI ss ds []).2.length (delX 0 (canXs nmI ss ds []).2 (ptrId (canXs nmI ss ds []).1)) (ptrId (canXs nmI ss ds []).1) (expR (fun j => (canXs nmI ss ds []).2.length + j) (ptrSh ss ds) rs r post))
abbrev sConf : Sx := .agg [.sc, .sc, .sc, .sc, .sc]
abbrev roU : Sx := .ro 26 [.int .u64]
abbrev sPart : Sx := .agg [.sc, .sc, .sc, roU, roU, .sc]
abbrev dCf (s t f l p : Int) : Dx := .l [.v (.y .i64 s), .v (.y .i64 t), .v (.y .i64 f), .v (.y .i64 l), .v (.y .i64 p)]
abbrev dPt (s v : Int) (i kn : Bool) (nk : Nat) (k : Nat → Int) (vn : Bool) (nv : Nat) (w : Nat → Int) (l : Int) : Dx := .l [.v (.y .i64 s), .v (.y .u64 v), .v (.yb i), .rows kn nk [.int .u64 k], .rows vn nv [.int .u64 w], .v (.y .u64 l)]
def shrOk (cs ps : Int) (pi : Bool) (pnk : Nat) (pk : Nat → Int) (pnv : Nat) (xs : Int) (xi : Bool) (xnk : Nat) (xk : Nat → Int) (xnv : Nat) (cf : Int) : Bool :=
  decide ((0 ≤ ps ∧ ps ≤ cs) ∧ (1 ≤ xs ∧ xs ≤ cs) ∧ xs ≠ ps ∧ fitsC pi pnk pk pnv cf = true ∧ fitsC xi xnk xk xnv cf = true ∧ pi = true ∧ xi = true ∧ pnv = 1 ∧ xnv = 1)
def shrL (cs ct cf ps pv : Int) (pi : Bool) (pnk : Nat) (pk : Nat → Int) (pnv : Nat) (xs xv : Int) (xi : Bool) (xnk : Nat) (xk : Nat → Int) (xnv : Nat) (xw0 : Int) : List (Int × Int) :=
  if shrOk cs ps pi pnk pk pnv xs xi xnk xk xnv cf then [(valC cs ct cf ps 0, xw0), (verC cs ct cf xs, killC xv), (verC cs ct cf ps, bumpC pv)] else []
def lShr : List (Nat × Sm) := [(60, .ct (ctS gConf fRight)), (47, .ct (ctS gConf fWrong)), (53, .ct (ctS gL1 (fL1 verC))), (52, .ct (ctS gL2 (fL2 valC))),
  (98, .ct (ctS gL1 (fR1 verC))), (63, .ct (ctS gL2 (fR2 valC))), (54, .ct (ctS gW (fW killC))), (90, .ct (ctS gW (fW bumpC))), (99, .ct (ctS gW (fW killC))), (100, .ct (ctS gW (fW bumpC))),
  (95, .ct (ctS gFits fFits)), (62, .ct (ctS gFits fFits))]
def goalShr (P : Program) (f : FuncId) : Prop := ∀ (cs ct cf cl cp ps pv : Int) (pi pkn : Bool) (pnk : Nat) (pk : Nat → Int) (pvn : Bool) (pnv : Nat) (pw : Nat → Int) (pl xs xv : Int) (xi xkn : Bool) (xnk : Nat) (xk : Nat → Int) (xvn : Bool) (xnv : Nat) (xw : Nat → Int) (xl : Int) (L : List (Int × Int)),
  rightC cs ct cf cl cp = true → inU pv = true → inU xv = true → yAnd (yNle pnk 80) (yNle pnv 80) = true → yAnd (yNle xnk 80) (yNle xnv 80) = true → L = shrL cs ct cf ps pv pi pnk pk pnv xs xv xi xnk xk xnv (xw 0) →
  wxP P (smL lShr) (fun _ => none) f [sConf, sPart, sPart] [dCf cs ct cf cl cp, dPt ps pv pi pkn pnk pk pvn pnv pw pl, dPt xs xv xi xkn xnk xk xvn xnv xw xl] ownW (rowsW L) []
def goalShrP : Prop := goalShr Tryd.prog 19
def goalShrR : Prop := goalShr Tryd.prog 21
theorem verC_or {s t f l p a : Int} (h : rightC s t f l p = true) : (0 ≤ a ∧ a ≤ s ∧ 0 ≤ verC s t f a) ∨ ((a < 0 ∨ s < a) ∧ verC s t f a < 0) := by
  have hp := lay_prod (slot := a) h
  have := rightC_iff.1 h
  unfold verC nodeC
  split
  · have := hp (by omega) (by omega); omega
  · omega
def goalShrPV : Prop := (∀ (cs ct cf cl cp ps pv : Int) (pi _pkn : Bool) (pnk : Nat) (pk : Nat → Int) (_pvn : Bool) (pnv : Nat) (pw : Nat → Int) (_pl xs xv : Int) (xi _xkn : Bool) (xnk : Nat) (xk : Nat → Int) (_xvn : Bool) (xnv : Nat) (xw : Nat → Int) (_xl : Int) (L : List (Int × Int)), rightC cs ct cf cl cp = true → yAnd (yLe (0 : Int) pv) (yLt pv (18446744073709551616 : Int)) = true → yAnd (yLe (0 : Int) xv) (yLt xv (18446744073709551616 : Int)) = true → yAnd (yNle pnk (nat_lit 80)) (yNle pnv (nat_lit 80)) = true → yAnd (yNle xnk (nat_lit 80)) (yNle xnv (nat_lit 80)) = true → L = shrL cs ct cf ps pv pi pnk pk pnv xs xv xi xnk xk xnv (xw (nat_lit 0)) → (rightC cs ct cf cl cp = true → (yLt (verC cs ct cf ps) (0 : Int) = true → rE L = true ∧ rN L = nat_lit 0 ∧ rN L = nat_lit 0 ∧ true = true ∧ true = true) ∧ (yLt (verC cs ct cf ps) (0 : Int) = false → (yEq ps (0 : Int) = true → (rightC cs ct cf cl cp = true → (yLt (verC cs ct cf xs) (0 : Int) = true → rE L = true ∧ rN L = nat_lit 0 ∧ rN L = nat_lit 0 ∧ true = true ∧ true = true) ∧ (yLt (verC cs ct cf xs) (0 : Int) = false → (yEq xs (0 : Int) = true → rE L = true ∧ rN L = nat_lit 0 ∧ rN L = nat_lit 0 ∧ true = true ∧ true = true) ∧ (yEq xs (0 : Int) = false → (yEq ps xs = true → rE L = true ∧ rN L = nat_lit 0 ∧ rN L = nat_lit 0 ∧ true = true ∧ true = true) ∧ (yEq ps xs = false → (yNle (yNadd (nat_lit 0) pnk) pnk = true → ((yCol (CK.int IntKind.u64) pnk fun (i : Nat) => AV.y IntKind.u64 (pk i)) = true → (yNle (yNadd (nat_lit 0) pnv) pnv = true → ((yCol (CK.int IntKind.u64) pnv fun (i : Nat) => AV.y IntKind.u64 (pw i)) = true → (yAnd (yNle pnk (nat_lit 80)) (yNle pnv (nat_lit 80)) = true → (yNot (fitsC pi pnk (fun (i : Nat) => pk i) pnv cf) = true → rE L = true ∧ rN L = nat_lit 0 ∧ rN L = nat_lit 0 ∧ true = true ∧ true = true) ∧ (yNot (fitsC pi pnk (fun (i : Nat) => pk i) pnv cf) = false → (yNle (yNadd (nat_lit 0) xnk) xnk = true → ((yCol (CK.int IntKind.u64) xnk fun (i : Nat) => AV.y IntKind.u64 (xk i)) = true → (yNle (yNadd (nat_lit 0) xnv) xnv = true → ((yCol (CK.int IntKind.u64) xnv fun (i : Nat) => AV.y IntKind.u64 (xw i)) = true → (yAnd (yNle xnk (nat_lit 80)) (yNle xnv (nat_lit 80)) = true → (yNot (fitsC xi xnk (fun (i : Nat) => xk i) xnv cf) = true → rE L = true ∧ rN L = nat_lit 0 ∧ rN L = nat_lit 0 ∧ true = true ∧ true = true) ∧ (yNot (fitsC xi xnk (fun (i : Nat) => xk i) xnv cf) = false → (pi = true → (xi = true → (yEq (yInt pnv) (1 : Int) = true → (yNot (yEq (yInt xnv) (1 : Int)) = true → rE L = true ∧ rN L = nat_lit 0 ∧ rN L = nat_lit 0 ∧ true = true ∧ true = true) ∧ (yNot (yEq (yInt xnv) (1 : Int)) = false → (rightC cs ct cf cl cp = true → (yIn (0 : Int) xnv = true → (yNlt (yNadd (nat_lit 0) (nat_lit 0)) xnv = true → (rightC cs ct cf cl cp = true → (yAnd (yLe (0 : Int) xv) (yLt xv (18446744073709551616 : Int)) = true → (rightC cs ct cf cl cp = true → (yAnd (yLe (0 : Int) pv) (yLt pv (18446744073709551616 : Int)) = true → rE L = false ∧ nat_lit 0 = nat_lit 0 ∧ rN L = nat_lit 3 ∧ rN L = nat_lit 3 ∧ ((rA L (nat_lit 0) = valC cs ct cf ps (0 : Int) ∧ rB L (nat_lit 0) = xw (yNadd (nat_lit 0) (nat_lit 0)) ∧ True) ∧ (rA L (nat_lit 1) = verC cs ct cf xs ∧ rB L (nat_lit 1) = killC xv ∧ True) ∧ (rA L (nat_lit 2) = verC cs ct cf ps ∧ rB L (nat_lit 2) = bumpC pv ∧ True) ∧ True) ∧ true = true) ∧ (yAnd (yLe (0 : Int) pv) (yLt pv (18446744073709551616 : Int)) = false → False)) ∧ (rightC cs ct cf cl cp = false → False)) ∧ (yAnd (yLe (0 : Int) xv) (yLt xv (18446744073709551616 : Int)) = false → False)) ∧ (rightC cs ct cf cl cp = false → False)) ∧ (yNlt (yNadd (nat_lit 0) (nat_lit 0)) xnv = false → False)) ∧ (yIn (0 : Int) xnv = false → False)) ∧ (rightC cs ct cf cl cp = false → False))) ∧ (yEq (yInt pnv) (1 : Int) = false → rE L = true ∧ rN L = nat_lit 0 ∧ rN L = nat_lit 0 ∧ true = true ∧ true = true)) ∧ (xi = false → rE L = true ∧ rN L = nat_lit 0 ∧ rN L = nat_lit 0 ∧ true = true ∧ true = true)) ∧ (pi = false → rE L = true ∧ rN L = nat_lit 0 ∧ rN L = nat_lit 0 ∧ true = true ∧ true = true))) ∧ (yAnd (yNle xnk (nat_lit 80)) (yNle xnv (nat_lit 80)) = false → False)) ∧ ((yCol (CK.int IntKind.u64) xnv fun (i : Nat) => AV.y IntKind.u64 (xw i)) = false → False)) ∧ (yNle (yNadd (nat_lit 0) xnv) xnv = false → False)) ∧ ((yCol (CK.int IntKind.u64) xnk fun (i : Nat) => AV.y IntKind.u64 (xk i)) = false → False)) ∧ (yNle (yNadd (nat_lit 0) xnk) xnk = false → False))) ∧ (yAnd (yNle pnk (nat_lit 80)) (yNle pnv (nat_lit 80)) = false → False)) ∧ ((yCol (CK.int IntKind.u64) pnv fun (i : Nat) => AV.y IntKind.u64 (pw i)) = false → False)) ∧ (yNle (yNadd (nat_lit 0) pnv) pnv = false → False)) ∧ ((yCol (CK.int IntKind.u64) pnk fun (i : Nat) => AV.y IntKind.u64 (pk i)) = false → False)) ∧ (yNle (yNadd (nat_lit 0) pnk) pnk = false → False))))) ∧ (rightC cs ct cf cl cp = false → False)) ∧ (yEq ps (0 : Int) = false → (rightC cs ct cf cl cp = true → (yLt (verC cs ct cf xs) (0 : Int) = true → rE L = true ∧ rN L = nat_lit 0 ∧ rN L = nat_lit 0 ∧ true = true ∧ true = true) ∧ (yLt (verC cs ct cf xs) (0 : Int) = false → (yEq xs (0 : Int) = true → rE L = true ∧ rN L = nat_lit 0 ∧ rN L = nat_lit 0 ∧ true = true ∧ true = true) ∧ (yEq xs (0 : Int) = false → (yEq ps xs = true → rE L = true ∧ rN L = nat_lit 0 ∧ rN L = nat_lit 0 ∧ true = true ∧ true = true) ∧ (yEq ps xs = false → (yNle (yNadd (nat_lit 0) pnk) pnk = true → ((yCol (CK.int IntKind.u64) pnk fun (i : Nat) => AV.y IntKind.u64 (pk i)) = true → (yNle (yNadd (nat_lit 0) pnv) pnv = true → ((yCol (CK.int IntKind.u64) pnv fun (i : Nat) => AV.y IntKind.u64 (pw i)) = true → (yAnd (yNle pnk (nat_lit 80)) (yNle pnv (nat_lit 80)) = true → (yNot (fitsC pi pnk (fun (i : Nat) => pk i) pnv cf) = true → rE L = true ∧ rN L = nat_lit 0 ∧ rN L = nat_lit 0 ∧ true = true ∧ true = true) ∧ (yNot (fitsC pi pnk (fun (i : Nat) => pk i) pnv cf) = false → (yNle (yNadd (nat_lit 0) xnk) xnk = true → ((yCol (CK.int IntKind.u64) xnk fun (i : Nat) => AV.y IntKind.u64 (xk i)) = true → (yNle (yNadd (nat_lit 0) xnv) xnv = true → ((yCol (CK.int IntKind.u64) xnv fun (i : Nat) => AV.y IntKind.u64 (xw i)) = true → (yAnd (yNle xnk (nat_lit 80)) (yNle xnv (nat_lit 80)) = true → (yNot (fitsC xi xnk (fun (i : Nat) => xk i) xnv cf) = true → rE L = true ∧ rN L = nat_lit 0 ∧ rN L = nat_lit 0 ∧ true = true ∧ true = true) ∧ (yNot (fitsC xi xnk (fun (i : Nat) => xk i) xnv cf) = false → (pi = true → (xi = true → (yEq (yInt pnv) (1 : Int) = true → (yNot (yEq (yInt xnv) (1 : Int)) = true → rE L = true ∧ rN L = nat_lit 0 ∧ rN L = nat_lit 0 ∧ true = true ∧ true = true) ∧ (yNot (yEq (yInt xnv) (1 : Int)) = false → (rightC cs ct cf cl cp = true → (yIn (0 : Int) xnv = true → (yNlt (yNadd (nat_lit 0) (nat_lit 0)) xnv = true → (rightC cs ct cf cl cp = true → (yAnd (yLe (0 : Int) xv) (yLt xv (18446744073709551616 : Int)) = true → (rightC cs ct cf cl cp = true → (yAnd (yLe (0 : Int) pv) (yLt pv (18446744073709551616 : Int)) = true → rE L = false ∧ nat_lit 0 = nat_lit 0 ∧ rN L = nat_lit 3 ∧ rN L = nat_lit 3 ∧ ((rA L (nat_lit 0) = valC cs ct cf ps (0 : Int) ∧ rB L (nat_lit 0) = xw (yNadd (nat_lit 0) (nat_lit 0)) ∧ True) ∧ (rA L (nat_lit 1) = verC cs ct cf xs ∧ rB L (nat_lit 1) = killC xv ∧ True) ∧ (rA L (nat_lit 2) = verC cs ct cf ps ∧ rB L (nat_lit 2) = bumpC pv ∧ True) ∧ True) ∧ true = true) ∧ (yAnd (yLe (0 : Int) pv) (yLt pv (18446744073709551616 : Int)) = false → False)) ∧ (rightC cs ct cf cl cp = false → False)) ∧ (yAnd (yLe (0 : Int) xv) (yLt xv (18446744073709551616 : Int)) = false → False)) ∧ (rightC cs ct cf cl cp = false → False)) ∧ (yNlt (yNadd (nat_lit 0) (nat_lit 0)) xnv = false → False)) ∧ (yIn (0 : Int) xnv = false → False)) ∧ (rightC cs ct cf cl cp = false → False))) ∧ (yEq (yInt pnv) (1 : Int) = false → rE L = true ∧ rN L = nat_lit 0 ∧ rN L = nat_lit 0 ∧ true = true ∧ true = true)) ∧ (xi = false → rE L = true ∧ rN L = nat_lit 0 ∧ rN L = nat_lit 0 ∧ true = true ∧ true = true)) ∧ (pi = false → rE L = true ∧ rN L = nat_lit 0 ∧ rN L = nat_lit 0 ∧ true = true ∧ true = true))) ∧ (yAnd (yNle xnk (nat_lit 80)) (yNle xnv (nat_lit 80)) = false → False)) ∧ ((yCol (CK.int IntKind.u64) xnv fun (i : Nat) => AV.y IntKind.u64 (xw i)) = false → False)) ∧ (yNle (yNadd (nat_lit 0) xnv) xnv = false → False)) ∧ ((yCol (CK.int IntKind.u64) xnk fun (i : Nat) => AV.y IntKind.u64 (xk i)) = false → False)) ∧ (yNle (yNadd (nat_lit 0) xnk) xnk = false → False))) ∧ (yAnd (yNle pnk (nat_lit 80)) (yNle pnv (nat_lit 80)) = false → False)) ∧ ((yCol (CK.int IntKind.u64) pnv fun (i : Nat) => AV.y IntKind.u64 (pw i)) = false → False)) ∧ (yNle (yNadd (nat_lit 0) pnv) pnv = false → False)) ∧ ((yCol (CK.int IntKind.u64) pnk fun (i : Nat) => AV.y IntKind.u64 (pk i)) = false → False)) ∧ (yNle (yNadd (nat_lit 0) pnk) pnk = false → False))))) ∧ (rightC cs ct cf cl cp = false → False)))) ∧ (rightC cs ct cf cl cp = false → False))
set_option maxRecDepth 100000 in
theorem goalShrP_eq : goalShrP = goalShrPV := by kernel_rfl
set_option maxRecDepth 100000 in
set_option maxHeartbeats 4000000 in
theorem goalShrP_vc : goalShrPV := by
  unfold goalShrPV
  intro cs ct cf cl cp ps pv pi pkn pnk pk pvn pnv pw pl xs xv xi xkn xnk xk xvn xnv xw xl L hr hpv hxv hp8 hx8 hL
  have hv1 := verC_or (a := ps) hr
  have hv2 := verC_or (a := xs) hr
  have hc := rightC_iff.1 hr
  have hU1 := hpv
  have hU2 := hxv
  have hN1 := hp8
  have hN2 := hx8
  simp only [yAnd_t, yLe_t, yLt_t, yNle_t] at hpv hxv hp8 hx8
  unfold shrL at hL
  by_cases hk : shrOk cs ps pi pnk pk pnv xs xi xnk xk xnv cf = true
  · rw [if_pos hk] at hL
    subst hL
    unfold shrOk at hk
    rw [decide_eq_true_iff] at hk
    obtain ⟨k1, k2, k3, k4, k5, rfl, rfl, k8, k9⟩ := hk
    simp only [yNot_t, yNot_f, yEq_t, yEq_f, yAnd_t, yAnd_f, yLt_t, yLt_f, yLe_t, yLe_f, yIn_t, yIn_f, yNlt_t, yNlt_f, yNle_t, yNle_f, yInt_e, yNadd_e, yCol_int, true_and, and_true, Nat.zero_add, Nat.add_zero, Nat.le_refl, forall_const, Bool.true_eq_false, false_implies, hr, k4, k5, false_or, or_false]
    repeat' (first | apply And.intro | intro _)
    all_goals first
      | rfl
      | (exfalso; omega)
      | omega
  · rw [if_neg hk] at hL
    subst hL
    simp only [yNot_t, yNot_f, yEq_t, yEq_f, yAnd_t, yAnd_f, yLt_t, yLt_f, yLe_t, yLe_f, yIn_t, yIn_f, yNlt_t, yNlt_f, yNle_t, yNle_f, yInt_e, yNadd_e, yCol_int, true_and, and_true, Nat.zero_add, Nat.add_zero, Nat.le_refl, forall_const, Bool.true_eq_false, false_implies, hr, false_or, or_false]
    repeat' (first | apply And.intro | intro _)
    all_goals first
      | rfl
      | (exfalso; omega)
      | omega
      | (exfalso
         apply hk
         unfold shrOk
         rw [decide_eq_true_iff]
         exact ⟨by omega, by omega, by omega, by assumption, by assumption, by assumption, by assumption, by omega, by omega⟩)
set_option maxRecDepth 100000 in
theorem goalShrP_tt : (goalShrP) = True := goalShrP_eq.trans (eq_true goalShrP_vc)
theorem goalShrP_ok : goalShrP := @ft' goalShrP goalShrP_tt
def goalShrRV : Prop := (∀ (cs ct cf cl cp ps pv : Int) (pi _pkn : Bool) (pnk : Nat) (pk : Nat → Int) (_pvn : Bool) (pnv : Nat) (pw : Nat → Int) (_pl xs xv : Int) (xi _xkn : Bool) (xnk : Nat) (xk : Nat → Int) (_xvn : Bool) (xnv : Nat) (xw : Nat → Int) (_xl : Int) (L : List (Int × Int)), rightC cs ct cf cl cp = true → yAnd (yLe (0 : Int) pv) (yLt pv (18446744073709551616 : Int)) = true → yAnd (yLe (0 : Int) xv) (yLt xv (18446744073709551616 : Int)) = true → yAnd (yNle pnk (nat_lit 80)) (yNle pnv (nat_lit 80)) = true → yAnd (yNle xnk (nat_lit 80)) (yNle xnv (nat_lit 80)) = true → L = shrL cs ct cf ps pv pi pnk pk pnv xs xv xi xnk xk xnv (xw (nat_lit 0)) → (yLt ps (0 : Int) = true → rE L = true ∧ rN L = nat_lit 0 ∧ rN L = nat_lit 0 ∧ true = true ∧ true = true) ∧ (yLt ps (0 : Int) = false → (yLt cs ps = true → rE L = true ∧ rN L = nat_lit 0 ∧ rN L = nat_lit 0 ∧ true = true ∧ true = true) ∧ (yLt cs ps = false → (yEq ps (0 : Int) = true → (yLt xs (0 : Int) = true → rE L = true ∧ rN L = nat_lit 0 ∧ rN L = nat_lit 0 ∧ true = true ∧ true = true) ∧ (yLt xs (0 : Int) = false → (yLt cs xs = true → rE L = true ∧ rN L = nat_lit 0 ∧ rN L = nat_lit 0 ∧ true = true ∧ true = true) ∧ (yLt cs xs = false → (yEq xs (0 : Int) = true → rE L = true ∧ rN L = nat_lit 0 ∧ rN L = nat_lit 0 ∧ true = true ∧ true = true) ∧ (yEq xs (0 : Int) = false → (yEq ps xs = true → rE L = true ∧ rN L = nat_lit 0 ∧ rN L = nat_lit 0 ∧ true = true ∧ true = true) ∧ (yEq ps xs = false → (yNle (yNadd (nat_lit 0) pnk) pnk = true → ((yCol (CK.int IntKind.u64) pnk fun (i : Nat) => AV.y IntKind.u64 (pk i)) = true → (yNle (yNadd (nat_lit 0) pnv) pnv = true → ((yCol (CK.int IntKind.u64) pnv fun (i : Nat) => AV.y IntKind.u64 (pw i)) = true → (yAnd (yNle pnk (nat_lit 80)) (yNle pnv (nat_lit 80)) = true → (yNot (fitsC pi pnk (fun (i : Nat) => pk i) pnv cf) = true → rE L = true ∧ rN L = nat_lit 0 ∧ rN L = nat_lit 0 ∧ true = true ∧ true = true) ∧ (yNot (fitsC pi pnk (fun (i : Nat) => pk i) pnv cf) = false → (yNle (yNadd (nat_lit 0) xnk) xnk = true → ((yCol (CK.int IntKind.u64) xnk fun (i : Nat) => AV.y IntKind.u64 (xk i)) = true → (yNle (yNadd (nat_lit 0) xnv) xnv = true → ((yCol (CK.int IntKind.u64) xnv fun (i : Nat) => AV.y IntKind.u64 (xw i)) = true → (yAnd (yNle xnk (nat_lit 80)) (yNle xnv (nat_lit 80)) = true → (yNot (fitsC xi xnk (fun (i : Nat) => xk i) xnv cf) = true → rE L = true ∧ rN L = nat_lit 0 ∧ rN L = nat_lit 0 ∧ true = true ∧ true = true) ∧ (yNot (fitsC xi xnk (fun (i : Nat) => xk i) xnv cf) = false → (yNot pi = true → rE L = true ∧ rN L = nat_lit 0 ∧ rN L = nat_lit 0 ∧ true = true ∧ true = true) ∧ (yNot pi = false → (yNot xi = true → rE L = true ∧ rN L = nat_lit 0 ∧ rN L = nat_lit 0 ∧ true = true ∧ true = true) ∧ (yNot xi = false → (yNot (yEq (yInt pnv) (1 : Int)) = true → rE L = true ∧ rN L = nat_lit 0 ∧ rN L = nat_lit 0 ∧ true = true ∧ true = true) ∧ (yNot (yEq (yInt pnv) (1 : Int)) = false → (yNot (yEq (yInt xnv) (1 : Int)) = true → rE L = true ∧ rN L = nat_lit 0 ∧ rN L = nat_lit 0 ∧ true = true ∧ true = true) ∧ (yNot (yEq (yInt xnv) (1 : Int)) = false → (yAnd (yAnd (rightC cs ct cf cl cp) (yAnd (yLe (0 : Int) ps) (yLe ps cs))) (yAnd (yLe (0 : Int) (0 : Int)) (yLt (0 : Int) cf)) = true → (yIn (0 : Int) xnv = true → (yNlt (yNadd (nat_lit 0) (nat_lit 0)) xnv = true → (yAnd (rightC cs ct cf cl cp) (yAnd (yLe (0 : Int) xs) (yLe xs cs)) = true → (yAnd (yLe (0 : Int) xv) (yLt xv (18446744073709551616 : Int)) = true → (yAnd (rightC cs ct cf cl cp) (yAnd (yLe (0 : Int) ps) (yLe ps cs)) = true → (yAnd (yLe (0 : Int) pv) (yLt pv (18446744073709551616 : Int)) = true → rE L = false ∧ nat_lit 0 = nat_lit 0 ∧ rN L = nat_lit 3 ∧ rN L = nat_lit 3 ∧ ((rA L (nat_lit 0) = valC cs ct cf ps (0 : Int) ∧ rB L (nat_lit 0) = xw (yNadd (nat_lit 0) (nat_lit 0)) ∧ True) ∧ (rA L (nat_lit 1) = verC cs ct cf xs ∧ rB L (nat_lit 1) = killC xv ∧ True) ∧ (rA L (nat_lit 2) = verC cs ct cf ps ∧ rB L (nat_lit 2) = bumpC pv ∧ True) ∧ True) ∧ true = true) ∧ (yAnd (yLe (0 : Int) pv) (yLt pv (18446744073709551616 : Int)) = false → False)) ∧ (yAnd (rightC cs ct cf cl cp) (yAnd (yLe (0 : Int) ps) (yLe ps cs)) = false → False)) ∧ (yAnd (yLe (0 : Int) xv) (yLt xv (18446744073709551616 : Int)) = false → False)) ∧ (yAnd (rightC cs ct cf cl cp) (yAnd (yLe (0 : Int) xs) (yLe xs cs)) = false → False)) ∧ (yNlt (yNadd (nat_lit 0) (nat_lit 0)) xnv = false → False)) ∧ (yIn (0 : Int) xnv = false → False)) ∧ (yAnd (yAnd (rightC cs ct cf cl cp) (yAnd (yLe (0 : Int) ps) (yLe ps cs))) (yAnd (yLe (0 : Int) (0 : Int)) (yLt (0 : Int) cf)) = false → False))))))) ∧ (yAnd (yNle xnk (nat_lit 80)) (yNle xnv (nat_lit 80)) = false → False)) ∧ ((yCol (CK.int IntKind.u64) xnv fun (i : Nat) => AV.y IntKind.u64 (xw i)) = false → False)) ∧ (yNle (yNadd (nat_lit 0) xnv) xnv = false → False)) ∧ ((yCol (CK.int IntKind.u64) xnk fun (i : Nat) => AV.y IntKind.u64 (xk i)) = false → False)) ∧ (yNle (yNadd (nat_lit 0) xnk) xnk = false → False))) ∧ (yAnd (yNle pnk (nat_lit 80)) (yNle pnv (nat_lit 80)) = false → False)) ∧ ((yCol (CK.int IntKind.u64) pnv fun (i : Nat) => AV.y IntKind.u64 (pw i)) = false → False)) ∧ (yNle (yNadd (nat_lit 0) pnv) pnv = false → False)) ∧ ((yCol (CK.int IntKind.u64) pnk fun (i : Nat) => AV.y IntKind.u64 (pk i)) = false → False)) ∧ (yNle (yNadd (nat_lit 0) pnk) pnk = false → False)))))) ∧ (yEq ps (0 : Int) = false → (yLt xs (0 : Int) = true → rE L = true ∧ rN L = nat_lit 0 ∧ rN L = nat_lit 0 ∧ true = true ∧ true = true) ∧ (yLt xs (0 : Int) = false → (yLt cs xs = true → rE L = true ∧ rN L = nat_lit 0 ∧ rN L = nat_lit 0 ∧ true = true ∧ true = true) ∧ (yLt cs xs = false → (yEq xs (0 : Int) = true → rE L = true ∧ rN L = nat_lit 0 ∧ rN L = nat_lit 0 ∧ true = true ∧ true = true) ∧ (yEq xs (0 : Int) = false → (yEq ps xs = true → rE L = true ∧ rN L = nat_lit 0 ∧ rN L = nat_lit 0 ∧ true = true ∧ true = true) ∧ (yEq ps xs = false → (yNle (yNadd (nat_lit 0) pnk) pnk = true → ((yCol (CK.int IntKind.u64) pnk fun (i : Nat) => AV.y IntKind.u64 (pk i)) = true → (yNle (yNadd (nat_lit 0) pnv) pnv = true → ((yCol (CK.int IntKind.u64) pnv fun (i : Nat) => AV.y IntKind.u64 (pw i)) = true → (yAnd (yNle pnk (nat_lit 80)) (yNle pnv (nat_lit 80)) = true → (yNot (fitsC pi pnk (fun (i : Nat) => pk i) pnv cf) = true → rE L = true ∧ rN L = nat_lit 0 ∧ rN L = nat_lit 0 ∧ true = true ∧ true = true) ∧ (yNot (fitsC pi pnk (fun (i : Nat) => pk i) pnv cf) = false → (yNle (yNadd (nat_lit 0) xnk) xnk = true → ((yCol (CK.int IntKind.u64) xnk fun (i : Nat) => AV.y IntKind.u64 (xk i)) = true → (yNle (yNadd (nat_lit 0) xnv) xnv = true → ((yCol (CK.int IntKind.u64) xnv fun (i : Nat) => AV.y IntKind.u64 (xw i)) = true → (yAnd (yNle xnk (nat_lit 80)) (yNle xnv (nat_lit 80)) = true → (yNot (fitsC xi xnk (fun (i : Nat) => xk i) xnv cf) = true → rE L = true ∧ rN L = nat_lit 0 ∧ rN L = nat_lit 0 ∧ true = true ∧ true = true) ∧ (yNot (fitsC xi xnk (fun (i : Nat) => xk i) xnv cf) = false → (yNot pi = true → rE L = true ∧ rN L = nat_lit 0 ∧ rN L = nat_lit 0 ∧ true = true ∧ true = true) ∧ (yNot pi = false → (yNot xi = true → rE L = true ∧ rN L = nat_lit 0 ∧ rN L = nat_lit 0 ∧ true = true ∧ true = true) ∧ (yNot xi = false → (yNot (yEq (yInt pnv) (1 : Int)) = true → rE L = true ∧ rN L = nat_lit 0 ∧ rN L = nat_lit 0 ∧ true = true ∧ true = true) ∧ (yNot (yEq (yInt pnv) (1 : Int)) = false → (yNot (yEq (yInt xnv) (1 : Int)) = true → rE L = true ∧ rN L = nat_lit 0 ∧ rN L = nat_lit 0 ∧ true = true ∧ true = true) ∧ (yNot (yEq (yInt xnv) (1 : Int)) = false → (yAnd (yAnd (rightC cs ct cf cl cp) (yAnd (yLe (0 : Int) ps) (yLe ps cs))) (yAnd (yLe (0 : Int) (0 : Int)) (yLt (0 : Int) cf)) = true → (yIn (0 : Int) xnv = true → (yNlt (yNadd (nat_lit 0) (nat_lit 0)) xnv = true → (yAnd (rightC cs ct cf cl cp) (yAnd (yLe (0 : Int) xs) (yLe xs cs)) = true → (yAnd (yLe (0 : Int) xv) (yLt xv (18446744073709551616 : Int)) = true → (yAnd (rightC cs ct cf cl cp) (yAnd (yLe (0 : Int) ps) (yLe ps cs)) = true → (yAnd (yLe (0 : Int) pv) (yLt pv (18446744073709551616 : Int)) = true → rE L = false ∧ nat_lit 0 = nat_lit 0 ∧ rN L = nat_lit 3 ∧ rN L = nat_lit 3 ∧ ((rA L (nat_lit 0) = valC cs ct cf ps (0 : Int) ∧ rB L (nat_lit 0) = xw (yNadd (nat_lit 0) (nat_lit 0)) ∧ True) ∧ (rA L (nat_lit 1) = verC cs ct cf xs ∧ rB L (nat_lit 1) = killC xv ∧ True) ∧ (rA L (nat_lit 2) = verC cs ct cf ps ∧ rB L (nat_lit 2) = bumpC pv ∧ True) ∧ True) ∧ true = true) ∧ (yAnd (yLe (0 : Int) pv) (yLt pv (18446744073709551616 : Int)) = false → False)) ∧ (yAnd (rightC cs ct cf cl cp) (yAnd (yLe (0 : Int) ps) (yLe ps cs)) = false → False)) ∧ (yAnd (yLe (0 : Int) xv) (yLt xv (18446744073709551616 : Int)) = false → False)) ∧ (yAnd (rightC cs ct cf cl cp) (yAnd (yLe (0 : Int) xs) (yLe xs cs)) = false → False)) ∧ (yNlt (yNadd (nat_lit 0) (nat_lit 0)) xnv = false → False)) ∧ (yIn (0 : Int) xnv = false → False)) ∧ (yAnd (yAnd (rightC cs ct cf cl cp) (yAnd (yLe (0 : Int) ps) (yLe ps cs))) (yAnd (yLe (0 : Int) (0 : Int)) (yLt (0 : Int) cf)) = false → False))))))) ∧ (yAnd (yNle xnk (nat_lit 80)) (yNle xnv (nat_lit 80)) = false → False)) ∧ ((yCol (CK.int IntKind.u64) xnv fun (i : Nat) => AV.y IntKind.u64 (xw i)) = false → False)) ∧ (yNle (yNadd (nat_lit 0) xnv) xnv = false → False)) ∧ ((yCol (CK.int IntKind.u64) xnk fun (i : Nat) => AV.y IntKind.u64 (xk i)) = false → False)) ∧ (yNle (yNadd (nat_lit 0) xnk) xnk = false → False))) ∧ (yAnd (yNle pnk (nat_lit 80)) (yNle pnv (nat_lit 80)) = false → False)) ∧ ((yCol (CK.int IntKind.u64) pnv fun (i : Nat) => AV.y IntKind.u64 (pw i)) = false → False)) ∧ (yNle (yNadd (nat_lit 0) pnv) pnv = false → False)) ∧ ((yCol (CK.int IntKind.u64) pnk fun (i : Nat) => AV.y IntKind.u64 (pk i)) = false → False)) ∧ (yNle (yNadd (nat_lit 0) pnk) pnk = false → False)))))))))
set_option maxRecDepth 100000 in
theorem goalShrR_eq : goalShrR = goalShrRV := by kernel_rfl
set_option maxRecDepth 100000 in
set_option maxHeartbeats 4000000 in
theorem goalShrR_vc : goalShrRV := by
  unfold goalShrRV
  intro cs ct cf cl cp ps pv pi pkn pnk pk pvn pnv pw pl xs xv xi xkn xnk xk xvn xnv xw xl L hr hpv hxv hp8 hx8 hL
  have hv1 := verC_or (a := ps) hr
  have hv2 := verC_or (a := xs) hr
  have hc := rightC_iff.1 hr
  have hU1 := hpv
  have hU2 := hxv
  have hN1 := hp8
  have hN2 := hx8
  simp only [yAnd_t, yLe_t, yLt_t, yNle_t] at hpv hxv hp8 hx8
  unfold shrL at hL
  by_cases hk : shrOk cs ps pi pnk pk pnv xs xi xnk xk xnv cf = true
  · rw [if_pos hk] at hL
    subst hL
    unfold shrOk at hk
    rw [decide_eq_true_iff] at hk
    obtain ⟨k1, k2, k3, k4, k5, rfl, rfl, k8, k9⟩ := hk
    simp only [yNot_t, yNot_f, yEq_t, yEq_f, yAnd_t, yAnd_f, yLt_t, yLt_f, yLe_t, yLe_f, yIn_t, yIn_f, yNlt_t, yNlt_f, yNle_t, yNle_f, yInt_e, yNadd_e, yCol_int, true_and, and_true, Nat.zero_add, Nat.add_zero, Nat.le_refl, forall_const, Bool.true_eq_false, false_implies, hr, k4, k5, false_or, or_false]
    repeat' (first | apply And.intro | intro _)
    all_goals first
      | rfl
      | (exfalso; omega)
      | omega
  · rw [if_neg hk] at hL
    subst hL
    simp only [yNot_t, yNot_f, yEq_t, yEq_f, yAnd_t, yAnd_f, yLt_t, yLt_f, yLe_t, yLe_f, yIn_t, yIn_f, yNlt_t, yNlt_f, yNle_t, yNle_f, yInt_e, yNadd_e, yCol_int, true_and, and_true, Nat.zero_add, Nat.add_zero, Nat.le_refl, forall_const, Bool.true_eq_false, false_implies, hr, false_or, or_false]
    repeat' (first | apply And.intro | intro _)
    all_goals first
      | rfl
      | (exfalso; omega)
      | omega
      | (exfalso
         apply hk
         unfold shrOk
         rw [decide_eq_true_iff]
         exact ⟨by omega, by omega, by omega, by assumption, by assumption, by assumption, by assumption, by omega, by omega⟩)
set_option maxRecDepth 100000 in
theorem goalShrR_tt : (goalShrR) = True := goalShrR_eq.trans (eq_true goalShrR_vc)
theorem goalShrR_ok : goalShrR := @ft' goalShrR goalShrR_tt
end Go.Proofs.YtfpokmglhaenaaaDoor.Ex
