/- The texts Qi, Qs, Qw, RunP: Contracts: plan.Root and the document's (proofs). plan.Split, plan.Root and the document's, as calls within the machine. The law PlanSplits, walked over lists that nobody writes. The example of .. -/
import Derived.Test.YtjhbimdaeofdlaaGreatDoorProg
import Derived.Test.YtjhbimdaeofdlaaGreatDoorU6
set_option linter.all false
set_option maxRecDepth 100000
section
namespace Go.Proofs.YtjhbimdaeofdlaaGreatDoor.Ex
open Go Go.RowKit
def goalRotPI_2 (cs : Int) (ct : Int) (cf : Int) (fs : Int) (fv : Int) (xnv : Nat) (xk : Nat → Int) (xw : Nat → Int) (xl : Int) := begL true cs ct cf fs fv (fun (i : Nat) => shf (hvM xnv) (fun (i : Nat) => xk i) i) (fun (i : Nat) => shf (hvM xnv) (fun (i : Nat) => xw i) i) (hvLk true xl) 0 (fun (i : Nat) => (0 : Int)) (fun (i : Nat) => (0 : Int)) (yNsub xnv (hvM xnv))
def goalRotPI_0 (cs : Int) (ct : Int) (cf : Int) (ts : Int) (tv : Int) (xk : Nat → Int) (xnv : Nat) (xs : Int) (xv : Int) (fs : Int) (fv : Int) (xw : Nat → Int) (xl : Int) := begL true cs ct cf ts tv (litI 1 [AV.y IntKind.u64 (xk (hvK true (hvM xnv)))] 0) (litI 1 [AV.y IntKind.u64 (handC xs xv), AV.y IntKind.u64 (freshC fs fv)] 0) 0 (rN (goalRotPI_2 cs ct cf fs fv xnv xk xw xl)) (fun (i : Nat) => rA (goalRotPI_2 cs ct cf fs fv xnv xk xw xl) i) (fun (i : Nat) => rB (goalRotPI_2 cs ct cf fs fv xnv xk xw xl) i) 2
def goalRotPI_5 (cs : Int) (ct : Int) (cf : Int) (ts : Int) (tv : Int) (xk : Nat → Int) (xnv : Nat) (xs : Int) (xv : Int) (fs : Int) (fv : Int) (xw : Nat → Int) (xl : Int) := yNadd (rN (goalRotPI_0 cs ct cf ts tv xk xnv xs xv fs fv xw xl)) 1
def goalRotPI_3 (cs : Int) (ct : Int) (cf : Int) (ts : Int) (tv : Int) (xk : Nat → Int) (xnv : Nat) (xs : Int) (xv : Int) (fs : Int) (fv : Int) (xw : Nat → Int) (xl : Int) := yNadd (yNadd (goalRotPI_5 cs ct cf ts tv xk xnv xs xv fs fv xw xl) 1) 1
def goalRotPI_4 (cs : Int) (ct : Int) (cf : Int) (ts : Int) (tv : Int) (xk : Nat → Int) (xnv : Nat) (xs : Int) (xv : Int) (fs : Int) (fv : Int) (xw : Nat → Int) (xl : Int) := yNadd (yNadd (goalRotPI_3 cs ct cf ts tv xk xnv xs xv fs fv xw xl) 1) 1
def goalRotPI_6 (xnk : Nat) (xk : Nat → Int) := yCol (CK.int IntKind.u64) xnk fun (i : Nat) => AV.y IntKind.u64 (xk i)
def goalRotPI_7 (xnv : Nat) (xw : Nat → Int) := yCol (CK.int IntKind.u64) xnv fun (i : Nat) => AV.y IntKind.u64 (xw i)
def goalRotPI_8 (fv : Int) (xnv : Nat) (xnk : Nat) := yAnd (yAnd (yLe 0 fv) (yLt fv 18446744073709551616)) (yAnd (yNle (yNsub xnv (hvM xnv)) 80) (yAnd (yNle 0 1000) (yAnd (yIff true (yNeq 0 0)) (yNeq (yNsub xnv (hvM xnv)) (yNadd (yNsub xnk (hvM xnv)) 1)))))
def goalRotPI_1 (cs : Int) (ct : Int) (cf : Int) (cl : Int) (cp : Int) (xs : Int) (L : List (Int × Int)) (ps : Int) (fs : Int) (ts : Int) (pnk : Nat) (pk : Nat → Int) (pnv : Nat) (pw : Nat → Int) (pi : Bool) (xnk : Nat) (xk : Nat → Int) (xnv : Nat) (xw : Nat → Int) (xkn : Bool) (xvn : Bool) (fnk : Nat) (fk : Nat → Int) (fnv : Nat) (fw : Nat → Int) (fv : Int) (xv : Int) (xl : Int) (tnk : Nat) (tk : Nat → Int) (tnv : Nat) (tw : Nat → Int) (tv : Int) (pv : Int) := rightC cs ct cf cl cp = true → (yLt (verC cs ct cf xs) (0 : Int) = true → rE L = true ∧ rN L = nat_lit 0 ∧ rN L = nat_lit 0 ∧ true = true ∧ true = true) ∧ (yLt (verC cs ct cf xs) (0 : Int) = false → (yEq xs (0 : Int) = true → rE L = true ∧ rN L = nat_lit 0 ∧ rN L = nat_lit 0 ∧ true = true ∧ true = true) ∧ (yEq xs (0 : Int) = false → (yEq ps xs = true → rE L = true ∧ rN L = nat_lit 0 ∧ rN L = nat_lit 0 ∧ true = true ∧ true = true) ∧ (yEq ps xs = false → mst (rightC cs ct cf cl cp) ((yLt (verC cs ct cf fs) (0 : Int) = true → rE L = true ∧ rN L = nat_lit 0 ∧ rN L = nat_lit 0 ∧ true = true ∧ true = true) ∧ (yLt (verC cs ct cf fs) (0 : Int) = false → (yEq fs (0 : Int) = true → rE L = true ∧ rN L = nat_lit 0 ∧ rN L = nat_lit 0 ∧ true = true ∧ true = true) ∧ (yEq fs (0 : Int) = false → (yEq ps fs = true → rE L = true ∧ rN L = nat_lit 0 ∧ rN L = nat_lit 0 ∧ true = true ∧ true = true) ∧ (yEq ps fs = false → (yEq xs fs = true → rE L = true ∧ rN L = nat_lit 0 ∧ rN L = nat_lit 0 ∧ true = true ∧ true = true) ∧ (yEq xs fs = false → mst (rightC cs ct cf cl cp) ((yLt (verC cs ct cf ts) (0 : Int) = true → rE L = true ∧ rN L = nat_lit 0 ∧ rN L = nat_lit 0 ∧ true = true ∧ true = true) ∧ (yLt (verC cs ct cf ts) (0 : Int) = false → (yEq ts (0 : Int) = true → rE L = true ∧ rN L = nat_lit 0 ∧ rN L = nat_lit 0 ∧ true = true ∧ true = true) ∧ (yEq ts (0 : Int) = false → (yEq ps ts = true → rE L = true ∧ rN L = nat_lit 0 ∧ rN L = nat_lit 0 ∧ true = true ∧ true = true) ∧ (yEq ps ts = false → (yEq xs ts = true → rE L = true ∧ rN L = nat_lit 0 ∧ rN L = nat_lit 0 ∧ true = true ∧ true = true) ∧ (yEq xs ts = false → (yEq fs ts = true → rE L = true ∧ rN L = nat_lit 0 ∧ rN L = nat_lit 0 ∧ true = true ∧ true = true) ∧ (yEq fs ts = false → mst (yCol (CK.int IntKind.u64) pnk fun (i : Nat) => AV.y IntKind.u64 (pk i)) (mst (yCol (CK.int IntKind.u64) pnv fun (i : Nat) => AV.y IntKind.u64 (pw i)) (mst (yAnd (yNle pnk 80) (yNle pnv 80)) ((yNot (fitsC pi pnk (fun (i : Nat) => pk i) pnv cf) = true → rE L = true ∧ rN L = nat_lit 0 ∧ rN L = nat_lit 0 ∧ true = true ∧ true = true) ∧ (yNot (fitsC pi pnk (fun (i : Nat) => pk i) pnv cf) = false → mst (goalRotPI_6 xnk xk) (mst (goalRotPI_7 xnv xw) (mst (yAnd (yNle xnk 80) (yNle xnv 80)) ((yNot (fitsC true xnk (fun (i : Nat) => xk i) xnv cf) = true → rE L = true ∧ rN L = nat_lit 0 ∧ rN L = nat_lit 0 ∧ true = true ∧ true = true) ∧ (yNot (fitsC true xnk (fun (i : Nat) => xk i) xnv cf) = false → (pi = true → (yEq (yInt pnv) (1 : Int) = true → (yNot (yLe 2 (yInt xnv)) = true → rE L = true ∧ rN L = nat_lit 0 ∧ rN L = nat_lit 0 ∧ true = true ∧ true = true) ∧ (yNot (yLe 2 (yInt xnv)) = false → mst (goalRotPI_6 xnk xk) (mst (goalRotPI_7 xnv xw) (mst (yAnd (yAnd (yNle 2 xnv) (yNle xnv 80)) (yAnd (yAnd (nilOk xkn xnk) (nilOk xvn xnv)) (yAnd (yNeq xnv (yNadd xnk 1)) (risesB (fun (i : Nat) => xk i) xnk)))) (mst (yCol (CK.int IntKind.u64) fnk fun (i : Nat) => AV.y IntKind.u64 (fk i)) (mst (yCol (CK.int IntKind.u64) fnv fun (i : Nat) => AV.y IntKind.u64 (fw i)) (mst (yCol (CK.int IntKind.u64) (yNsub xnk (hvM xnv)) fun (i : Nat) => AV.y IntKind.u64 (shf (hvM xnv) (fun (i : Nat) => xk i) i)) (mst (yCol (CK.int IntKind.u64) (yNsub xnv (hvM xnv)) fun (i : Nat) => AV.y IntKind.u64 (shf (hvM xnv) (fun (i : Nat) => xw i) i)) (mst (yAnd (rightC cs ct cf cl cp) (goalRotPI_8 fv xnv xnk)) (mst (goalRotPI_6 xnk xk) (mst (goalRotPI_7 xnv xw) (mst (yAnd (yLe 0 xv) (yLt xv 18446744073709551616)) (mst (yCol (CK.int IntKind.u64) fnk fun (i : Nat) => AV.y IntKind.u64 (fk i)) (mst (yCol (CK.int IntKind.u64) fnv fun (i : Nat) => AV.y IntKind.u64 (fw i)) (mst (yAnd (yLe 0 fv) (yLt fv 18446744073709551616)) (mst (yNeq 0 0) (mst (yNeq (rN (goalRotPI_2 cs ct cf fs fv xnv xk xw xl)) (rN (goalRotPI_2 cs ct cf fs fv xnv xk xw xl))) (mst (yCol (CK.int IntKind.i64) (rN (goalRotPI_2 cs ct cf fs fv xnv xk xw xl)) fun (i : Nat) => AV.y IntKind.i64 (rA (goalRotPI_2 cs ct cf fs fv xnv xk xw xl) i)) (mst (yCol (CK.int IntKind.u64) (rN (goalRotPI_2 cs ct cf fs fv xnv xk xw xl)) fun (i : Nat) => AV.y IntKind.u64 (rB (goalRotPI_2 cs ct cf fs fv xnv xk xw xl) i)) (mst (yCol (CK.int IntKind.u64) tnk fun (i : Nat) => AV.y IntKind.u64 (tk i)) (mst (yCol (CK.int IntKind.u64) tnv fun (i : Nat) => AV.y IntKind.u64 (tw i)) (mst (yAnd (rightC cs ct cf cl cp) (yAnd (yAnd (yLe 0 tv) (yLt tv 18446744073709551616)) (yAnd (yNle 2 80) (yAnd (yNle (rN (goalRotPI_2 cs ct cf fs fv xnv xk xw xl)) 1000) (yAnd (yIff (rE (goalRotPI_2 cs ct cf fs fv xnv xk xw xl)) (yNeq (rN (goalRotPI_2 cs ct cf fs fv xnv xk xw xl)) 0)) (yNeq 2 (yNadd 1 1))))))) (mst (rightC cs ct cf cl cp) (mst (yCol (CK.int IntKind.u64) tnk fun (i : Nat) => AV.y IntKind.u64 (tk i)) (mst (yCol (CK.int IntKind.u64) tnv fun (i : Nat) => AV.y IntKind.u64 (tw i)) (mst (yAnd (yLe 0 tv) (yLt tv 18446744073709551616)) (mst (yNeq (rN (goalRotPI_0 cs ct cf ts tv xk xnv xs xv fs fv xw xl)) (rN (goalRotPI_0 cs ct cf ts tv xk xnv xs xv fs fv xw xl))) (mst (yGrow (goalRotPI_5 cs ct cf ts tv xk xnv xs xv fs fv xw xl) 16) (mst (rightC cs ct cf cl cp) (mst (true) (mst (yNeq (goalRotPI_5 cs ct cf ts tv xk xnv xs xv fs fv xw xl) (goalRotPI_5 cs ct cf ts tv xk xnv xs xv fs fv xw xl)) (mst (yGrow (yNadd (goalRotPI_5 cs ct cf ts tv xk xnv xs xv fs fv xw xl) 1) 16) (mst (rightC cs ct cf cl cp) (mst (yAnd (yLe 0 (renewC fv)) (yLt (renewC fv) 18446744073709551616)) (mst (yNeq (yNadd (goalRotPI_5 cs ct cf ts tv xk xnv xs xv fs fv xw xl) 1) (yNadd (goalRotPI_5 cs ct cf ts tv xk xnv xs xv fs fv xw xl) 1)) (mst (yGrow (goalRotPI_3 cs ct cf ts tv xk xnv xs xv fs fv xw xl) 16) (mst (rightC cs ct cf cl cp) (mst (yAnd (yLe 0 (renewC tv)) (yLt (renewC tv) 18446744073709551616)) (mst (yNeq (goalRotPI_3 cs ct cf ts tv xk xnv xs xv fs fv xw xl) (goalRotPI_3 cs ct cf ts tv xk xnv xs xv fs fv xw xl)) (mst (yGrow (yNadd (goalRotPI_3 cs ct cf ts tv xk xnv xs xv fs fv xw xl) 1) 16) (mst (rightC cs ct cf cl cp) (mst (yAnd (yLe 0 xv) (yLt xv 18446744073709551616)) (mst (yNeq (yNadd (goalRotPI_3 cs ct cf ts tv xk xnv xs xv fs fv xw xl) 1) (yNadd (goalRotPI_3 cs ct cf ts tv xk xnv xs xv fs fv xw xl) 1)) (mst (yGrow (goalRotPI_4 cs ct cf ts tv xk xnv xs xv fs fv xw xl) 16) (mst (rightC cs ct cf cl cp) (mst (yAnd (yLe 0 pv) (yLt pv 18446744073709551616)) (mst (yNeq (goalRotPI_4 cs ct cf ts tv xk xnv xs xv fs fv xw xl) (goalRotPI_4 cs ct cf ts tv xk xnv xs xv fs fv xw xl)) (mst (yGrow (yNadd (goalRotPI_4 cs ct cf ts tv xk xnv xs xv fs fv xw xl) 1) 16) (rE L = yAnd (yAnd (yAnd (yAnd (yAnd (yAnd (rE (goalRotPI_0 cs ct cf ts tv xk xnv xs xv fs fv xw xl)) (yNeq 1 0)) (yNeq 1 0)) (yNeq 1 0)) (yNeq 1 0)) (yNeq 1 0)) (yNeq 1 0) ∧ nat_lit 0 = nat_lit 0 ∧ rN L = yNadd (goalRotPI_4 cs ct cf ts tv xk xnv xs xv fs fv xw xl) 1 ∧ rN L = yNadd (goalRotPI_4 cs ct cf ts tv xk xnv xs xv fs fv xw xl) 1 ∧ (∀ (i : Nat), Nat.succ i ≤ rN L → rA L i = ySel (yNlt i (goalRotPI_4 cs ct cf ts tv xk xnv xs xv fs fv xw xl)) (ySel (yNlt i (yNadd (goalRotPI_3 cs ct cf ts tv xk xnv xs xv fs fv xw xl) 1)) (ySel (yNlt i (goalRotPI_3 cs ct cf ts tv xk xnv xs xv fs fv xw xl)) (ySel (yNlt i (yNadd (goalRotPI_5 cs ct cf ts tv xk xnv xs xv fs fv xw xl) 1)) (ySel (yNlt i (goalRotPI_5 cs ct cf ts tv xk xnv xs xv fs fv xw xl)) (ySel (yNlt i (rN (goalRotPI_0 cs ct cf ts tv xk xnv xs xv fs fv xw xl))) (rA (goalRotPI_0 cs ct cf ts tv xk xnv xs xv fs fv xw xl) i) (valC cs ct cf ps 0)) (shapeC cs ct cf xs)) (verC cs ct cf fs)) (verC cs ct cf ts)) (verC cs ct cf xs)) (verC cs ct cf ps) ∧ rB L i = ySel (yNlt i (goalRotPI_4 cs ct cf ts tv xk xnv xs xv fs fv xw xl)) (ySel (yNlt i (yNadd (goalRotPI_3 cs ct cf ts tv xk xnv xs xv fs fv xw xl) 1)) (ySel (yNlt i (goalRotPI_3 cs ct cf ts tv xk xnv xs xv fs fv xw xl)) (ySel (yNlt i (yNadd (goalRotPI_5 cs ct cf ts tv xk xnv xs xv fs fv xw xl) 1)) (ySel (yNlt i (goalRotPI_5 cs ct cf ts tv xk xnv xs xv fs fv xw xl)) (ySel (yNlt i (rN (goalRotPI_0 cs ct cf ts tv xk xnv xs xv fs fv xw xl))) (rB (goalRotPI_0 cs ct cf ts tv xk xnv xs xv fs fv xw xl) i) (freshC ts tv)) (packC true (yInt (hvM xnv)))) (bumpC (renewC fv))) (bumpC (renewC tv))) (bumpC xv)) (bumpC pv) ∧ True) ∧ true = true))))))))))))))))))))))))))))))))))))))))))))))))) ∧ (yEq (yInt pnv) (1 : Int) = false → rE L = true ∧ rN L = nat_lit 0 ∧ rN L = nat_lit 0 ∧ true = true ∧ true = true)) ∧ (pi = false → rE L = true ∧ rN L = nat_lit 0 ∧ rN L = nat_lit 0 ∧ true = true ∧ true = true)))))))))))))))))))))))
def goalRotPIV : Prop := (∀ (cs ct cf cl cp ps pv : Int) (pi pkn : Bool) (pnk : Nat) (pk : Nat → Int) (pvn : Bool) (pnv : Nat) (pw : Nat → Int) (pl xs xv : Int) (xkn : Bool) (xnk : Nat) (xk : Nat → Int) (xvn : Bool) (xnv : Nat) (xw : Nat → Int) (xl fs fv : Int) (fi fkn : Bool) (fnk : Nat) (fk : Nat → Int) (fvn : Bool) (fnv : Nat) (fw : Nat → Int) (fl ts tv : Int) (ti tkn : Bool) (tnk : Nat) (tk : Nat → Int) (tvn : Bool) (tnv : Nat) (tw : Nat → Int) (tl : Int) (L : List (Int × Int)), rightC cs ct cf cl cp = true → yAnd (yLe 0 pv) (yLt pv 18446744073709551616) = true → yAnd (yLe 0 xv) (yLt xv 18446744073709551616) = true → yAnd (yLe 0 fv) (yLt fv 18446744073709551616) = true → yAnd (yLe 0 (renewC fv)) (yLt (renewC fv) 18446744073709551616) = true → yAnd (yLe 0 tv) (yLt tv 18446744073709551616) = true → yAnd (yLe 0 (renewC tv)) (yLt (renewC tv) 18446744073709551616) = true → yAnd (yNle pnk 80) (yNle pnv 80) = true → yAnd (yAnd (yNle xnk 80) (yNle xnv 80)) (yAnd (nilOk xkn xnk) (nilOk xvn xnv)) = true → L = rotL cs ct cf ps pv pi pnk pk pnv xs xv true xnk xk xnv xw xl fs fv ts tv → mst (rightC cs ct cf cl cp) ((yLt (verC cs ct cf ps) (0 : Int) = true → rE L = true ∧ rN L = nat_lit 0 ∧ rN L = nat_lit 0 ∧ true = true ∧ true = true) ∧ (yLt (verC cs ct cf ps) (0 : Int) = false → (yEq ps (0 : Int) = true → (goalRotPI_1 cs ct cf cl cp xs L ps fs ts pnk pk pnv pw pi xnk xk xnv xw xkn xvn fnk fk fnv fw fv xv xl tnk tk tnv tw tv pv) ∧ (rightC cs ct cf cl cp = false → False)) ∧ (yEq ps (0 : Int) = false → (goalRotPI_1 cs ct cf cl cp xs L ps fs ts pnk pk pnv pw pi xnk xk xnv xw xkn xvn fnk fk fnv fw fv xv xl tnk tk tnv tw tv pv) ∧ (rightC cs ct cf cl cp = false → False)))))
theorem goalRotPI_eq : goalRotPI = goalRotPIV := by kernel_rfl
set_option maxHeartbeats 16000000 in
theorem goalRotPI_vc : goalRotPIV := by
 unfold goalRotPIV goalRotPI_1 goalRotPI_8 goalRotPI_7 goalRotPI_6 goalRotPI_4 goalRotPI_3 goalRotPI_5 goalRotPI_0 goalRotPI_2
 intro cs ct cf cl cp ps pv pi pkn pnk pk pvn pnv pw pl xs xv xkn xnk xk xvn xnv xw xl fs fv fi fkn fnk fk fvn fnv fw fl ts tv ti tkn tnk tk tvn tnv tw tl L hr hpv hxv hfv hrv htv hrt hp8 hx8 hL
 have hv1 := verC_or (a := ps) hr
 have hv2 := verC_or (a := xs) hr
 have hv3 := verC_or (a := fs) hr
 have hv4 := verC_or (a := ts) hr
 have hc := rightC_iff.1 hr
 simp only [yAnd_t, yLe_t, yLt_t, yNle_t, nilOk_t] at hpv hxv hfv hrv hp8 hx8 htv hrt
 have hsp : rotOk cs cf ps pi pnk pk pnv xs true xnk xk xnv fs ts = true ↔ (apart4 cs ps xs fs ts = true ∧ fitsC pi pnk pk pnv cf = true ∧ fitsC true xnk xk xnv cf = true ∧ pi = true ∧ pnv = 1 ∧ 2 ≤ xnv) := decide_eq_true_iff
 rw [apart4_t] at hsp
 unfold rotL at hL
 have hT : (true = yNeq 0 0) = True := eq_true rfl
 cases hfp : fitsC pi pnk pk pnv cf
 · rw [if_neg (fun h => by rw [hsp, hfp] at h; exact absurd h.2.1 (by simp))] at hL
   subst hL
   simp only [vS, forall_const, hr, hfp, yCol_int, hp8, false_or, or_false, not_true_eq_false]
   repeat' (first | apply And.intro | intro _)
   all_goals first | rfl | trivial | omega | (exfalso; omega)
 cases hfx : fitsC true xnk xk xnv cf
 · rw [if_neg (fun h => by rw [hsp, hfx] at h; exact absurd h.2.2.1 (by simp))] at hL
   subst hL
   simp only [vS, forall_const, hr, hfp, hfx, yCol_int, hp8, hx8, false_or, or_false, not_true_eq_false]
   repeat' (first | apply And.intro | intro _)
   all_goals first | rfl | trivial | omega | (exfalso; omega)
 have kx := fits_t.1 hfx
 have hrs : risesB xk xnk = true := risesB_iff.2 kx.2.2
 have kx2 : xnv = xnk + 1 := by have := kx.2.1; simpa using this
 have neg : ¬ (pi = true ∧ pnv = 1 ∧ 2 ≤ xnv) → L = [] := fun hn => by rw [hL, if_neg (fun h => by rw [hsp] at h; exact hn h.2.2.2)]
 cases pi with
 | false =>
   obtain rfl := neg (fun h => by cases h.1)
   clear hsp hL neg
   simp only [vS, forall_const, hr, hfp, hfx, yCol_int, hp8, hx8, false_or, or_false, not_true_eq_false, Bool.false_eq_true, false_implies]
   repeat' (first | apply And.intro | intro _)
   all_goals first | rfl | trivial | omega | (exfalso; omega)
 | true =>
 by_cases hp1 : (pnv : Int) = 1
 case neg =>
   obtain rfl := neg (fun h => hp1 (by omega))
   clear hsp hL neg
   simp only [vS, forall_const, hr, hfp, hfx, hp1, yCol_int, hp8, hx8, false_or, or_false, not_true_eq_false, false_implies, not_false_eq_true]
   repeat' (first | apply And.intro | intro _)
   all_goals first | rfl | trivial | omega | (exfalso; omega)
 by_cases h2 : 2 ≤ (xnv : Int)
 case neg =>
   obtain rfl := neg (fun h => h2 (by omega))
   clear hsp hL neg
   have h2b : (xnv : Int) < 2 := by omega
   simp only [vS, forall_const, hr, hfp, hfx, h2, h2b, yCol_int, hp8, hx8, false_or, or_false, not_true_eq_false, false_implies, not_false_eq_true]
   repeat' (first | apply And.intro | intro _)
   all_goals first | rfl | trivial | omega | (exfalso; omega)
 clear neg
 have hp1 : pnv = 1 := by omega
 have h2 : 2 ≤ xnv := by omega
 have hm := hv_bnd h2
 have hkn : nilOk xkn xnk = true := nilOk_t.2 hx8.2.1
 have hvn : nilOk xvn xnv = true := nilOk_t.2 hx8.2.2
 have neg : ¬ ((0 ≤ ps ∧ ps ≤ cs) ∧ (1 ≤ xs ∧ xs ≤ cs) ∧ (1 ≤ fs ∧ fs ≤ cs) ∧ (1 ≤ ts ∧ ts ≤ cs) ∧ ps ≠ xs ∧ ps ≠ fs ∧ xs ≠ fs ∧ ps ≠ ts ∧ xs ≠ ts ∧ fs ≠ ts) → L = [] := fun hn => by rw [hL, if_neg (fun h => by rw [hsp] at h; exact hn h.1)]
 have F := And.intro hr (And.intro hfp (And.intro hfx (And.intro hrs (And.intro hkn (And.intro hvn (And.intro hp8 hx8))))))
 by_cases c0 : ps < 0
 case pos =>
   have B := slLo hv1 c0 hc.1
   obtain rfl := neg (by omega)
   clear hsp hL neg
   simp only [vS, forall_const, vT, F, B]
   repeat' (first | apply And.intro | intro _)
   all_goals first | rfl | trivial | (exfalso; omega)
 by_cases c1 : cs < ps
 case pos =>
   have B := slHi hv1 c1 hc.1
   obtain rfl := neg (by omega)
   clear hsp hL neg
   simp only [vS, forall_const, vT, F, B]
   repeat' (first | apply And.intro | intro _)
   all_goals first | rfl | trivial | (exfalso; omega)
 have G0 := slTo hv1 c0 c1
 by_cases c0 : xs < 0
 case pos =>
   have B := slLo hv2 c0 hc.1
   obtain rfl := neg (by omega)
   clear hsp hL neg
   simp only [vS, forall_const, vT, F, G0, B]
   repeat' (first | apply And.intro | intro _)
   all_goals first | rfl | trivial | (exfalso; omega)
 by_cases c1 : cs < xs
 case pos =>
   have B := slHi hv2 c1 hc.1
   obtain rfl := neg (by omega)
   clear hsp hL neg
   simp only [vS, forall_const, vT, F, G0, B]
   repeat' (first | apply And.intro | intro _)
   all_goals first | rfl | trivial | (exfalso; omega)
 by_cases c2 : xs = 0
 case pos =>
   have B := slZe hv2 c2 hc.1
   obtain rfl := neg (by omega)
   clear hsp hL neg
   simp only [vS, forall_const, vT, F, G0, B]
   repeat' (first | apply And.intro | intro _)
   all_goals first | rfl | trivial | (exfalso; omega)
 have G1 := slIn hv2 c0 c1 c2
 by_cases c3 : ps = xs
 case pos =>
   have B := eq_true c3
   obtain rfl := neg (by omega)
   clear hsp hL neg
   simp only [vS, forall_const, vT, F, G0, G1, B]
   repeat' (first | apply And.intro | intro _)
   all_goals first | rfl | trivial | (exfalso; omega)
 have E01 := eq_false c3
 by_cases c0 : fs < 0
 case pos =>
   have B := slLo hv3 c0 hc.1
   obtain rfl := neg (by omega)
   clear hsp hL neg
   simp only [vS, forall_const, vT, F, G0, G1, E01, B]
   repeat' (first | apply And.intro | intro _)
   all_goals first | rfl | trivial | (exfalso; omega)
 by_cases c1 : cs < fs
 case pos =>
   have B := slHi hv3 c1 hc.1
   obtain rfl := neg (by omega)
   clear hsp hL neg
   simp only [vS, forall_const, vT, F, G0, G1, E01, B]
   repeat' (first | apply And.intro | intro _)
   all_goals first | rfl | trivial | (exfalso; omega)
 by_cases c2 : fs = 0
 case pos =>
   have B := slZe hv3 c2 hc.1
   obtain rfl := neg (by omega)
   clear hsp hL neg
   simp only [vS, forall_const, vT, F, G0, G1, E01, B]
   repeat' (first | apply And.intro | intro _)
   all_goals first | rfl | trivial | (exfalso; omega)
 have G2 := slIn hv3 c0 c1 c2
 by_cases c3 : ps = fs
 case pos =>
   have B := eq_true c3
   obtain rfl := neg (by omega)
   clear hsp hL neg
   simp only [vS, forall_const, vT, F, G0, G1, E01, G2, B]
   repeat' (first | apply And.intro | intro _)
   all_goals first | rfl | trivial | (exfalso; omega)
 have E02 := eq_false c3
 by_cases c3 : xs = fs
 case pos =>
   have B := eq_true c3
   obtain rfl := neg (by omega)
   clear hsp hL neg
   simp only [vS, forall_const, vT, F, G0, G1, E01, G2, E02, B]
   repeat' (first | apply And.intro | intro _)
   all_goals first | rfl | trivial | (exfalso; omega)
 have E12 := eq_false c3
 by_cases c0 : ts < 0
 case pos =>
   have B := slLo hv4 c0 hc.1
   obtain rfl := neg (by omega)
   clear hsp hL neg
   simp only [vS, forall_const, vT, F, G0, G1, E01, G2, E02, E12, B]
   repeat' (first | apply And.intro | intro _)
   all_goals first | rfl | trivial | (exfalso; omega)
 by_cases c1 : cs < ts
 case pos =>
   have B := slHi hv4 c1 hc.1
   obtain rfl := neg (by omega)
   clear hsp hL neg
   simp only [vS, forall_const, vT, F, G0, G1, E01, G2, E02, E12, B]
   repeat' (first | apply And.intro | intro _)
   all_goals first | rfl | trivial | (exfalso; omega)
 by_cases c2 : ts = 0
 case pos =>
   have B := slZe hv4 c2 hc.1
   obtain rfl := neg (by omega)
   clear hsp hL neg
   simp only [vS, forall_const, vT, F, G0, G1, E01, G2, E02, E12, B]
   repeat' (first | apply And.intro | intro _)
   all_goals first | rfl | trivial | (exfalso; omega)
 have G3 := slIn hv4 c0 c1 c2
 by_cases c3 : ps = ts
 case pos =>
   have B := eq_true c3
   obtain rfl := neg (by omega)
   clear hsp hL neg
   simp only [vS, forall_const, vT, F, G0, G1, E01, G2, E02, E12, G3, B]
   repeat' (first | apply And.intro | intro _)
   all_goals first | rfl | trivial | (exfalso; omega)
 have E03 := eq_false c3
 by_cases c3 : xs = ts
 case pos =>
   have B := eq_true c3
   obtain rfl := neg (by omega)
   clear hsp hL neg
   simp only [vS, forall_const, vT, F, G0, G1, E01, G2, E02, E12, G3, E03, B]
   repeat' (first | apply And.intro | intro _)
   all_goals first | rfl | trivial | (exfalso; omega)
 have E13 := eq_false c3
 by_cases c3 : fs = ts
 case pos =>
   have B := eq_true c3
   obtain rfl := neg (by omega)
   clear hsp hL neg
   simp only [vS, forall_const, vT, F, G0, G1, E01, G2, E02, E12, G3, E03, E13, B]
   repeat' (first | apply And.intro | intro _)
   all_goals first | rfl | trivial | (exfalso; omega)
 have E23 := eq_false c3
 clear neg
 have hap : (0 ≤ ps ∧ ps ≤ cs) ∧ (1 ≤ xs ∧ xs ≤ cs) ∧ (1 ≤ fs ∧ fs ≤ cs) ∧ (1 ≤ ts ∧ ts ≤ cs) ∧ ps ≠ xs ∧ ps ≠ fs ∧ xs ≠ fs ∧ ps ≠ ts ∧ xs ≠ ts ∧ fs ≠ ts := by omega
 rw [if_pos (hsp.2 ⟨hap, hfp, hfx, rfl, hp1, h2⟩)] at hL
 clear hsp
 have hK : splK true xk xnv = xk (hvK true (hvM xnv)) := rfl
 have hb := begL_len (i := true) (cs := cs) (ct := ct) (cf := cf) (s := fs) (v := fv) (k := shf (hvM xnv) xk) (w := shf (hvM xnv) xw) (l := hvLk true xl) (n0 := 0) (a0 := fun _ => 0) (b0 := fun _ => 0) (nv := xnv - hvM xnv)
 obtain ⟨B, hB⟩ : ∃ B, B = begL true cs ct cf fs fv (shf (hvM xnv) xk) (shf (hvM xnv) xw) (hvLk true xl) 0 (fun _ => 0) (fun _ => 0) (xnv - hvM xnv) := ⟨_, rfl⟩
 rw [← hB] at hb
 have hI : (rE B = yNeq (rN B) 0) = True := eq_true (by rw [hb.2.2]; unfold yNeq; rw [eq_comm, decide_eq_false_iff_not]; omega)
 obtain ⟨X, hX⟩ : ∃ X, X = begL true cs ct cf ts tv (litI 1 [AV.y IntKind.u64 (xk (hvK true (hvM xnv)))] 0) (litI 1 [AV.y IntKind.u64 (handC xs xv), AV.y IntKind.u64 (freshC fs fv)] 0) 0 (rN B) (rA B) (rB B) 2 := ⟨_, rfl⟩
 have hL2 : L = X ++ [(valC cs ct cf ps 0, freshC ts tv)] ++ [(shapeC cs ct cf xs, packC true (hvM xnv : Nat))] ++ [(verC cs ct cf fs, bumpC (renewC fv))] ++ [(verC cs ct cf ts, bumpC (renewC tv))] ++ [(verC cs ct cf xs, bumpC xv)] ++ [(verC cs ct cf ps, bumpC pv)] := by
   rw [hL, hX, hK]
   have hBB : splB cs ct cf xs true xk xnv xw xl fs fv = B := by rw [hB]; simp [splB]
   rw [hBB, begL_two (k := fun _ => xk (hvK true (hvM xnv))) (k' := litI 1 [AV.y IntKind.u64 (xk (hvK true (hvM xnv)))] 0) (w := rotW xs xv fs fv) (w' := litI 1 [AV.y IntKind.u64 (handC xs xv), AV.y IntKind.u64 (freshC fs fv)] 0) rfl rfl rfl rfl]
 have hXn : rN X ≤ 400 ∧ 1 ≤ rN X ∧ rE X = false := by
   have := begL_len (i := true) (cs := cs) (ct := ct) (cf := cf) (s := ts) (v := tv) (k := litI 1 [AV.y IntKind.u64 (xk (hvK true (hvM xnv)))] 0) (w := litI 1 [AV.y IntKind.u64 (handC xs xv), AV.y IntKind.u64 (freshC fs fv)] 0) (l := 0) (n0 := rN B) (a0 := rA B) (b0 := rB B) (nv := 2)
   rw [← hX] at this
   exact ⟨by omega, by omega, this.2.2⟩
 clear hL
 simp only [vS, forall_const, vT, hT, hI, yNsub_e, ← hB, F, G0, G1, E01, G2, E02, E12, G3, E03, E13, E23]
 simp only [← hX]
 repeat' (first | apply And.intro | intro _)
 all_goals first
   | rfl
   | trivial
   | omega
   | (exfalso; omega)
   | (simp only [hb.2.2, hXn.2.2, yAnd, yNeq] at *; omega)
   | (rw [hL2, rE_snoc, yAnd10]; done)
   | (rw [hL2]; exact rN_snoc6 _ _ _ _ _ _ _)
   | (rename_i hq; rw [hL2] at hq ⊢; rw [rN_snoc6] at hq; first | exact rA_snoc6 _ _ _ _ _ _ _ hq | exact rB_snoc6 _ _ _ _ _ _ _ hq)
theorem goalRotPI_tt : (goalRotPI) = True := goalRotPI_eq.trans (eq_true goalRotPI_vc)
theorem goalRotPI_ok : goalRotPI := @ft' goalRotPI goalRotPI_tt
def goalRotRL_2 (cs : Int) (ct : Int) (cf : Int) (fs : Int) (fv : Int) (xnv : Nat) (xk : Nat → Int) (xw : Nat → Int) (xl : Int) := begL false cs ct cf fs fv (fun (i : Nat) => shf (hvM xnv) (fun (i : Nat) => xk i) i) (fun (i : Nat) => shf (hvM xnv) (fun (i : Nat) => xw i) i) (hvLk false xl) 0 (fun (i : Nat) => (0 : Int)) (fun (i : Nat) => (0 : Int)) (yNsub xnv (hvM xnv))
def goalRotRL_12 (cs : Int) (ct : Int) (cf : Int) (fs : Int) (fv : Int) (xnv : Nat) (xk : Nat → Int) (xw : Nat → Int) (xl : Int) := yNadd (rN (goalRotRL_2 cs ct cf fs fv xnv xk xw xl)) 1
def goalRotRL_0 (cs : Int) (ct : Int) (cf : Int) (ts : Int) (tv : Int) (xk : Nat → Int) (xnv : Nat) (xs : Int) (xv : Int) (fs : Int) (fv : Int) (xw : Nat → Int) (xl : Int) := begL true cs ct cf ts tv (litI 1 [AV.y IntKind.u64 (xk (hvK false (hvM xnv)))] 0) (litI 1 [AV.y IntKind.u64 (handC xs xv), AV.y IntKind.u64 (freshC fs fv)] 0) 0 (goalRotRL_12 cs ct cf fs fv xnv xk xw xl) (fun (i : Nat) => ySel (yNlt i (rN (goalRotRL_2 cs ct cf fs fv xnv xk xw xl))) (rA (goalRotRL_2 cs ct cf fs fv xnv xk xw xl) i) (linkC cs ct cf xs)) (fun (i : Nat) => ySel (yNlt i (rN (goalRotRL_2 cs ct cf fs fv xnv xk xw xl))) (rB (goalRotRL_2 cs ct cf fs fv xnv xk xw xl) i) (freshC fs fv)) 2
def goalRotRL_10 (fnv : Nat) (fw : Nat → Int) := yCol (CK.int IntKind.u64) fnv fun (i : Nat) => AV.y IntKind.u64 (fw i)
def goalRotRL_11 (fv : Int) (xnv : Nat) (xnk : Nat) (fs : Int) (cs : Int) (cf : Int) := yAnd (yAnd (yLe 0 fv) (yLt fv 18446744073709551616)) (yAnd (yNle (yNsub xnv (hvM xnv)) 80) (yAnd (yNle 0 1000) (yAnd (yIff true (yNeq 0 0)) (yAnd (yNeq (yNsub xnv (hvM xnv)) (yNadd (yNsub xnk (hvM xnv)) 0)) (yAnd (yAnd (yLe 0 fs) (yLe fs cs)) (yLe (yInt (yNsub xnv (hvM xnv))) cf))))))
def goalRotRL_5 (cs : Int) (ct : Int) (cf : Int) (ts : Int) (tv : Int) (xk : Nat → Int) (xnv : Nat) (xs : Int) (xv : Int) (fs : Int) (fv : Int) (xw : Nat → Int) (xl : Int) := yNadd (rN (goalRotRL_0 cs ct cf ts tv xk xnv xs xv fs fv xw xl)) 1
def goalRotRL_3 (cs : Int) (ct : Int) (cf : Int) (ts : Int) (tv : Int) (xk : Nat → Int) (xnv : Nat) (xs : Int) (xv : Int) (fs : Int) (fv : Int) (xw : Nat → Int) (xl : Int) := yNadd (yNadd (goalRotRL_5 cs ct cf ts tv xk xnv xs xv fs fv xw xl) 1) 1
def goalRotRL_4 (cs : Int) (ct : Int) (cf : Int) (ts : Int) (tv : Int) (xk : Nat → Int) (xnv : Nat) (xs : Int) (xv : Int) (fs : Int) (fv : Int) (xw : Nat → Int) (xl : Int) := yNadd (yNadd (goalRotRL_3 cs ct cf ts tv xk xnv xs xv fs fv xw xl) 1) 1
def goalRotRL_6 (tv : Int) (cs : Int) (ct : Int) (cf : Int) (fs : Int) (fv : Int) (xnv : Nat) (xk : Nat → Int) (xw : Nat → Int) (xl : Int) (ts : Int) := yAnd (yAnd (yLe 0 tv) (yLt tv 18446744073709551616)) (yAnd (yNle 2 80) (yAnd (yNle (goalRotRL_12 cs ct cf fs fv xnv xk xw xl) 1000) (yAnd (yIff (yAnd (rE (goalRotRL_2 cs ct cf fs fv xnv xk xw xl)) (yNeq 1 0)) (yNeq (goalRotRL_12 cs ct cf fs fv xnv xk xw xl) 0)) (yAnd (yNeq 2 (yNadd 1 1)) (yAnd (yAnd (yLe 0 ts) (yLe ts cs)) (yLe (yInt 2) cf))))))
def goalRotRL_7 (xnk : Nat) (xk : Nat → Int) := yCol (CK.int IntKind.u64) xnk fun (i : Nat) => AV.y IntKind.u64 (xk i)
def goalRotRL_8 (xnv : Nat) (xw : Nat → Int) := yCol (CK.int IntKind.u64) xnv fun (i : Nat) => AV.y IntKind.u64 (xw i)
def goalRotRL_9 (fnk : Nat) (fk : Nat → Int) := yCol (CK.int IntKind.u64) fnk fun (i : Nat) => AV.y IntKind.u64 (fk i)
def goalRotRL_1 (xs : Int) (cs : Int) (L : List (Int × Int)) (ps : Int) (fs : Int) (ts : Int) (pnk : Nat) (pk : Nat → Int) (pnv : Nat) (pw : Nat → Int) (pi : Bool) (cf : Int) (xnk : Nat) (xk : Nat → Int) (xnv : Nat) (xw : Nat → Int) (xkn : Bool) (xvn : Bool) (fnk : Nat) (fk : Nat → Int) (fnv : Nat) (fw : Nat → Int) (ct : Int) (cl : Int) (cp : Int) (fv : Int) (xl : Int) (xv : Int) (tnk : Nat) (tk : Nat → Int) (tnv : Nat) (tw : Nat → Int) (tv : Int) (pv : Int) := yLt xs (0 : Int) = false → (yLt cs xs = true → rE L = true ∧ rN L = nat_lit 0 ∧ rN L = nat_lit 0 ∧ true = true ∧ true = true) ∧ (yLt cs xs = false → (yEq xs (0 : Int) = true → rE L = true ∧ rN L = nat_lit 0 ∧ rN L = nat_lit 0 ∧ true = true ∧ true = true) ∧ (yEq xs (0 : Int) = false → (yEq ps xs = true → rE L = true ∧ rN L = nat_lit 0 ∧ rN L = nat_lit 0 ∧ true = true ∧ true = true) ∧ (yEq ps xs = false → (yLt fs (0 : Int) = true → rE L = true ∧ rN L = nat_lit 0 ∧ rN L = nat_lit 0 ∧ true = true ∧ true = true) ∧ (yLt fs (0 : Int) = false → (yLt cs fs = true → rE L = true ∧ rN L = nat_lit 0 ∧ rN L = nat_lit 0 ∧ true = true ∧ true = true) ∧ (yLt cs fs = false → (yEq fs (0 : Int) = true → rE L = true ∧ rN L = nat_lit 0 ∧ rN L = nat_lit 0 ∧ true = true ∧ true = true) ∧ (yEq fs (0 : Int) = false → (yEq ps fs = true → rE L = true ∧ rN L = nat_lit 0 ∧ rN L = nat_lit 0 ∧ true = true ∧ true = true) ∧ (yEq ps fs = false → (yEq xs fs = true → rE L = true ∧ rN L = nat_lit 0 ∧ rN L = nat_lit 0 ∧ true = true ∧ true = true) ∧ (yEq xs fs = false → (yLt ts (0 : Int) = true → rE L = true ∧ rN L = nat_lit 0 ∧ rN L = nat_lit 0 ∧ true = true ∧ true = true) ∧ (yLt ts (0 : Int) = false → (yLt cs ts = true → rE L = true ∧ rN L = nat_lit 0 ∧ rN L = nat_lit 0 ∧ true = true ∧ true = true) ∧ (yLt cs ts = false → (yEq ts (0 : Int) = true → rE L = true ∧ rN L = nat_lit 0 ∧ rN L = nat_lit 0 ∧ true = true ∧ true = true) ∧ (yEq ts (0 : Int) = false → (yEq ps ts = true → rE L = true ∧ rN L = nat_lit 0 ∧ rN L = nat_lit 0 ∧ true = true ∧ true = true) ∧ (yEq ps ts = false → (yEq xs ts = true → rE L = true ∧ rN L = nat_lit 0 ∧ rN L = nat_lit 0 ∧ true = true ∧ true = true) ∧ (yEq xs ts = false → (yEq fs ts = true → rE L = true ∧ rN L = nat_lit 0 ∧ rN L = nat_lit 0 ∧ true = true ∧ true = true) ∧ (yEq fs ts = false → mst (yCol (CK.int IntKind.u64) pnk fun (i : Nat) => AV.y IntKind.u64 (pk i)) (mst (yCol (CK.int IntKind.u64) pnv fun (i : Nat) => AV.y IntKind.u64 (pw i)) (mst (yAnd (yNle pnk 80) (yNle pnv 80)) ((yNot (fitsC pi pnk (fun (i : Nat) => pk i) pnv cf) = true → rE L = true ∧ rN L = nat_lit 0 ∧ rN L = nat_lit 0 ∧ true = true ∧ true = true) ∧ (yNot (fitsC pi pnk (fun (i : Nat) => pk i) pnv cf) = false → mst (goalRotRL_7 xnk xk) (mst (goalRotRL_8 xnv xw) (mst (yAnd (yNle xnk 80) (yNle xnv 80)) ((yNot (fitsC false xnk (fun (i : Nat) => xk i) xnv cf) = true → rE L = true ∧ rN L = nat_lit 0 ∧ rN L = nat_lit 0 ∧ true = true ∧ true = true) ∧ (yNot (fitsC false xnk (fun (i : Nat) => xk i) xnv cf) = false → (yNot pi = true → rE L = true ∧ rN L = nat_lit 0 ∧ rN L = nat_lit 0 ∧ true = true ∧ true = true) ∧ (yNot pi = false → (yNot (yEq (yInt pnv) 1) = true → rE L = true ∧ rN L = nat_lit 0 ∧ rN L = nat_lit 0 ∧ true = true ∧ true = true) ∧ (yNot (yEq (yInt pnv) 1) = false → (yLt (yInt xnv) (2 : Int) = true → rE L = true ∧ rN L = nat_lit 0 ∧ rN L = nat_lit 0 ∧ true = true ∧ true = true) ∧ (yLt (yInt xnv) (2 : Int) = false → mst (goalRotRL_7 xnk xk) (mst (goalRotRL_8 xnv xw) (mst (yAnd (yAnd (yNle 2 xnv) (yNle xnv 80)) (yAnd (yAnd (nilOk xkn xnk) (nilOk xvn xnv)) (yAnd (yNeq xnv (yNadd xnk 0)) (risesB (fun (i : Nat) => xk i) xnk)))) (mst (goalRotRL_9 fnk fk) (mst (goalRotRL_10 fnv fw) (mst (yCol (CK.int IntKind.u64) (yNsub xnk (hvM xnv)) fun (i : Nat) => AV.y IntKind.u64 (shf (hvM xnv) (fun (i : Nat) => xk i) i)) (mst (yCol (CK.int IntKind.u64) (yNsub xnv (hvM xnv)) fun (i : Nat) => AV.y IntKind.u64 (shf (hvM xnv) (fun (i : Nat) => xw i) i)) (mst (yAnd (rightC cs ct cf cl cp) (goalRotRL_11 fv xnv xnk fs cs cf)) (mst (yAnd (rightC cs ct cf cl cp) (yAnd (yLe 0 xs) (yLe xs cs))) (mst (goalRotRL_9 fnk fk) (mst (goalRotRL_10 fnv fw) (mst (yAnd (yLe 0 fv) (yLt fv 18446744073709551616)) (mst (yNeq (rN (goalRotRL_2 cs ct cf fs fv xnv xk xw xl)) (rN (goalRotRL_2 cs ct cf fs fv xnv xk xw xl))) (mst (yGrow (goalRotRL_12 cs ct cf fs fv xnv xk xw xl) 16) (mst (goalRotRL_7 xnk xk) (mst (goalRotRL_8 xnv xw) (mst (yAnd (yLe 0 xv) (yLt xv 18446744073709551616)) (mst (goalRotRL_9 fnk fk) (mst (goalRotRL_10 fnv fw) (mst (yAnd (yLe 0 fv) (yLt fv 18446744073709551616)) (mst (yNeq 0 0) (mst (yNeq (goalRotRL_12 cs ct cf fs fv xnv xk xw xl) (goalRotRL_12 cs ct cf fs fv xnv xk xw xl)) (mst (yCol (CK.int IntKind.i64) (goalRotRL_12 cs ct cf fs fv xnv xk xw xl) fun (i : Nat) => AV.y IntKind.i64 (ySel (yNlt i (rN (goalRotRL_2 cs ct cf fs fv xnv xk xw xl))) (rA (goalRotRL_2 cs ct cf fs fv xnv xk xw xl) i) (linkC cs ct cf xs))) (mst (yCol (CK.int IntKind.u64) (goalRotRL_12 cs ct cf fs fv xnv xk xw xl) fun (i : Nat) => AV.y IntKind.u64 (ySel (yNlt i (rN (goalRotRL_2 cs ct cf fs fv xnv xk xw xl))) (rB (goalRotRL_2 cs ct cf fs fv xnv xk xw xl) i) (freshC fs fv))) (mst (yCol (CK.int IntKind.u64) tnk fun (i : Nat) => AV.y IntKind.u64 (tk i)) (mst (yCol (CK.int IntKind.u64) tnv fun (i : Nat) => AV.y IntKind.u64 (tw i)) (mst (yAnd (rightC cs ct cf cl cp) (goalRotRL_6 tv cs ct cf fs fv xnv xk xw xl ts)) (mst (yAnd (yAnd (rightC cs ct cf cl cp) (yAnd (yLe 0 ps) (yLe ps cs))) (yAnd (yLe 0 0) (yLt 0 cf))) (mst (yCol (CK.int IntKind.u64) tnk fun (i : Nat) => AV.y IntKind.u64 (tk i)) (mst (yCol (CK.int IntKind.u64) tnv fun (i : Nat) => AV.y IntKind.u64 (tw i)) (mst (yAnd (yLe 0 tv) (yLt tv 18446744073709551616)) (mst (yNeq (rN (goalRotRL_0 cs ct cf ts tv xk xnv xs xv fs fv xw xl)) (rN (goalRotRL_0 cs ct cf ts tv xk xnv xs xv fs fv xw xl))) (mst (yGrow (goalRotRL_5 cs ct cf ts tv xk xnv xs xv fs fv xw xl) 16) (mst (yAnd (rightC cs ct cf cl cp) (yAnd (yLe 0 xs) (yLe xs cs))) (mst (true) (mst (yNeq (goalRotRL_5 cs ct cf ts tv xk xnv xs xv fs fv xw xl) (goalRotRL_5 cs ct cf ts tv xk xnv xs xv fs fv xw xl)) (mst (yGrow (yNadd (goalRotRL_5 cs ct cf ts tv xk xnv xs xv fs fv xw xl) 1) 16) (mst (yAnd (yLe 0 fv) (yLt fv 18446744073709551616)) (mst (yAnd (rightC cs ct cf cl cp) (yAnd (yLe 0 fs) (yLe fs cs))) (mst (yAnd (yLe 0 (renewC fv)) (yLt (renewC fv) 18446744073709551616)) (mst (yNeq (yNadd (goalRotRL_5 cs ct cf ts tv xk xnv xs xv fs fv xw xl) 1) (yNadd (goalRotRL_5 cs ct cf ts tv xk xnv xs xv fs fv xw xl) 1)) (mst (yGrow (goalRotRL_3 cs ct cf ts tv xk xnv xs xv fs fv xw xl) 16) (mst (yAnd (yLe 0 tv) (yLt tv 18446744073709551616)) (mst (yAnd (rightC cs ct cf cl cp) (yAnd (yLe 0 ts) (yLe ts cs))) (mst (yAnd (yLe 0 (renewC tv)) (yLt (renewC tv) 18446744073709551616)) (mst (yNeq (goalRotRL_3 cs ct cf ts tv xk xnv xs xv fs fv xw xl) (goalRotRL_3 cs ct cf ts tv xk xnv xs xv fs fv xw xl)) (mst (yGrow (yNadd (goalRotRL_3 cs ct cf ts tv xk xnv xs xv fs fv xw xl) 1) 16) (mst (yAnd (rightC cs ct cf cl cp) (yAnd (yLe 0 xs) (yLe xs cs))) (mst (yAnd (yLe 0 xv) (yLt xv 18446744073709551616)) (mst (yNeq (yNadd (goalRotRL_3 cs ct cf ts tv xk xnv xs xv fs fv xw xl) 1) (yNadd (goalRotRL_3 cs ct cf ts tv xk xnv xs xv fs fv xw xl) 1)) (mst (yGrow (goalRotRL_4 cs ct cf ts tv xk xnv xs xv fs fv xw xl) 16) (mst (yAnd (rightC cs ct cf cl cp) (yAnd (yLe 0 ps) (yLe ps cs))) (mst (yAnd (yLe 0 pv) (yLt pv 18446744073709551616)) (mst (yNeq (goalRotRL_4 cs ct cf ts tv xk xnv xs xv fs fv xw xl) (goalRotRL_4 cs ct cf ts tv xk xnv xs xv fs fv xw xl)) (mst (yGrow (yNadd (goalRotRL_4 cs ct cf ts tv xk xnv xs xv fs fv xw xl) 1) 16) (rE L = yAnd (yAnd (yAnd (yAnd (yAnd (yAnd (rE (goalRotRL_0 cs ct cf ts tv xk xnv xs xv fs fv xw xl)) (yNeq 1 0)) (yNeq 1 0)) (yNeq 1 0)) (yNeq 1 0)) (yNeq 1 0)) (yNeq 1 0) ∧ nat_lit 0 = nat_lit 0 ∧ rN L = yNadd (goalRotRL_4 cs ct cf ts tv xk xnv xs xv fs fv xw xl) 1 ∧ rN L = yNadd (goalRotRL_4 cs ct cf ts tv xk xnv xs xv fs fv xw xl) 1 ∧ (∀ (i : Nat), Nat.succ i ≤ rN L → rA L i = ySel (yNlt i (goalRotRL_4 cs ct cf ts tv xk xnv xs xv fs fv xw xl)) (ySel (yNlt i (yNadd (goalRotRL_3 cs ct cf ts tv xk xnv xs xv fs fv xw xl) 1)) (ySel (yNlt i (goalRotRL_3 cs ct cf ts tv xk xnv xs xv fs fv xw xl)) (ySel (yNlt i (yNadd (goalRotRL_5 cs ct cf ts tv xk xnv xs xv fs fv xw xl) 1)) (ySel (yNlt i (goalRotRL_5 cs ct cf ts tv xk xnv xs xv fs fv xw xl)) (ySel (yNlt i (rN (goalRotRL_0 cs ct cf ts tv xk xnv xs xv fs fv xw xl))) (rA (goalRotRL_0 cs ct cf ts tv xk xnv xs xv fs fv xw xl) i) (valC cs ct cf ps 0)) (shapeC cs ct cf xs)) (verC cs ct cf fs)) (verC cs ct cf ts)) (verC cs ct cf xs)) (verC cs ct cf ps) ∧ rB L i = ySel (yNlt i (goalRotRL_4 cs ct cf ts tv xk xnv xs xv fs fv xw xl)) (ySel (yNlt i (yNadd (goalRotRL_3 cs ct cf ts tv xk xnv xs xv fs fv xw xl) 1)) (ySel (yNlt i (goalRotRL_3 cs ct cf ts tv xk xnv xs xv fs fv xw xl)) (ySel (yNlt i (yNadd (goalRotRL_5 cs ct cf ts tv xk xnv xs xv fs fv xw xl) 1)) (ySel (yNlt i (goalRotRL_5 cs ct cf ts tv xk xnv xs xv fs fv xw xl)) (ySel (yNlt i (rN (goalRotRL_0 cs ct cf ts tv xk xnv xs xv fs fv xw xl))) (rB (goalRotRL_0 cs ct cf ts tv xk xnv xs xv fs fv xw xl) i) (freshC ts tv)) (packC false (yInt (hvM xnv)))) (bumpC (renewC fv))) (bumpC (renewC tv))) (bumpC xv)) (bumpC pv) ∧ True) ∧ true = true))))))))))))))))))))))))))))))))))))))))))))))))))))))))))))))))))))))))))))))))
def goalRotRLV : Prop := (∀ (cs ct cf cl cp ps pv : Int) (pi pkn : Bool) (pnk : Nat) (pk : Nat → Int) (pvn : Bool) (pnv : Nat) (pw : Nat → Int) (pl xs xv : Int) (xkn : Bool) (xnk : Nat) (xk : Nat → Int) (xvn : Bool) (xnv : Nat) (xw : Nat → Int) (xl fs fv : Int) (fi fkn : Bool) (fnk : Nat) (fk : Nat → Int) (fvn : Bool) (fnv : Nat) (fw : Nat → Int) (fl ts tv : Int) (ti tkn : Bool) (tnk : Nat) (tk : Nat → Int) (tvn : Bool) (tnv : Nat) (tw : Nat → Int) (tl : Int) (L : List (Int × Int)), rightC cs ct cf cl cp = true → yAnd (yLe 0 pv) (yLt pv 18446744073709551616) = true → yAnd (yLe 0 xv) (yLt xv 18446744073709551616) = true → yAnd (yLe 0 fv) (yLt fv 18446744073709551616) = true → yAnd (yLe 0 (renewC fv)) (yLt (renewC fv) 18446744073709551616) = true → yAnd (yLe 0 tv) (yLt tv 18446744073709551616) = true → yAnd (yLe 0 (renewC tv)) (yLt (renewC tv) 18446744073709551616) = true → yAnd (yNle pnk 80) (yNle pnv 80) = true → yAnd (yAnd (yNle xnk 80) (yNle xnv 80)) (yAnd (nilOk xkn xnk) (nilOk xvn xnv)) = true → L = rotL cs ct cf ps pv pi pnk pk pnv xs xv false xnk xk xnv xw xl fs fv ts tv → (yLt ps (0 : Int) = true → rE L = true ∧ rN L = nat_lit 0 ∧ rN L = nat_lit 0 ∧ true = true ∧ true = true) ∧ (yLt ps (0 : Int) = false → (yLt cs ps = true → rE L = true ∧ rN L = nat_lit 0 ∧ rN L = nat_lit 0 ∧ true = true ∧ true = true) ∧ (yLt cs ps = false → (yEq ps (0 : Int) = true → (yLt xs (0 : Int) = true → rE L = true ∧ rN L = nat_lit 0 ∧ rN L = nat_lit 0 ∧ true = true ∧ true = true) ∧ (goalRotRL_1 xs cs L ps fs ts pnk pk pnv pw pi cf xnk xk xnv xw xkn xvn fnk fk fnv fw ct cl cp fv xl xv tnk tk tnv tw tv pv)) ∧ (yEq ps (0 : Int) = false → (yLt xs (0 : Int) = true → rE L = true ∧ rN L = nat_lit 0 ∧ rN L = nat_lit 0 ∧ true = true ∧ true = true) ∧ (goalRotRL_1 xs cs L ps fs ts pnk pk pnv pw pi cf xnk xk xnv xw xkn xvn fnk fk fnv fw ct cl cp fv xl xv tnk tk tnv tw tv pv)))))
theorem goalRotRL_eq : goalRotRL = goalRotRLV := by kernel_rfl
set_option maxHeartbeats 16000000 in
theorem goalRotRL_vc : goalRotRLV := by
 unfold goalRotRLV goalRotRL_1 goalRotRL_9 goalRotRL_8 goalRotRL_7 goalRotRL_6 goalRotRL_4 goalRotRL_3 goalRotRL_5 goalRotRL_11 goalRotRL_10 goalRotRL_0 goalRotRL_12 goalRotRL_2
 intro cs ct cf cl cp ps pv pi pkn pnk pk pvn pnv pw pl xs xv xkn xnk xk xvn xnv xw xl fs fv fi fkn fnk fk fvn fnv fw fl ts tv ti tkn tnk tk tvn tnv tw tl L hr hpv hxv hfv hrv htv hrt hp8 hx8 hL
 have hv1 := verC_or (a := ps) hr
 have hv2 := verC_or (a := xs) hr
 have hv3 := verC_or (a := fs) hr
 have hv4 := verC_or (a := ts) hr
 have hc := rightC_iff.1 hr
 simp only [yAnd_t, yLe_t, yLt_t, yNle_t, nilOk_t] at hpv hxv hfv hrv hp8 hx8 htv hrt
 have hsp : rotOk cs cf ps pi pnk pk pnv xs false xnk xk xnv fs ts = true ↔ (apart4 cs ps xs fs ts = true ∧ fitsC pi pnk pk pnv cf = true ∧ fitsC false xnk xk xnv cf = true ∧ pi = true ∧ pnv = 1 ∧ 2 ≤ xnv) := decide_eq_true_iff
 rw [apart4_t] at hsp
 unfold rotL at hL
 have hT : (true = yNeq 0 0) = True := eq_true rfl
 cases hfp : fitsC pi pnk pk pnv cf
 · rw [if_neg (fun h => by rw [hsp, hfp] at h; exact absurd h.2.1 (by simp))] at hL
   subst hL
   simp only [vS, forall_const, hr, hfp, yCol_int, hp8, false_or, or_false, not_true_eq_false]
   repeat' (first | apply And.intro | intro _)
   all_goals first | rfl | trivial | omega | (exfalso; omega)
 cases hfx : fitsC false xnk xk xnv cf
 · rw [if_neg (fun h => by rw [hsp, hfx] at h; exact absurd h.2.2.1 (by simp))] at hL
   subst hL
   simp only [vS, forall_const, hr, hfp, hfx, yCol_int, hp8, hx8, false_or, or_false, not_true_eq_false]
   repeat' (first | apply And.intro | intro _)
   all_goals first | rfl | trivial | omega | (exfalso; omega)
 have kx := fits_t.1 hfx
 have hrs : risesB xk xnk = true := risesB_iff.2 kx.2.2
 have kx2 : xnv = xnk := by have := kx.2.1; simpa using this
 have neg : ¬ (pi = true ∧ pnv = 1 ∧ 2 ≤ xnv) → L = [] := fun hn => by rw [hL, if_neg (fun h => by rw [hsp] at h; exact hn h.2.2.2)]
 cases pi with
 | false =>
   obtain rfl := neg (fun h => by cases h.1)
   clear hsp hL neg
   simp only [vS, forall_const, hr, hfp, hfx, yCol_int, hp8, hx8, false_or, or_false, not_true_eq_false, Bool.false_eq_true, false_implies]
   repeat' (first | apply And.intro | intro _)
   all_goals first | rfl | trivial | omega | (exfalso; omega)
 | true =>
 by_cases hp1 : (pnv : Int) = 1
 case neg =>
   obtain rfl := neg (fun h => hp1 (by omega))
   clear hsp hL neg
   simp only [vS, forall_const, hr, hfp, hfx, hp1, yCol_int, hp8, hx8, false_or, or_false, not_true_eq_false, false_implies, not_false_eq_true]
   repeat' (first | apply And.intro | intro _)
   all_goals first | rfl | trivial | omega | (exfalso; omega)
 by_cases h2 : 2 ≤ (xnv : Int)
 case neg =>
   obtain rfl := neg (fun h => h2 (by omega))
   clear hsp hL neg
   have h2b : (xnv : Int) < 2 := by omega
   simp only [vS, forall_const, hr, hfp, hfx, h2, h2b, yCol_int, hp8, hx8, false_or, or_false, not_true_eq_false, false_implies, not_false_eq_true]
   repeat' (first | apply And.intro | intro _)
   all_goals first | rfl | trivial | omega | (exfalso; omega)
 clear neg
 have hp1 : pnv = 1 := by omega
 have h2 : 2 ≤ xnv := by omega
 have hm := hv_bnd h2
 have hkn : nilOk xkn xnk = true := nilOk_t.2 hx8.2.1
 have hvn : nilOk xvn xnv = true := nilOk_t.2 hx8.2.2
 have neg : ¬ ((0 ≤ ps ∧ ps ≤ cs) ∧ (1 ≤ xs ∧ xs ≤ cs) ∧ (1 ≤ fs ∧ fs ≤ cs) ∧ (1 ≤ ts ∧ ts ≤ cs) ∧ ps ≠ xs ∧ ps ≠ fs ∧ xs ≠ fs ∧ ps ≠ ts ∧ xs ≠ ts ∧ fs ≠ ts) → L = [] := fun hn => by rw [hL, if_neg (fun h => by rw [hsp] at h; exact hn h.1)]
 have F := And.intro hr (And.intro hfp (And.intro hfx (And.intro hrs (And.intro hkn (And.intro hvn (And.intro hp8 hx8))))))
 by_cases c0 : ps < 0
 case pos =>
   have B := slLo hv1 c0 hc.1
   obtain rfl := neg (by omega)
   clear hsp hL neg
   simp only [vS, forall_const, vT, F, B]
   repeat' (first | apply And.intro | intro _)
   all_goals first | rfl | trivial | (exfalso; omega)
 by_cases c1 : cs < ps
 case pos =>
   have B := slHi hv1 c1 hc.1
   obtain rfl := neg (by omega)
   clear hsp hL neg
   simp only [vS, forall_const, vT, F, B]
   repeat' (first | apply And.intro | intro _)
   all_goals first | rfl | trivial | (exfalso; omega)
 have G0 := slTo hv1 c0 c1
 by_cases c0 : xs < 0
 case pos =>
   have B := slLo hv2 c0 hc.1
   obtain rfl := neg (by omega)
   clear hsp hL neg
   simp only [vS, forall_const, vT, F, G0, B]
   repeat' (first | apply And.intro | intro _)
   all_goals first | rfl | trivial | (exfalso; omega)
 by_cases c1 : cs < xs
 case pos =>
   have B := slHi hv2 c1 hc.1
   obtain rfl := neg (by omega)
   clear hsp hL neg
   simp only [vS, forall_const, vT, F, G0, B]
   repeat' (first | apply And.intro | intro _)
   all_goals first | rfl | trivial | (exfalso; omega)
 by_cases c2 : xs = 0
 case pos =>
   have B := slZe hv2 c2 hc.1
   obtain rfl := neg (by omega)
   clear hsp hL neg
   simp only [vS, forall_const, vT, F, G0, B]
   repeat' (first | apply And.intro | intro _)
   all_goals first | rfl | trivial | (exfalso; omega)
 have G1 := slIn hv2 c0 c1 c2
 by_cases c3 : ps = xs
 case pos =>
   have B := eq_true c3
   obtain rfl := neg (by omega)
   clear hsp hL neg
   simp only [vS, forall_const, vT, F, G0, G1, B]
   repeat' (first | apply And.intro | intro _)
   all_goals first | rfl | trivial | (exfalso; omega)
 have E01 := eq_false c3
 by_cases c0 : fs < 0
 case pos =>
   have B := slLo hv3 c0 hc.1
   obtain rfl := neg (by omega)
   clear hsp hL neg
   simp only [vS, forall_const, vT, F, G0, G1, E01, B]
   repeat' (first | apply And.intro | intro _)
   all_goals first | rfl | trivial | (exfalso; omega)
 by_cases c1 : cs < fs
 case pos =>
   have B := slHi hv3 c1 hc.1
   obtain rfl := neg (by omega)
   clear hsp hL neg
   simp only [vS, forall_const, vT, F, G0, G1, E01, B]
   repeat' (first | apply And.intro | intro _)
   all_goals first | rfl | trivial | (exfalso; omega)
 by_cases c2 : fs = 0
 case pos =>
   have B := slZe hv3 c2 hc.1
   obtain rfl := neg (by omega)
   clear hsp hL neg
   simp only [vS, forall_const, vT, F, G0, G1, E01, B]
   repeat' (first | apply And.intro | intro _)
   all_goals first | rfl | trivial | (exfalso; omega)
 have G2 := slIn hv3 c0 c1 c2
 by_cases c3 : ps = fs
 case pos =>
   have B := eq_true c3
   obtain rfl := neg (by omega)
   clear hsp hL neg
   simp only [vS, forall_const, vT, F, G0, G1, E01, G2, B]
   repeat' (first | apply And.intro | intro _)
   all_goals first | rfl | trivial | (exfalso; omega)
 have E02 := eq_false c3
 by_cases c3 : xs = fs
 case pos =>
   have B := eq_true c3
   obtain rfl := neg (by omega)
   clear hsp hL neg
   simp only [vS, forall_const, vT, F, G0, G1, E01, G2, E02, B]
   repeat' (first | apply And.intro | intro _)
   all_goals first | rfl | trivial | (exfalso; omega)
 have E12 := eq_false c3
 by_cases c0 : ts < 0
 case pos =>
   have B := slLo hv4 c0 hc.1
   obtain rfl := neg (by omega)
   clear hsp hL neg
   simp only [vS, forall_const, vT, F, G0, G1, E01, G2, E02, E12, B]
   repeat' (first | apply And.intro | intro _)
   all_goals first | rfl | trivial | (exfalso; omega)
 by_cases c1 : cs < ts
 case pos =>
   have B := slHi hv4 c1 hc.1
   obtain rfl := neg (by omega)
   clear hsp hL neg
   simp only [vS, forall_const, vT, F, G0, G1, E01, G2, E02, E12, B]
   repeat' (first | apply And.intro | intro _)
   all_goals first | rfl | trivial | (exfalso; omega)
 by_cases c2 : ts = 0
 case pos =>
   have B := slZe hv4 c2 hc.1
   obtain rfl := neg (by omega)
   clear hsp hL neg
   simp only [vS, forall_const, vT, F, G0, G1, E01, G2, E02, E12, B]
   repeat' (first | apply And.intro | intro _)
   all_goals first | rfl | trivial | (exfalso; omega)
 have G3 := slIn hv4 c0 c1 c2
 by_cases c3 : ps = ts
 case pos =>
   have B := eq_true c3
   obtain rfl := neg (by omega)
   clear hsp hL neg
   simp only [vS, forall_const, vT, F, G0, G1, E01, G2, E02, E12, G3, B]
   repeat' (first | apply And.intro | intro _)
   all_goals first | rfl | trivial | (exfalso; omega)
 have E03 := eq_false c3
 by_cases c3 : xs = ts
 case pos =>
   have B := eq_true c3
   obtain rfl := neg (by omega)
   clear hsp hL neg
   simp only [vS, forall_const, vT, F, G0, G1, E01, G2, E02, E12, G3, E03, B]
   repeat' (first | apply And.intro | intro _)
   all_goals first | rfl | trivial | (exfalso; omega)
 have E13 := eq_false c3
 by_cases c3 : fs = ts
 case pos =>
   have B := eq_true c3
   obtain rfl := neg (by omega)
   clear hsp hL neg
   simp only [vS, forall_const, vT, F, G0, G1, E01, G2, E02, E12, G3, E03, E13, B]
   repeat' (first | apply And.intro | intro _)
   all_goals first | rfl | trivial | (exfalso; omega)
 have E23 := eq_false c3
 clear neg
 have hap : (0 ≤ ps ∧ ps ≤ cs) ∧ (1 ≤ xs ∧ xs ≤ cs) ∧ (1 ≤ fs ∧ fs ≤ cs) ∧ (1 ≤ ts ∧ ts ≤ cs) ∧ ps ≠ xs ∧ ps ≠ fs ∧ xs ≠ fs ∧ ps ≠ ts ∧ xs ≠ ts ∧ fs ≠ ts := by omega
 rw [if_pos (hsp.2 ⟨hap, hfp, hfx, rfl, hp1, h2⟩)] at hL
 clear hsp
 have hK : splK false xk xnv = xk (hvK false (hvM xnv)) := rfl
 have hb := begL_len (i := false) (cs := cs) (ct := ct) (cf := cf) (s := fs) (v := fv) (k := shf (hvM xnv) xk) (w := shf (hvM xnv) xw) (l := hvLk false xl) (n0 := 0) (a0 := fun _ => 0) (b0 := fun _ => 0) (nv := xnv - hvM xnv)
 obtain ⟨B, hB⟩ : ∃ B, B = begL false cs ct cf fs fv (shf (hvM xnv) xk) (shf (hvM xnv) xw) (hvLk false xl) 0 (fun _ => 0) (fun _ => 0) (xnv - hvM xnv) := ⟨_, rfl⟩
 rw [← hB] at hb
 have hI : (yAnd (rE B) (yNeq 1 0) = yNeq (rN B + 1) 0) = True := eq_true (by rw [yAnd10]; simp [yNeq])
 obtain ⟨X, hX⟩ : ∃ X, X = begL true cs ct cf ts tv (litI 1 [AV.y IntKind.u64 (xk (hvK false (hvM xnv)))] 0) (litI 1 [AV.y IntKind.u64 (handC xs xv), AV.y IntKind.u64 (freshC fs fv)] 0) 0 (rN B + 1) (fun i => ySel (yNlt i (rN B)) (rA B i) (linkC cs ct cf xs)) (fun i => ySel (yNlt i (rN B)) (rB B i) (freshC fs fv)) 2 := ⟨_, rfl⟩
 have hL2 : L = X ++ [(valC cs ct cf ps 0, freshC ts tv)] ++ [(shapeC cs ct cf xs, packC false (hvM xnv : Nat))] ++ [(verC cs ct cf fs, bumpC (renewC fv))] ++ [(verC cs ct cf ts, bumpC (renewC tv))] ++ [(verC cs ct cf xs, bumpC xv)] ++ [(verC cs ct cf ps, bumpC pv)] := by
   rw [hL, hX, hK]
   have hBB : splB cs ct cf xs false xk xnv xw xl fs fv = B ++ [(linkC cs ct cf xs, freshC fs fv)] := by rw [hB]; rfl
   rw [hBB, begL_two (k := fun _ => xk (hvK false (hvM xnv))) (k' := litI 1 [AV.y IntKind.u64 (xk (hvK false (hvM xnv)))] 0) (w := rotW xs xv fs fv) (w' := litI 1 [AV.y IntKind.u64 (handC xs xv), AV.y IntKind.u64 (freshC fs fv)] 0) (n0' := rN B + 1) (a0' := fun i => ySel (yNlt i (rN B)) (rA B i) (linkC cs ct cf xs)) (b0' := fun i => ySel (yNlt i (rN B)) (rB B i) (freshC fs fv)) rfl rfl rfl (by
     rw [rN_snoc]
     apply prw_congr
     intro j hj
     exact ⟨rA_snoc _ _ hj, rB_snoc _ _ hj⟩)]
 have hXn : rN X ≤ 400 ∧ 1 ≤ rN X ∧ rE X = false := by
   have := begL_len (i := true) (cs := cs) (ct := ct) (cf := cf) (s := ts) (v := tv) (k := litI 1 [AV.y IntKind.u64 (xk (hvK false (hvM xnv)))] 0) (w := litI 1 [AV.y IntKind.u64 (handC xs xv), AV.y IntKind.u64 (freshC fs fv)] 0) (l := 0) (n0 := rN B + 1) (a0 := fun i => ySel (yNlt i (rN B)) (rA B i) (linkC cs ct cf xs)) (b0 := fun i => ySel (yNlt i (rN B)) (rB B i) (freshC fs fv)) (nv := 2)
   rw [← hX] at this
   exact ⟨by omega, by omega, this.2.2⟩
 clear hL
 simp only [vS, forall_const, vT, hT, hI, yNsub_e, ← hB, F, G0, G1, E01, G2, E02, E12, G3, E03, E13, E23]
 simp only [← hX]
 repeat' (first | apply And.intro | intro _)
 all_goals first
   | rfl
   | trivial
   | omega
   | (exfalso; omega)
   | (simp only [hb.2.2, hXn.2.2, yAnd, yNeq] at *; omega)
   | (rw [hL2, rE_snoc, yAnd10]; done)
   | (rw [hL2]; exact rN_snoc6 _ _ _ _ _ _ _)
   | (rename_i hq; rw [hL2] at hq ⊢; rw [rN_snoc6] at hq; first | exact rA_snoc6 _ _ _ _ _ _ _ hq | exact rB_snoc6 _ _ _ _ _ _ _ hq)
theorem goalRotRL_tt : (goalRotRL) = True := goalRotRL_eq.trans (eq_true goalRotRL_vc)
theorem goalRotRL_ok : goalRotRL := @ft' goalRotRL goalRotRL_tt
def goalRotRI_2 (cs : Int) (ct : Int) (cf : Int) (fs : Int) (fv : Int) (xnv : Nat) (xk : Nat → Int) (xw : Nat → Int) (xl : Int) := begL true cs ct cf fs fv (fun (i : Nat) => shf (hvM xnv) (fun (i : Nat) => xk i) i) (fun (i : Nat) => shf (hvM xnv) (fun (i : Nat) => xw i) i) (hvLk true xl) 0 (fun (i : Nat) => (0 : Int)) (fun (i : Nat) => (0 : Int)) (yNsub xnv (hvM xnv))
def goalRotRI_0 (cs : Int) (ct : Int) (cf : Int) (ts : Int) (tv : Int) (xk : Nat → Int) (xnv : Nat) (xs : Int) (xv : Int) (fs : Int) (fv : Int) (xw : Nat → Int) (xl : Int) := begL true cs ct cf ts tv (litI 1 [AV.y IntKind.u64 (xk (hvK true (hvM xnv)))] 0) (litI 1 [AV.y IntKind.u64 (handC xs xv), AV.y IntKind.u64 (freshC fs fv)] 0) 0 (rN (goalRotRI_2 cs ct cf fs fv xnv xk xw xl)) (fun (i : Nat) => rA (goalRotRI_2 cs ct cf fs fv xnv xk xw xl) i) (fun (i : Nat) => rB (goalRotRI_2 cs ct cf fs fv xnv xk xw xl) i) 2
def goalRotRI_5 (cs : Int) (ct : Int) (cf : Int) (ts : Int) (tv : Int) (xk : Nat → Int) (xnv : Nat) (xs : Int) (xv : Int) (fs : Int) (fv : Int) (xw : Nat → Int) (xl : Int) := yNadd (rN (goalRotRI_0 cs ct cf ts tv xk xnv xs xv fs fv xw xl)) 1
def goalRotRI_3 (cs : Int) (ct : Int) (cf : Int) (ts : Int) (tv : Int) (xk : Nat → Int) (xnv : Nat) (xs : Int) (xv : Int) (fs : Int) (fv : Int) (xw : Nat → Int) (xl : Int) := yNadd (yNadd (goalRotRI_5 cs ct cf ts tv xk xnv xs xv fs fv xw xl) 1) 1
def goalRotRI_4 (cs : Int) (ct : Int) (cf : Int) (ts : Int) (tv : Int) (xk : Nat → Int) (xnv : Nat) (xs : Int) (xv : Int) (fs : Int) (fv : Int) (xw : Nat → Int) (xl : Int) := yNadd (yNadd (goalRotRI_3 cs ct cf ts tv xk xnv xs xv fs fv xw xl) 1) 1
def goalRotRI_6 (xnk : Nat) (xk : Nat → Int) := yCol (CK.int IntKind.u64) xnk fun (i : Nat) => AV.y IntKind.u64 (xk i)
def goalRotRI_7 (xnv : Nat) (xw : Nat → Int) := yCol (CK.int IntKind.u64) xnv fun (i : Nat) => AV.y IntKind.u64 (xw i)
def goalRotRI_8 (fv : Int) (xnv : Nat) (xnk : Nat) (fs : Int) (cs : Int) (cf : Int) := yAnd (yAnd (yLe 0 fv) (yLt fv 18446744073709551616)) (yAnd (yNle (yNsub xnv (hvM xnv)) 80) (yAnd (yNle 0 1000) (yAnd (yIff true (yNeq 0 0)) (yAnd (yNeq (yNsub xnv (hvM xnv)) (yNadd (yNsub xnk (hvM xnv)) 1)) (yAnd (yAnd (yLe 0 fs) (yLe fs cs)) (yLe (yInt (yNsub xnv (hvM xnv))) cf))))))
def goalRotRI_9 (tv : Int) (cs : Int) (ct : Int) (cf : Int) (fs : Int) (fv : Int) (xnv : Nat) (xk : Nat → Int) (xw : Nat → Int) (xl : Int) (ts : Int) := yAnd (yAnd (yLe 0 tv) (yLt tv 18446744073709551616)) (yAnd (yNle 2 80) (yAnd (yNle (rN (goalRotRI_2 cs ct cf fs fv xnv xk xw xl)) 1000) (yAnd (yIff (rE (goalRotRI_2 cs ct cf fs fv xnv xk xw xl)) (yNeq (rN (goalRotRI_2 cs ct cf fs fv xnv xk xw xl)) 0)) (yAnd (yNeq 2 (yNadd 1 1)) (yAnd (yAnd (yLe 0 ts) (yLe ts cs)) (yLe (yInt 2) cf))))))
def goalRotRI_1 (xs : Int) (cs : Int) (L : List (Int × Int)) (ps : Int) (fs : Int) (ts : Int) (pnk : Nat) (pk : Nat → Int) (pnv : Nat) (pw : Nat → Int) (pi : Bool) (cf : Int) (xnk : Nat) (xk : Nat → Int) (xnv : Nat) (xw : Nat → Int) (xkn : Bool) (xvn : Bool) (fnk : Nat) (fk : Nat → Int) (fnv : Nat) (fw : Nat → Int) (ct : Int) (cl : Int) (cp : Int) (fv : Int) (xv : Int) (xl : Int) (tnk : Nat) (tk : Nat → Int) (tnv : Nat) (tw : Nat → Int) (tv : Int) (pv : Int) := yLt xs (0 : Int) = false → (yLt cs xs = true → rE L = true ∧ rN L = nat_lit 0 ∧ rN L = nat_lit 0 ∧ true = true ∧ true = true) ∧ (yLt cs xs = false → (yEq xs (0 : Int) = true → rE L = true ∧ rN L = nat_lit 0 ∧ rN L = nat_lit 0 ∧ true = true ∧ true = true) ∧ (yEq xs (0 : Int) = false → (yEq ps xs = true → rE L = true ∧ rN L = nat_lit 0 ∧ rN L = nat_lit 0 ∧ true = true ∧ true = true) ∧ (yEq ps xs = false → (yLt fs (0 : Int) = true → rE L = true ∧ rN L = nat_lit 0 ∧ rN L = nat_lit 0 ∧ true = true ∧ true = true) ∧ (yLt fs (0 : Int) = false → (yLt cs fs = true → rE L = true ∧ rN L = nat_lit 0 ∧ rN L = nat_lit 0 ∧ true = true ∧ true = true) ∧ (yLt cs fs = false → (yEq fs (0 : Int) = true → rE L = true ∧ rN L = nat_lit 0 ∧ rN L = nat_lit 0 ∧ true = true ∧ true = true) ∧ (yEq fs (0 : Int) = false → (yEq ps fs = true → rE L = true ∧ rN L = nat_lit 0 ∧ rN L = nat_lit 0 ∧ true = true ∧ true = true) ∧ (yEq ps fs = false → (yEq xs fs = true → rE L = true ∧ rN L = nat_lit 0 ∧ rN L = nat_lit 0 ∧ true = true ∧ true = true) ∧ (yEq xs fs = false → (yLt ts (0 : Int) = true → rE L = true ∧ rN L = nat_lit 0 ∧ rN L = nat_lit 0 ∧ true = true ∧ true = true) ∧ (yLt ts (0 : Int) = false → (yLt cs ts = true → rE L = true ∧ rN L = nat_lit 0 ∧ rN L = nat_lit 0 ∧ true = true ∧ true = true) ∧ (yLt cs ts = false → (yEq ts (0 : Int) = true → rE L = true ∧ rN L = nat_lit 0 ∧ rN L = nat_lit 0 ∧ true = true ∧ true = true) ∧ (yEq ts (0 : Int) = false → (yEq ps ts = true → rE L = true ∧ rN L = nat_lit 0 ∧ rN L = nat_lit 0 ∧ true = true ∧ true = true) ∧ (yEq ps ts = false → (yEq xs ts = true → rE L = true ∧ rN L = nat_lit 0 ∧ rN L = nat_lit 0 ∧ true = true ∧ true = true) ∧ (yEq xs ts = false → (yEq fs ts = true → rE L = true ∧ rN L = nat_lit 0 ∧ rN L = nat_lit 0 ∧ true = true ∧ true = true) ∧ (yEq fs ts = false → mst (yCol (CK.int IntKind.u64) pnk fun (i : Nat) => AV.y IntKind.u64 (pk i)) (mst (yCol (CK.int IntKind.u64) pnv fun (i : Nat) => AV.y IntKind.u64 (pw i)) (mst (yAnd (yNle pnk 80) (yNle pnv 80)) ((yNot (fitsC pi pnk (fun (i : Nat) => pk i) pnv cf) = true → rE L = true ∧ rN L = nat_lit 0 ∧ rN L = nat_lit 0 ∧ true = true ∧ true = true) ∧ (yNot (fitsC pi pnk (fun (i : Nat) => pk i) pnv cf) = false → mst (goalRotRI_6 xnk xk) (mst (goalRotRI_7 xnv xw) (mst (yAnd (yNle xnk 80) (yNle xnv 80)) ((yNot (fitsC true xnk (fun (i : Nat) => xk i) xnv cf) = true → rE L = true ∧ rN L = nat_lit 0 ∧ rN L = nat_lit 0 ∧ true = true ∧ true = true) ∧ (yNot (fitsC true xnk (fun (i : Nat) => xk i) xnv cf) = false → (yNot pi = true → rE L = true ∧ rN L = nat_lit 0 ∧ rN L = nat_lit 0 ∧ true = true ∧ true = true) ∧ (yNot pi = false → (yNot (yEq (yInt pnv) 1) = true → rE L = true ∧ rN L = nat_lit 0 ∧ rN L = nat_lit 0 ∧ true = true ∧ true = true) ∧ (yNot (yEq (yInt pnv) 1) = false → (yLt (yInt xnv) (2 : Int) = true → rE L = true ∧ rN L = nat_lit 0 ∧ rN L = nat_lit 0 ∧ true = true ∧ true = true) ∧ (yLt (yInt xnv) (2 : Int) = false → mst (goalRotRI_6 xnk xk) (mst (goalRotRI_7 xnv xw) (mst (yAnd (yAnd (yNle 2 xnv) (yNle xnv 80)) (yAnd (yAnd (nilOk xkn xnk) (nilOk xvn xnv)) (yAnd (yNeq xnv (yNadd xnk 1)) (risesB (fun (i : Nat) => xk i) xnk)))) (mst (yCol (CK.int IntKind.u64) fnk fun (i : Nat) => AV.y IntKind.u64 (fk i)) (mst (yCol (CK.int IntKind.u64) fnv fun (i : Nat) => AV.y IntKind.u64 (fw i)) (mst (yCol (CK.int IntKind.u64) (yNsub xnk (hvM xnv)) fun (i : Nat) => AV.y IntKind.u64 (shf (hvM xnv) (fun (i : Nat) => xk i) i)) (mst (yCol (CK.int IntKind.u64) (yNsub xnv (hvM xnv)) fun (i : Nat) => AV.y IntKind.u64 (shf (hvM xnv) (fun (i : Nat) => xw i) i)) (mst (yAnd (rightC cs ct cf cl cp) (goalRotRI_8 fv xnv xnk fs cs cf)) (mst (goalRotRI_6 xnk xk) (mst (goalRotRI_7 xnv xw) (mst (yAnd (yLe 0 xv) (yLt xv 18446744073709551616)) (mst (yCol (CK.int IntKind.u64) fnk fun (i : Nat) => AV.y IntKind.u64 (fk i)) (mst (yCol (CK.int IntKind.u64) fnv fun (i : Nat) => AV.y IntKind.u64 (fw i)) (mst (yAnd (yLe 0 fv) (yLt fv 18446744073709551616)) (mst (yNeq 0 0) (mst (yNeq (rN (goalRotRI_2 cs ct cf fs fv xnv xk xw xl)) (rN (goalRotRI_2 cs ct cf fs fv xnv xk xw xl))) (mst (yCol (CK.int IntKind.i64) (rN (goalRotRI_2 cs ct cf fs fv xnv xk xw xl)) fun (i : Nat) => AV.y IntKind.i64 (rA (goalRotRI_2 cs ct cf fs fv xnv xk xw xl) i)) (mst (yCol (CK.int IntKind.u64) (rN (goalRotRI_2 cs ct cf fs fv xnv xk xw xl)) fun (i : Nat) => AV.y IntKind.u64 (rB (goalRotRI_2 cs ct cf fs fv xnv xk xw xl) i)) (mst (yCol (CK.int IntKind.u64) tnk fun (i : Nat) => AV.y IntKind.u64 (tk i)) (mst (yCol (CK.int IntKind.u64) tnv fun (i : Nat) => AV.y IntKind.u64 (tw i)) (mst (yAnd (rightC cs ct cf cl cp) (goalRotRI_9 tv cs ct cf fs fv xnv xk xw xl ts)) (mst (yAnd (yAnd (rightC cs ct cf cl cp) (yAnd (yLe 0 ps) (yLe ps cs))) (yAnd (yLe 0 0) (yLt 0 cf))) (mst (yCol (CK.int IntKind.u64) tnk fun (i : Nat) => AV.y IntKind.u64 (tk i)) (mst (yCol (CK.int IntKind.u64) tnv fun (i : Nat) => AV.y IntKind.u64 (tw i)) (mst (yAnd (yLe 0 tv) (yLt tv 18446744073709551616)) (mst (yNeq (rN (goalRotRI_0 cs ct cf ts tv xk xnv xs xv fs fv xw xl)) (rN (goalRotRI_0 cs ct cf ts tv xk xnv xs xv fs fv xw xl))) (mst (yGrow (goalRotRI_5 cs ct cf ts tv xk xnv xs xv fs fv xw xl) 16) (mst (yAnd (rightC cs ct cf cl cp) (yAnd (yLe 0 xs) (yLe xs cs))) (mst (true) (mst (yNeq (goalRotRI_5 cs ct cf ts tv xk xnv xs xv fs fv xw xl) (goalRotRI_5 cs ct cf ts tv xk xnv xs xv fs fv xw xl)) (mst (yGrow (yNadd (goalRotRI_5 cs ct cf ts tv xk xnv xs xv fs fv xw xl) 1) 16) (mst (yAnd (yLe 0 fv) (yLt fv 18446744073709551616)) (mst (yAnd (rightC cs ct cf cl cp) (yAnd (yLe 0 fs) (yLe fs cs))) (mst (yAnd (yLe 0 (renewC fv)) (yLt (renewC fv) 18446744073709551616)) (mst (yNeq (yNadd (goalRotRI_5 cs ct cf ts tv xk xnv xs xv fs fv xw xl) 1) (yNadd (goalRotRI_5 cs ct cf ts tv xk xnv xs xv fs fv xw xl) 1)) (mst (yGrow (goalRotRI_3 cs ct cf ts tv xk xnv xs xv fs fv xw xl) 16) (mst (yAnd (yLe 0 tv) (yLt tv 18446744073709551616)) (mst (yAnd (rightC cs ct cf cl cp) (yAnd (yLe 0 ts) (yLe ts cs))) (mst (yAnd (yLe 0 (renewC tv)) (yLt (renewC tv) 18446744073709551616)) (mst (yNeq (goalRotRI_3 cs ct cf ts tv xk xnv xs xv fs fv xw xl) (goalRotRI_3 cs ct cf ts tv xk xnv xs xv fs fv xw xl)) (mst (yGrow (yNadd (goalRotRI_3 cs ct cf ts tv xk xnv xs xv fs fv xw xl) 1) 16) (mst (yAnd (rightC cs ct cf cl cp) (yAnd (yLe 0 xs) (yLe xs cs))) (mst (yAnd (yLe 0 xv) (yLt xv 18446744073709551616)) (mst (yNeq (yNadd (goalRotRI_3 cs ct cf ts tv xk xnv xs xv fs fv xw xl) 1) (yNadd (goalRotRI_3 cs ct cf ts tv xk xnv xs xv fs fv xw xl) 1)) (mst (yGrow (goalRotRI_4 cs ct cf ts tv xk xnv xs xv fs fv xw xl) 16) (mst (yAnd (rightC cs ct cf cl cp) (yAnd (yLe 0 ps) (yLe ps cs))) (mst (yAnd (yLe 0 pv) (yLt pv 18446744073709551616)) (mst (yNeq (goalRotRI_4 cs ct cf ts tv xk xnv xs xv fs fv xw xl) (goalRotRI_4 cs ct cf ts tv xk xnv xs xv fs fv xw xl)) (mst (yGrow (yNadd (goalRotRI_4 cs ct cf ts tv xk xnv xs xv fs fv xw xl) 1) 16) (rE L = yAnd (yAnd (yAnd (yAnd (yAnd (yAnd (rE (goalRotRI_0 cs ct cf ts tv xk xnv xs xv fs fv xw xl)) (yNeq 1 0)) (yNeq 1 0)) (yNeq 1 0)) (yNeq 1 0)) (yNeq 1 0)) (yNeq 1 0) ∧ nat_lit 0 = nat_lit 0 ∧ rN L = yNadd (goalRotRI_4 cs ct cf ts tv xk xnv xs xv fs fv xw xl) 1 ∧ rN L = yNadd (goalRotRI_4 cs ct cf ts tv xk xnv xs xv fs fv xw xl) 1 ∧ (∀ (i : Nat), Nat.succ i ≤ rN L → rA L i = ySel (yNlt i (goalRotRI_4 cs ct cf ts tv xk xnv xs xv fs fv xw xl)) (ySel (yNlt i (yNadd (goalRotRI_3 cs ct cf ts tv xk xnv xs xv fs fv xw xl) 1)) (ySel (yNlt i (goalRotRI_3 cs ct cf ts tv xk xnv xs xv fs fv xw xl)) (ySel (yNlt i (yNadd (goalRotRI_5 cs ct cf ts tv xk xnv xs xv fs fv xw xl) 1)) (ySel (yNlt i (goalRotRI_5 cs ct cf ts tv xk xnv xs xv fs fv xw xl)) (ySel (yNlt i (rN (goalRotRI_0 cs ct cf ts tv xk xnv xs xv fs fv xw xl))) (rA (goalRotRI_0 cs ct cf ts tv xk xnv xs xv fs fv xw xl) i) (valC cs ct cf ps 0)) (shapeC cs ct cf xs)) (verC cs ct cf fs)) (verC cs ct cf ts)) (verC cs ct cf xs)) (verC cs ct cf ps) ∧ rB L i = ySel (yNlt i (goalRotRI_4 cs ct cf ts tv xk xnv xs xv fs fv xw xl)) (ySel (yNlt i (yNadd (goalRotRI_3 cs ct cf ts tv xk xnv xs xv fs fv xw xl) 1)) (ySel (yNlt i (goalRotRI_3 cs ct cf ts tv xk xnv xs xv fs fv xw xl)) (ySel (yNlt i (yNadd (goalRotRI_5 cs ct cf ts tv xk xnv xs xv fs fv xw xl) 1)) (ySel (yNlt i (goalRotRI_5 cs ct cf ts tv xk xnv xs xv fs fv xw xl)) (ySel (yNlt i (rN (goalRotRI_0 cs ct cf ts tv xk xnv xs xv fs fv xw xl))) (rB (goalRotRI_0 cs ct cf ts tv xk xnv xs xv fs fv xw xl) i) (freshC ts tv)) (packC true (yInt (hvM xnv)))) (bumpC (renewC fv))) (bumpC (renewC tv))) (bumpC xv)) (bumpC pv) ∧ True) ∧ true = true))))))))))))))))))))))))))))))))))))))))))))))))))))))))))))))))))))))))))
def goalRotRIV : Prop := (∀ (cs ct cf cl cp ps pv : Int) (pi pkn : Bool) (pnk : Nat) (pk : Nat → Int) (pvn : Bool) (pnv : Nat) (pw : Nat → Int) (pl xs xv : Int) (xkn : Bool) (xnk : Nat) (xk : Nat → Int) (xvn : Bool) (xnv : Nat) (xw : Nat → Int) (xl fs fv : Int) (fi fkn : Bool) (fnk : Nat) (fk : Nat → Int) (fvn : Bool) (fnv : Nat) (fw : Nat → Int) (fl ts tv : Int) (ti tkn : Bool) (tnk : Nat) (tk : Nat → Int) (tvn : Bool) (tnv : Nat) (tw : Nat → Int) (tl : Int) (L : List (Int × Int)), rightC cs ct cf cl cp = true → yAnd (yLe 0 pv) (yLt pv 18446744073709551616) = true → yAnd (yLe 0 xv) (yLt xv 18446744073709551616) = true → yAnd (yLe 0 fv) (yLt fv 18446744073709551616) = true → yAnd (yLe 0 (renewC fv)) (yLt (renewC fv) 18446744073709551616) = true → yAnd (yLe 0 tv) (yLt tv 18446744073709551616) = true → yAnd (yLe 0 (renewC tv)) (yLt (renewC tv) 18446744073709551616) = true → yAnd (yNle pnk 80) (yNle pnv 80) = true → yAnd (yAnd (yNle xnk 80) (yNle xnv 80)) (yAnd (nilOk xkn xnk) (nilOk xvn xnv)) = true → L = rotL cs ct cf ps pv pi pnk pk pnv xs xv true xnk xk xnv xw xl fs fv ts tv → (yLt ps (0 : Int) = true → rE L = true ∧ rN L = nat_lit 0 ∧ rN L = nat_lit 0 ∧ true = true ∧ true = true) ∧ (yLt ps (0 : Int) = false → (yLt cs ps = true → rE L = true ∧ rN L = nat_lit 0 ∧ rN L = nat_lit 0 ∧ true = true ∧ true = true) ∧ (yLt cs ps = false → (yEq ps (0 : Int) = true → (yLt xs (0 : Int) = true → rE L = true ∧ rN L = nat_lit 0 ∧ rN L = nat_lit 0 ∧ true = true ∧ true = true) ∧ (goalRotRI_1 xs cs L ps fs ts pnk pk pnv pw pi cf xnk xk xnv xw xkn xvn fnk fk fnv fw ct cl cp fv xv xl tnk tk tnv tw tv pv)) ∧ (yEq ps (0 : Int) = false → (yLt xs (0 : Int) = true → rE L = true ∧ rN L = nat_lit 0 ∧ rN L = nat_lit 0 ∧ true = true ∧ true = true) ∧ (goalRotRI_1 xs cs L ps fs ts pnk pk pnv pw pi cf xnk xk xnv xw xkn xvn fnk fk fnv fw ct cl cp fv xv xl tnk tk tnv tw tv pv)))))
theorem goalRotRI_eq : goalRotRI = goalRotRIV := by kernel_rfl
set_option maxHeartbeats 16000000 in
theorem goalRotRI_vc : goalRotRIV := by
 unfold goalRotRIV goalRotRI_1 goalRotRI_9 goalRotRI_8 goalRotRI_7 goalRotRI_6 goalRotRI_4 goalRotRI_3 goalRotRI_5 goalRotRI_0 goalRotRI_2
 intro cs ct cf cl cp ps pv pi pkn pnk pk pvn pnv pw pl xs xv xkn xnk xk xvn xnv xw xl fs fv fi fkn fnk fk fvn fnv fw fl ts tv ti tkn tnk tk tvn tnv tw tl L hr hpv hxv hfv hrv htv hrt hp8 hx8 hL
 have hv1 := verC_or (a := ps) hr
 have hv2 := verC_or (a := xs) hr
 have hv3 := verC_or (a := fs) hr
 have hv4 := verC_or (a := ts) hr
 have hc := rightC_iff.1 hr
 simp only [yAnd_t, yLe_t, yLt_t, yNle_t, nilOk_t] at hpv hxv hfv hrv hp8 hx8 htv hrt
 have hsp : rotOk cs cf ps pi pnk pk pnv xs true xnk xk xnv fs ts = true ↔ (apart4 cs ps xs fs ts = true ∧ fitsC pi pnk pk pnv cf = true ∧ fitsC true xnk xk xnv cf = true ∧ pi = true ∧ pnv = 1 ∧ 2 ≤ xnv) := decide_eq_true_iff
 rw [apart4_t] at hsp
 unfold rotL at hL
 have hT : (true = yNeq 0 0) = True := eq_true rfl
 cases hfp : fitsC pi pnk pk pnv cf
 · rw [if_neg (fun h => by rw [hsp, hfp] at h; exact absurd h.2.1 (by simp))] at hL
   subst hL
   simp only [vS, forall_const, hr, hfp, yCol_int, hp8, false_or, or_false, not_true_eq_false]
   repeat' (first | apply And.intro | intro _)
   all_goals first | rfl | trivial | omega | (exfalso; omega)
 cases hfx : fitsC true xnk xk xnv cf
 · rw [if_neg (fun h => by rw [hsp, hfx] at h; exact absurd h.2.2.1 (by simp))] at hL
   subst hL
   simp only [vS, forall_const, hr, hfp, hfx, yCol_int, hp8, hx8, false_or, or_false, not_true_eq_false]
   repeat' (first | apply And.intro | intro _)
   all_goals first | rfl | trivial | omega | (exfalso; omega)
 have kx := fits_t.1 hfx
 have hrs : risesB xk xnk = true := risesB_iff.2 kx.2.2
 have kx2 : xnv = xnk + 1 := by have := kx.2.1; simpa using this
 have neg : ¬ (pi = true ∧ pnv = 1 ∧ 2 ≤ xnv) → L = [] := fun hn => by rw [hL, if_neg (fun h => by rw [hsp] at h; exact hn h.2.2.2)]
 cases pi with
 | false =>
   obtain rfl := neg (fun h => by cases h.1)
   clear hsp hL neg
   simp only [vS, forall_const, hr, hfp, hfx, yCol_int, hp8, hx8, false_or, or_false, not_true_eq_false, Bool.false_eq_true, false_implies]
   repeat' (first | apply And.intro | intro _)
   all_goals first | rfl | trivial | omega | (exfalso; omega)
 | true =>
 by_cases hp1 : (pnv : Int) = 1
 case neg =>
   obtain rfl := neg (fun h => hp1 (by omega))
   clear hsp hL neg
   simp only [vS, forall_const, hr, hfp, hfx, hp1, yCol_int, hp8, hx8, false_or, or_false, not_true_eq_false, false_implies, not_false_eq_true]
   repeat' (first | apply And.intro | intro _)
   all_goals first | rfl | trivial | omega | (exfalso; omega)
 by_cases h2 : 2 ≤ (xnv : Int)
 case neg =>
   obtain rfl := neg (fun h => h2 (by omega))
   clear hsp hL neg
   have h2b : (xnv : Int) < 2 := by omega
   simp only [vS, forall_const, hr, hfp, hfx, h2, h2b, yCol_int, hp8, hx8, false_or, or_false, not_true_eq_false, false_implies, not_false_eq_true]
   repeat' (first | apply And.intro | intro _)
   all_goals first | rfl | trivial | omega | (exfalso; omega)
 clear neg
 have hp1 : pnv = 1 := by omega
 have h2 : 2 ≤ xnv := by omega
 have hm := hv_bnd h2
 have hkn : nilOk xkn xnk = true := nilOk_t.2 hx8.2.1
 have hvn : nilOk xvn xnv = true := nilOk_t.2 hx8.2.2
 have neg : ¬ ((0 ≤ ps ∧ ps ≤ cs) ∧ (1 ≤ xs ∧ xs ≤ cs) ∧ (1 ≤ fs ∧ fs ≤ cs) ∧ (1 ≤ ts ∧ ts ≤ cs) ∧ ps ≠ xs ∧ ps ≠ fs ∧ xs ≠ fs ∧ ps ≠ ts ∧ xs ≠ ts ∧ fs ≠ ts) → L = [] := fun hn => by rw [hL, if_neg (fun h => by rw [hsp] at h; exact hn h.1)]
 have F := And.intro hr (And.intro hfp (And.intro hfx (And.intro hrs (And.intro hkn (And.intro hvn (And.intro hp8 hx8))))))
 by_cases c0 : ps < 0
 case pos =>
   have B := slLo hv1 c0 hc.1
   obtain rfl := neg (by omega)
   clear hsp hL neg
   simp only [vS, forall_const, vT, F, B]
   repeat' (first | apply And.intro | intro _)
   all_goals first | rfl | trivial | (exfalso; omega)
 by_cases c1 : cs < ps
 case pos =>
   have B := slHi hv1 c1 hc.1
   obtain rfl := neg (by omega)
   clear hsp hL neg
   simp only [vS, forall_const, vT, F, B]
   repeat' (first | apply And.intro | intro _)
   all_goals first | rfl | trivial | (exfalso; omega)
 have G0 := slTo hv1 c0 c1
 by_cases c0 : xs < 0
 case pos =>
   have B := slLo hv2 c0 hc.1
   obtain rfl := neg (by omega)
   clear hsp hL neg
   simp only [vS, forall_const, vT, F, G0, B]
   repeat' (first | apply And.intro | intro _)
   all_goals first | rfl | trivial | (exfalso; omega)
 by_cases c1 : cs < xs
 case pos =>
   have B := slHi hv2 c1 hc.1
   obtain rfl := neg (by omega)
   clear hsp hL neg
   simp only [vS, forall_const, vT, F, G0, B]
   repeat' (first | apply And.intro | intro _)
   all_goals first | rfl | trivial | (exfalso; omega)
 by_cases c2 : xs = 0
 case pos =>
   have B := slZe hv2 c2 hc.1
   obtain rfl := neg (by omega)
   clear hsp hL neg
   simp only [vS, forall_const, vT, F, G0, B]
   repeat' (first | apply And.intro | intro _)
   all_goals first | rfl | trivial | (exfalso; omega)
 have G1 := slIn hv2 c0 c1 c2
 by_cases c3 : ps = xs
 case pos =>
   have B := eq_true c3
   obtain rfl := neg (by omega)
   clear hsp hL neg
   simp only [vS, forall_const, vT, F, G0, G1, B]
   repeat' (first | apply And.intro | intro _)
   all_goals first | rfl | trivial | (exfalso; omega)
 have E01 := eq_false c3
 by_cases c0 : fs < 0
 case pos =>
   have B := slLo hv3 c0 hc.1
   obtain rfl := neg (by omega)
   clear hsp hL neg
   simp only [vS, forall_const, vT, F, G0, G1, E01, B]
   repeat' (first | apply And.intro | intro _)
   all_goals first | rfl | trivial | (exfalso; omega)
 by_cases c1 : cs < fs
 case pos =>
   have B := slHi hv3 c1 hc.1
   obtain rfl := neg (by omega)
   clear hsp hL neg
   simp only [vS, forall_const, vT, F, G0, G1, E01, B]
   repeat' (first | apply And.intro | intro _)
   all_goals first | rfl | trivial | (exfalso; omega)
 by_cases c2 : fs = 0
 case pos =>
   have B := slZe hv3 c2 hc.1
   obtain rfl := neg (by omega)
   clear hsp hL neg
   simp only [vS, forall_const, vT, F, G0, G1, E01, B]
   repeat' (first | apply And.intro | intro _)
   all_goals first | rfl | trivial | (exfalso; omega)
 have G2 := slIn hv3 c0 c1 c2
 by_cases c3 : ps = fs
 case pos =>
   have B := eq_true c3
   obtain rfl := neg (by omega)
   clear hsp hL neg
   simp only [vS, forall_const, vT, F, G0, G1, E01, G2, B]
   repeat' (first | apply And.intro | intro _)
   all_goals first | rfl | trivial | (exfalso; omega)
 have E02 := eq_false c3
 by_cases c3 : xs = fs
 case pos =>
   have B := eq_true c3
   obtain rfl := neg (by omega)
   clear hsp hL neg
   simp only [vS, forall_const, vT, F, G0, G1, E01, G2, E02, B]
   repeat' (first | apply And.intro | intro _)
   all_goals first | rfl | trivial | (exfalso; omega)
 have E12 := eq_false c3
 by_cases c0 : ts < 0
 case pos =>
   have B := slLo hv4 c0 hc.1
   obtain rfl := neg (by omega)
   clear hsp hL neg
   simp only [vS, forall_const, vT, F, G0, G1, E01, G2, E02, E12, B]
   repeat' (first | apply And.intro | intro _)
   all_goals first | rfl | trivial | (exfalso; omega)
 by_cases c1 : cs < ts
 case pos =>
   have B := slHi hv4 c1 hc.1
   obtain rfl := neg (by omega)
   clear hsp hL neg
   simp only [vS, forall_const, vT, F, G0, G1, E01, G2, E02, E12, B]
   repeat' (first | apply And.intro | intro _)
   all_goals first | rfl | trivial | (exfalso; omega)
 by_cases c2 : ts = 0
 case pos =>
   have B := slZe hv4 c2 hc.1
   obtain rfl := neg (by omega)
   clear hsp hL neg
   simp only [vS, forall_const, vT, F, G0, G1, E01, G2, E02, E12, B]
   repeat' (first | apply And.intro | intro _)
   all_goals first | rfl | trivial | (exfalso; omega)
 have G3 := slIn hv4 c0 c1 c2
 by_cases c3 : ps = ts
 case pos =>
   have B := eq_true c3
   obtain rfl := neg (by omega)
   clear hsp hL neg
   simp only [vS, forall_const, vT, F, G0, G1, E01, G2, E02, E12, G3, B]
   repeat' (first | apply And.intro | intro _)
   all_goals first | rfl | trivial | (exfalso; omega)
 have E03 := eq_false c3
 by_cases c3 : xs = ts
 case pos =>
   have B := eq_true c3
   obtain rfl := neg (by omega)
   clear hsp hL neg
   simp only [vS, forall_const, vT, F, G0, G1, E01, G2, E02, E12, G3, E03, B]
   repeat' (first | apply And.intro | intro _)
   all_goals first | rfl | trivial | (exfalso; omega)
 have E13 := eq_false c3
 by_cases c3 : fs = ts
 case pos =>
   have B := eq_true c3
   obtain rfl := neg (by omega)
   clear hsp hL neg
   simp only [vS, forall_const, vT, F, G0, G1, E01, G2, E02, E12, G3, E03, E13, B]
   repeat' (first | apply And.intro | intro _)
   all_goals first | rfl | trivial | (exfalso; omega)
 have E23 := eq_false c3
 clear neg
 have hap : (0 ≤ ps ∧ ps ≤ cs) ∧ (1 ≤ xs ∧ xs ≤ cs) ∧ (1 ≤ fs ∧ fs ≤ cs) ∧ (1 ≤ ts ∧ ts ≤ cs) ∧ ps ≠ xs ∧ ps ≠ fs ∧ xs ≠ fs ∧ ps ≠ ts ∧ xs ≠ ts ∧ fs ≠ ts := by omega
 rw [if_pos (hsp.2 ⟨hap, hfp, hfx, rfl, hp1, h2⟩)] at hL
 clear hsp
 have hK : splK true xk xnv = xk (hvK true (hvM xnv)) := rfl
 have hb := begL_len (i := true) (cs := cs) (ct := ct) (cf := cf) (s := fs) (v := fv) (k := shf (hvM xnv) xk) (w := shf (hvM xnv) xw) (l := hvLk true xl) (n0 := 0) (a0 := fun _ => 0) (b0 := fun _ => 0) (nv := xnv - hvM xnv)
 obtain ⟨B, hB⟩ : ∃ B, B = begL true cs ct cf fs fv (shf (hvM xnv) xk) (shf (hvM xnv) xw) (hvLk true xl) 0 (fun _ => 0) (fun _ => 0) (xnv - hvM xnv) := ⟨_, rfl⟩
 rw [← hB] at hb
 have hI : (rE B = yNeq (rN B) 0) = True := eq_true (by rw [hb.2.2]; unfold yNeq; rw [eq_comm, decide_eq_false_iff_not]; omega)
 obtain ⟨X, hX⟩ : ∃ X, X = begL true cs ct cf ts tv (litI 1 [AV.y IntKind.u64 (xk (hvK true (hvM xnv)))] 0) (litI 1 [AV.y IntKind.u64 (handC xs xv), AV.y IntKind.u64 (freshC fs fv)] 0) 0 (rN B) (rA B) (rB B) 2 := ⟨_, rfl⟩
 have hL2 : L = X ++ [(valC cs ct cf ps 0, freshC ts tv)] ++ [(shapeC cs ct cf xs, packC true (hvM xnv : Nat))] ++ [(verC cs ct cf fs, bumpC (renewC fv))] ++ [(verC cs ct cf ts, bumpC (renewC tv))] ++ [(verC cs ct cf xs, bumpC xv)] ++ [(verC cs ct cf ps, bumpC pv)] := by
   rw [hL, hX, hK]
   have hBB : splB cs ct cf xs true xk xnv xw xl fs fv = B := by rw [hB]; simp [splB]
   rw [hBB, begL_two (k := fun _ => xk (hvK true (hvM xnv))) (k' := litI 1 [AV.y IntKind.u64 (xk (hvK true (hvM xnv)))] 0) (w := rotW xs xv fs fv) (w' := litI 1 [AV.y IntKind.u64 (handC xs xv), AV.y IntKind.u64 (freshC fs fv)] 0) rfl rfl rfl rfl]
 have hXn : rN X ≤ 400 ∧ 1 ≤ rN X ∧ rE X = false := by
   have := begL_len (i := true) (cs := cs) (ct := ct) (cf := cf) (s := ts) (v := tv) (k := litI 1 [AV.y IntKind.u64 (xk (hvK true (hvM xnv)))] 0) (w := litI 1 [AV.y IntKind.u64 (handC xs xv), AV.y IntKind.u64 (freshC fs fv)] 0) (l := 0) (n0 := rN B) (a0 := rA B) (b0 := rB B) (nv := 2)
   rw [← hX] at this
   exact ⟨by omega, by omega, this.2.2⟩
 clear hL
 simp only [vS, forall_const, vT, hT, hI, yNsub_e, ← hB, F, G0, G1, E01, G2, E02, E12, G3, E03, E13, E23]
 simp only [← hX]
 repeat' (first | apply And.intro | intro _)
 all_goals first
   | rfl
   | trivial
   | omega
   | (exfalso; omega)
   | (simp only [hb.2.2, hXn.2.2, yAnd, yNeq] at *; omega)
   | (rw [hL2, rE_snoc, yAnd10]; done)
   | (rw [hL2]; exact rN_snoc6 _ _ _ _ _ _ _)
   | (rename_i hq; rw [hL2] at hq ⊢; rw [rN_snoc6] at hq; first | exact rA_snoc6 _ _ _ _ _ _ _ hq | exact rB_snoc6 _ _ _ _ _ _ _ hq)
theorem goalRotRI_tt : (goalRotRI) = True := goalRotRI_eq.trans (eq_true goalRotRI_vc)
theorem goalRotRI_ok : goalRotRI := @ft' goalRotRI goalRotRI_tt
end Go.Proofs.YtjhbimdaeofdlaaGreatDoor.Ex
end
section
namespace Go.Proofs.YtjhbimdaeofdlaaGreatDoor.Ex
open Go Go.RowKit
theorem yNeq_sym {a b : Nat} (h : yNeq a b = true) : yNeq b a = true := by rw [yNeq_t] at h ⊢; exact h.symm
theorem smMust : SmCall Tryz.prog 178 (fun args h => (ctS gW fMust args h).sel) :=
 ctS_hand Tryz.func178 (by kernel_rfl) (by kernel_rfl) fun ds a us w hF hd gw => by
   unfold fMust at hF
   split at hF
   · simp only [Option.some.injEq, Prod.mk.injEq] at hF
     obtain ⟨rfl, rfl⟩ := hF
     obtain ⟨_, _, _, _, e1, rfl, hc, -, rfl⟩ := hd
     simp only [List.cons.injEq] at e1
     obtain ⟨rfl, -⟩ := e1
     simp only [DaR, DcR, AV.R] at hc
     subst hc
     exact (must_t w).mono fun e w' ⟨he, hw⟩ => ⟨.tuple #[], he, fun M => ⟨[], rfl, rfl⟩, by subst hw; exact Below.refl _ _⟩
   · cases hF
theorem smRs (hm : Tryz.prog.follows .mixedOrders = true) : SmCall Tryz.prog 262 (fun args h => (ctS gRs fRs args h).sel) :=
 ctS_ok hm noSm_ok (by decide) (fun ds a hd => by
   unfold fRs at hd
   split at hd
   · simp only [Option.some.injEq, Prod.mk.injEq] at hd
     obtain ⟨h1, rfl⟩ := hd
     have h2 := @goalRs_ok
     unfold goalRs at h2
     exact ⟨_, 1000, h2 _ _ _ h1⟩
   · cases hd)
theorem smRsn (hm : Tryz.prog.follows .mixedOrders = true) : SmCall Tryz.prog 78 (fun args h => (ctS gRsn fRsn args h).sel) :=
 ctS_ok hm noSm_ok (by decide) (fun ds a hd => by
   unfold fRsn at hd
   split at hd
   · simp only [Option.some.injEq, Prod.mk.injEq] at hd
     obtain ⟨h1, rfl⟩ := hd
     have h2 := @goalRsn_ok
     unfold goalRsn at h2
     exact ⟨_, 1000, h2 _ _ _ _ _ h1⟩
   · cases hd)
theorem smClnU (hm : Tryz.prog.follows .mixedOrders = true) : SmCall Tryz.prog 234 (fun args h => (ctX [plU] plU fClnU args h).sel) :=
 ctX_ok hm noSm_ok (fun ds r post h => by
   unfold fClnU at h
   split at h
   · simp only [Option.some.injEq, Prod.mk.injEq] at h
     obtain ⟨h1, rfl, rfl⟩ := h
     have h2 := @goalClnU_ok
     unfold goalClnU at h2
     exact ⟨_, 1000, h2 _ _ _ h1⟩
   · cases h)
theorem lTd_ok (hm : Tryz.prog.follows .mixedOrders = true) : SmAll Tryz.prog lTd := ⟨smRn hm, smMust, smRs hm, smClnU hm, trivial⟩
theorem lHv_ok (hm : Tryz.prog.follows .mixedOrders = true) : SmAll Tryz.prog (lHv Tryz.prog) := ⟨smTried hm (smL_ok (lTd_ok hm)), lTd_ok hm⟩
theorem smHv (hm : Tryz.prog.follows .mixedOrders = true) : SmCall Tryz.prog 76 (fun args h => (ctX [sNodeP] rHv (fHv false) args h).sel) :=
 ctX_lit hm (smL_ok (lHv_ok hm)) (fun ds r post h => by
   unfold fHv at h
   split at h
   · rename_i i kn nk k vn nv w l
     simp only [Option.some.injEq, Prod.mk.injEq, yAnd_t] at h
     obtain ⟨⟨h1, h2, h3, h4⟩, rfl, rfl⟩ := h
     cases i
     · have e : nv = nk := by simpa [yNeq_t, yNadd] using h3
       subst e
       have g := @goalHvL_ok
       unfold goalHvL at g
       exact ⟨[dNb false kn nv k vn nv w l], _, 1000, fun _ _ h => h, g kn k vn nv w l (hvM nv) (by simp only [yAnd_t]; exact h1) (by simp only [yAnd_t]; exact h2) h4 rfl⟩
     · have g := @goalHvI_ok
       unfold goalHvI at g
       exact ⟨[dNb true kn nk k vn nv w l], _, 1000, fun _ _ h => h, g kn nk k vn nv w l (hvM nv) (by simp only [yAnd_t]; exact h1) (by simp only [yAnd_t]; exact h2) (yNeq_sym h3) h4 rfl⟩
   · cases h)
theorem smC13 (hm : Tryz.prog.follows .mixedOrders = true) : SmCall Tryz.prog 115 (fun args h => (ctX [sNode, .sc, .sc, .sc] sNodeP fC13 args h).sel) :=
 ctX_ok hm noSm_ok (fun ds r post h => by
   unfold fC13 at h
   split at h
   · simp only [Option.some.injEq, Prod.mk.injEq, yAnd_t, yLe_t, yInt_e] at h
     obtain ⟨⟨h1, h2, ⟨h3, h4⟩, h5⟩, rfl, rfl⟩ := h
     rename_i i kn nk k vn nv w l a b l2
     obtain ⟨a, rfl⟩ : ∃ m : Nat, a = yInt m := ⟨a.toNat, by unfold yInt; omega⟩
     obtain ⟨c, rfl⟩ : ∃ m : Nat, b = yInt (yNadd a m) := ⟨b.toNat - a, by unfold yInt yNadd; unfold yInt at h4; omega⟩
     have g := @goalC13_ok
     unfold goalC13 at g
     rw [yNat_yInt, yNat_yInt, show yNsub (yNadd a c) a = c by unfold yNsub yNadd; omega]
     exact ⟨_, 1000, g i kn nk k vn nv w l l2 a c h1 h2 (by rw [yNle_t]; unfold yInt at h5; omega)⟩
   · cases h)
theorem smC12 (hm : Tryz.prog.follows .mixedOrders = true) : SmCall Tryz.prog 116 (fun args h => (ctX [sNode, .sc, .sc, .sc] sNodeP fC12 args h).sel) :=
 ctX_ok hm noSm_ok (fun ds r post h => by
   unfold fC12 at h
   split at h
   · simp only [Option.some.injEq, Prod.mk.injEq, yAnd_t, yLe_t, yInt_e] at h
     obtain ⟨⟨h1, h2, ⟨h3, h4⟩, h5⟩, rfl, rfl⟩ := h
     rename_i i kn nk k vn nv w l a b l2
     obtain ⟨a, rfl⟩ : ∃ m : Nat, a = yInt m := ⟨a.toNat, by unfold yInt; omega⟩
     obtain ⟨c, rfl⟩ : ∃ m : Nat, b = yInt (yNadd a m) := ⟨b.toNat - a, by unfold yInt yNadd; unfold yInt at h4; omega⟩
     have g := @goalC12_ok
     unfold goalC12 at g
     rw [yNat_yInt, yNat_yInt, show yNsub (yNadd a c) a = c by unfold yNsub yNadd; omega]
     exact ⟨_, 1000, g i kn nk k vn nv w l l2 a c h1 h2 (by rw [yNle_t]; unfold yInt at h5; omega)⟩
   · cases h)
theorem lHR_ok (hm : Tryz.prog.follows .mixedOrders = true) : SmAll Tryz.prog lHR := ⟨smC13 hm, smC12 hm, trivial⟩
theorem smHvR (hm : Tryz.prog.follows .mixedOrders = true) : SmCall Tryz.prog 25 (fun args h => (ctX [sNodeP] rHv (fHv true) args h).sel) :=
 ctX_lit hm (smL_ok (lHR_ok hm)) (fun ds r post h => by
   unfold fHv at h
   split at h
   · rename_i i kn nk k vn nv w l
     simp only [Option.some.injEq, Prod.mk.injEq, yAnd_t] at h
     obtain ⟨⟨h1, h2, h3, h4⟩, rfl, rfl⟩ := h
     cases i
     · have e : nv = nk := by simpa [yNeq_t, yNadd] using h3
       subst e
       have g := @goalHRL_ok
       unfold goalHRL at g
       exact ⟨[dNb false kn nv k vn nv w l], _, 1000, fun _ _ h => h, g kn k vn nv w l (hvM nv) (by simp only [yAnd_t]; exact h1) rfl⟩
     · have g := @goalHRI_ok
       unfold goalHRI at g
       exact ⟨[dNb true kn nk k vn nv w l], _, 1000, fun _ _ h => h, g kn nk k vn nv w l (hvM nv) (by simp only [yAnd_t]; exact h1) (yNeq_sym h3) rfl⟩
   · cases h)
theorem smOpnJ (hm : Tryz.prog.follows .mixedOrders = true) : SmCall Tryz.prog 68 (fun args h => (ctX [sPen, sPart, .sc, .sc, .sc] (.tup []) fOpnJ args h).sel) :=
 ctX_lit hm (smL_ok (lLay_ok hm)) (fun ds r post h => by
   unfold fOpnJ at h
   split at h
   · rename_i cs ct cf cl cp nil0 n0 a0 b0 s v i kn nk k vn nv w l j key val
     simp only [Option.some.injEq, Prod.mk.injEq, yAnd_t] at h
     obtain ⟨⟨q1, q2, q3, q4, q5, rfl, q7⟩, rfl, rfl⟩ := h
     obtain ⟨jn, rfl, q4'⟩ := yLe_nat q4
     rw [yNat_yInt]
     have g := @goalOpnI_ok
     unfold goalOpnI at g
     exact ⟨[dPen cs ct cf cl cp (.rows nil0 n0 [.int .i64 a0, .int .u64 b0]), dPb s v true kn nk k vn nv w l, .v (.y .i64 (yInt jn)), .v (.y .u64 key), .v (.y .u64 val)], _, 1000, fun _ _ h => h, g cs ct cf cl cp s v kn nk k vn nv w l nil0 n0 a0 b0 jn key val _ _ q1 q2 q3 q4' q5 (yNeq_sym q7) rfl rfl⟩
   · cases h)
theorem smOpRJ (hm : Tryz.prog.follows .mixedOrders = true) : SmCall Tryz.prog 82 (fun args h => (ctX [sConf, ownW, sPart, .sc, .sc, .sc] ownW fOpRJ args h).sel) :=
 ctX_ok hm (smL_ok (lLay_ok hm)) (fun ds r post h => by
   unfold fOpRJ at h
   split at h
   · rename_i cs ct cf cl cp nil0 n0 a0 b0 s v i kn nk k vn nv w l j key val
     simp only [Option.some.injEq, Prod.mk.injEq, yAnd_t] at h
     obtain ⟨⟨q1, q2, q3, q4, q5, ⟨rfl, q7⟩, q8, q9⟩, rfl, rfl⟩ := h
     obtain ⟨jn, rfl, q4'⟩ := yLe_nat q4
     rw [yNat_yInt]
     have g := @goalOpRI_ok
     unfold goalOpRI at g
     exact ⟨_, 1000, g cs ct cf cl cp s v kn nk k vn nv w l nil0 n0 a0 b0 jn key val _ _ q1 q2 q3 q4' q5 (yNeq_sym q7) (by simp only [yAnd_t]; exact q8) q9 rfl rfl⟩
   · cases h)
theorem smLnk (hm : Tryz.prog.follows .mixedOrders = true) : SmCall Tryz.prog 97 (fun args h => (ctS gL1 (fL1 linkC) args h).sel) := smL1 (f := 97) (F := linkC) hm @goalLnk_ok
theorem smLnkR (hm : Tryz.prog.follows .mixedOrders = true) : SmCall Tryz.prog 80 (fun args h => (ctS gL1 (fR1 linkC) args h).sel) := smR1 (f := 80) (F := linkC) hm @goalLnkR_ok
theorem smRnw (hm : Tryz.prog.follows .mixedOrders = true) : SmCall Tryz.prog 114 (fun args h => (ctS gW (fW renewC) args h).sel) := smW (f := 114) (F := renewC) hm @goalRenew_ok
theorem smRnwR (hm : Tryz.prog.follows .mixedOrders = true) : SmCall Tryz.prog 182 (fun args h => (ctS gW (fW renewC) args h).sel) := smW (f := 182) (F := renewC) hm @goalRenewR_ok
theorem lBeg_ok (hm : Tryz.prog.follows .mixedOrders = true) : SmAll Tryz.prog lBeg := ⟨smVer hm, smLnk hm, smRnw hm, smVerR hm, smLnkR hm, smRnwR hm, lLay_ok hm⟩
theorem smBg (hm : Tryz.prog.follows .mixedOrders = true) : SmCall Tryz.prog 87 (fun args h => (ctX [sPen, sPart, sNodeP] sPartP fBg args h).sel) :=
 ctX_lit hm (smL_ok (lBeg_ok hm)) (fun ds r post h => by
   unfold fBg at h
   split at h
   · rename_i cs ct cf cl cp nil0 n0 a0 b0 s v i0 kn0 nk0 k0 vn0 nv0 w0 l0 i kn nk k vn nv w l
     simp only [Option.some.injEq, Prod.mk.injEq, yAnd_t] at h
     obtain ⟨⟨q1, q2, q3, q4, q5, q7⟩, rfl, rfl⟩ := h
     cases i
     · have g := @goalBgL_ok
       unfold goalBgL goalBg at g
       exact ⟨[dPen cs ct cf cl cp (.rows nil0 n0 [.int .i64 a0, .int .u64 b0]), dPt s v i0 kn0 nk0 k0 vn0 nv0 w0 l0, dNb false kn nk k vn nv w l], _, 1000, fun _ _ h => h, g cs ct cf cl cp s v i0 kn0 nk0 k0 vn0 nv0 w0 l0 kn nk k vn nv w l nil0 n0 a0 b0 _ _ q1 q2 q3 q4 q5 (yNeq_sym q7) rfl rfl⟩
     · have g := @goalBgI_ok
       unfold goalBgI goalBg at g
       exact ⟨[dPen cs ct cf cl cp (.rows nil0 n0 [.int .i64 a0, .int .u64 b0]), dPt s v i0 kn0 nk0 k0 vn0 nv0 w0 l0, dNb true kn nk k vn nv w l], _, 1000, fun _ _ h => h, g cs ct cf cl cp s v i0 kn0 nk0 k0 vn0 nv0 w0 l0 kn nk k vn nv w l nil0 n0 a0 b0 _ _ q1 q2 q3 q4 q5 (yNeq_sym q7) rfl rfl⟩
   · cases h)
theorem smBR (hm : Tryz.prog.follows .mixedOrders = true) : SmCall Tryz.prog 79 (fun args h => (ctX [sConf, ownW, sPart, sNodeP] ownW fBR args h).sel) :=
 ctX_lit hm (smL_ok (lBeg_ok hm)) (fun ds r post h => by
   unfold fBR at h
   split at h
   · rename_i cs ct cf cl cp nil0 n0 a0 b0 s v i0 kn0 nk0 k0 vn0 nv0 w0 l0 i kn nk k vn nv w l
     simp only [Option.some.injEq, Prod.mk.injEq, yAnd_t] at h
     obtain ⟨⟨q1, q2, q3, q4, q5, q7, q8, q9⟩, rfl, rfl⟩ := h
     cases i
     · have g := @goalBRL_ok
       unfold goalBRL goalBR at g
       exact ⟨[dCf cs ct cf cl cp, .rows nil0 n0 [.int .i64 a0, .int .u64 b0], dPt s v i0 kn0 nk0 k0 vn0 nv0 w0 l0, dNb false kn nk k vn nv w l], _, 1000, fun _ _ h => h, g cs ct cf cl cp s v i0 kn0 nk0 k0 vn0 nv0 w0 l0 kn nk k vn nv w l nil0 n0 a0 b0 _ _ q1 q2 q3 q4 q5 (yNeq_sym q7) (by simp only [yAnd_t]; exact q8) q9 rfl rfl⟩
     · have g := @goalBRI_ok
       unfold goalBRI goalBR at g
       exact ⟨[dCf cs ct cf cl cp, .rows nil0 n0 [.int .i64 a0, .int .u64 b0], dPt s v i0 kn0 nk0 k0 vn0 nv0 w0 l0, dNb true kn nk k vn nv w l], _, 1000, fun _ _ h => h, g cs ct cf cl cp s v i0 kn0 nk0 k0 vn0 nv0 w0 l0 kn nk k vn nv w l nil0 n0 a0 b0 _ _ q1 q2 q3 q4 q5 (yNeq_sym q7) (by simp only [yAnd_t]; exact q8) q9 rfl rfl⟩
   · cases h)
theorem smAdd (hm : Tryz.prog.follows .mixedOrders = true) : SmCall Tryz.prog 77 (fun args h => (ctS gAdd fAdd args h).sel) :=
 ctS_hand Tryz.func77 (by kernel_rfl) (by kernel_rfl) fun ds a us w hF hd gw => by
   unfold fAdd at hF
   split at hF
   · simp only [Option.some.injEq, Prod.mk.injEq, yAnd_t, yNle_t] at hF
     obtain ⟨⟨h1, h2⟩, rfl⟩ := hF
     obtain ⟨_, _, _, _, e1, rfl, hn, _, _, _, _, e2, rfl, ha, _, _, _, _, e3, rfl, hx, _, _, _, _, e4, rfl, hy, e5, rfl⟩ := hd
     simp only [List.cons.injEq] at e1
     obtain ⟨rfl, rfl⟩ := e1
     simp only [List.cons.injEq] at e2
     obtain ⟨rfl, rfl⟩ := e2
     simp only [List.cons.injEq] at e3
     obtain ⟨rfl, rfl⟩ := e3
     simp only [List.cons.injEq] at e4
     obtain ⟨rfl, -⟩ := e4
     obtain ⟨_, rfl, _, _, _, _, f1, rfl, hi, _, _, _, _, f2, rfl, hk, _, _, _, _, f3, rfl, hv, _, _, _, _, f4, rfl, hl, -, rfl⟩ := hn
     simp only [List.cons.injEq] at f1
     obtain ⟨rfl, rfl⟩ := f1
     simp only [List.cons.injEq] at f2
     obtain ⟨rfl, rfl⟩ := f2
     simp only [List.cons.injEq] at f3
     obtain ⟨rfl, rfl⟩ := f3
     simp only [List.cons.injEq] at f4
     obtain ⟨rfl, -⟩ := f4
     simp only [DaR, DcR, AV.R] at hi hl ha hx hy
     subst hi hl ha hx hy
     exact (add_c hm gw hk hv h1 h2).mono fun e w' ⟨z0, p3, m3, k3, p4, m4, k4, z3, he, hb⟩ => ⟨_, he, fun M => ⟨_, ⟨_, _, ⟨_, ⟨_, _, (by simp only [AV.R]; rfl), ⟨_, _, (by simp only [AV.R]; rfl), ⟨_, _, (by simp only [AV.R]; rfl), ⟨_, _, (by simp only [AV.R]; rfl), rfl, rfl⟩, rfl⟩, rfl⟩, rfl⟩, rfl⟩, ⟨_, _, rfl, rfl, rfl⟩, rfl⟩, rfl⟩, hb⟩
   · cases hF
def fSpl (ds : List Dx) : Option (Bool × Dx × List (List Dx)) :=
 match ds with
 | [.l [.v (.y .i64 cs), .v (.y .i64 ct), .v (.y .i64 cf), .v (.y .i64 cl), .v (.y .i64 cp)], .l [.v (.y .i64 ps), .v (.y .u64 pv), .v (.yb pi), .rows _ pnk [.int .u64 pk], .rows _ pnv [.int .u64 pw], .v (.y .u64 _)], .v (.y .i64 at_), .l [.v (.y .i64 xs), .v (.y .u64 xv), .v (.yb xi), .rows xkn xnk [.int .u64 xk], .rows xvn xnv [.int .u64 xw], .v (.y .u64 xl)], .l [.v (.y .i64 fs), .v (.y .u64 fv), .v (.yb _), .rows _ _ [.int .u64 _], .rows _ _ [.int .u64 _], .v (.y .u64 _)]] =>
   some (yAnd (rightC cs ct cf cl cp) (yAnd (inU pv) (yAnd (inU xv) (yAnd (inU fv) (yAnd (yAnd (yNle pnk 80) (yNle pnv 80)) (preP2 xkn xvn xnk xnv))))), rowsW (splL cs ct cf ps pv pi pnk pk pnv pw at_ xs xv xi xnk xk xnv xw xl fs fv), [])
 | _ => none
def fRot (ds : List Dx) : Option (Bool × Dx × List (List Dx)) :=
 match ds with
 | [.l [.v (.y .i64 cs), .v (.y .i64 ct), .v (.y .i64 cf), .v (.y .i64 cl), .v (.y .i64 cp)], .l [.v (.y .i64 ps), .v (.y .u64 pv), .v (.yb pi), .rows _ pnk [.int .u64 pk], .rows _ pnv [.int .u64 _], .v (.y .u64 _)], .l [.v (.y .i64 xs), .v (.y .u64 xv), .v (.yb xi), .rows xkn xnk [.int .u64 xk], .rows xvn xnv [.int .u64 xw], .v (.y .u64 xl)], .l [.v (.y .i64 fs), .v (.y .u64 fv), .v (.yb _), .rows _ _ [.int .u64 _], .rows _ _ [.int .u64 _], .v (.y .u64 _)], .l [.v (.y .i64 ts), .v (.y .u64 tv), .v (.yb _), .rows _ _ [.int .u64 _], .rows _ _ [.int .u64 _], .v (.y .u64 _)]] =>
   some (yAnd (rightC cs ct cf cl cp) (yAnd (inU pv) (yAnd (inU xv) (yAnd (inU fv) (yAnd (inU tv) (yAnd (yAnd (yNle pnk 80) (yNle pnv 80)) (preP2 xkn xvn xnk xnv)))))), rowsW (rotL cs ct cf ps pv pi pnk pk pnv xs xv xi xnk xk xnv xw xl fs fv ts tv), [])
 | _ => none
theorem lPn_ok (hm : Tryz.prog.follows .mixedOrders = true) : SmAll Tryz.prog lPn :=
 ⟨smOpnJ hm, smBg hm, smHv hm, smAdd hm, smLnk hm, smL1 (f := 135) (F := shapeC) hm @goalShp_ok, smPk hm @goalPack_ok, smRnw hm, smHan hm @goalHand_ok, smHan hm @goalFresh_ok,
  smOpRJ hm, smBR hm, smHvR hm, smLnkR hm, smR1 (f := 118) (F := shapeC) hm @goalShpR_ok, smPk hm @goalPackR_ok, smRnwR hm, smHan hm @goalHandR_ok, smHan hm @goalFreshR_ok, smRsn hm, lShr_ok hm⟩
theorem smSpl {f : FuncId} (hm : Tryz.prog.follows .mixedOrders = true) (g1 : goalSpl Tryz.prog f false) (g2 : goalSpl Tryz.prog f true) : SmCall Tryz.prog f (fun args h => (ctX [sConf, sPartP, .sc, sPartP, sPartP] ownW fSpl args h).sel) :=
 ctX_lit hm (smL_ok (lPn_ok hm)) (fun ds r post h => by
   unfold fSpl at h
   split at h
   · rename_i cs ct cf cl cp ps pv pi pkn pnk pk pvn pnv pw pl at_ xs xv xi xkn xnk xk xvn xnv xw xl fs fv fi fkn fnk fk fvn fnv fw fl
     simp only [Option.some.injEq, Prod.mk.injEq] at h
     obtain ⟨h1, rfl, rfl⟩ := h
     rw [yAnd_t, yAnd_t, yAnd_t, yAnd_t, yAnd_t] at h1
     obtain ⟨q1, q2, q3, q4, q5, q6⟩ := h1
     cases xi
     · exact ⟨[dCf cs ct cf cl cp, dPt ps pv pi pkn pnk pk pvn pnv pw pl, .v (.y .i64 at_), dPb xs xv false xkn xnk xk xvn xnv xw xl, dPt fs fv fi fkn fnk fk fvn fnv fw fl], _, 1000, fun _ _ h => h, g1 cs ct cf cl cp ps pv pi pkn pnk pk pvn pnv pw pl at_ xs xv xkn xnk xk xvn xnv xw xl fs fv fi fkn fnk fk fvn fnv fw fl _ q1 q2 q3 q4 (inU_renew q4) q5 q6 rfl⟩
     · exact ⟨[dCf cs ct cf cl cp, dPt ps pv pi pkn pnk pk pvn pnv pw pl, .v (.y .i64 at_), dPb xs xv true xkn xnk xk xvn xnv xw xl, dPt fs fv fi fkn fnk fk fvn fnv fw fl], _, 1000, fun _ _ h => h, g2 cs ct cf cl cp ps pv pi pkn pnk pk pvn pnv pw pl at_ xs xv xkn xnk xk xvn xnv xw xl fs fv fi fkn fnk fk fvn fnv fw fl _ q1 q2 q3 q4 (inU_renew q4) q5 q6 rfl⟩
   · cases h)
theorem smRot {f : FuncId} (hm : Tryz.prog.follows .mixedOrders = true) (g1 : goalRot Tryz.prog f false) (g2 : goalRot Tryz.prog f true) : SmCall Tryz.prog f (fun args h => (ctX [sConf, sPartP, sPartP, sPartP, sPartP] ownW fRot args h).sel) :=
 ctX_lit hm (smL_ok (lPn_ok hm)) (fun ds r post h => by
   unfold fRot at h
   split at h
   · rename_i cs ct cf cl cp ps pv pi pkn pnk pk pvn pnv pw pl xs xv xi xkn xnk xk xvn xnv xw xl fs fv fi fkn fnk fk fvn fnv fw fl ts tv ti tkn tnk tk tvn tnv tw tl
     simp only [Option.some.injEq, Prod.mk.injEq] at h
     obtain ⟨h1, rfl, rfl⟩ := h
     rw [yAnd_t, yAnd_t, yAnd_t, yAnd_t, yAnd_t, yAnd_t] at h1
     obtain ⟨q1, q2, q3, q4, q4b, q5, q6⟩ := h1
     cases xi
     · exact ⟨[dCf cs ct cf cl cp, dPt ps pv pi pkn pnk pk pvn pnv pw pl, dPb xs xv false xkn xnk xk xvn xnv xw xl, dPt fs fv fi fkn fnk fk fvn fnv fw fl, dPt ts tv ti tkn tnk tk tvn tnv tw tl], _, 1000, fun _ _ h => h, g1 cs ct cf cl cp ps pv pi pkn pnk pk pvn pnv pw pl xs xv xkn xnk xk xvn xnv xw xl fs fv fi fkn fnk fk fvn fnv fw fl ts tv ti tkn tnk tk tvn tnv tw tl _ q1 q2 q3 q4 (inU_renew q4) q4b (inU_renew q4b) q5 q6 rfl⟩
     · exact ⟨[dCf cs ct cf cl cp, dPt ps pv pi pkn pnk pk pvn pnv pw pl, dPb xs xv true xkn xnk xk xvn xnv xw xl, dPt fs fv fi fkn fnk fk fvn fnv fw fl, dPt ts tv ti tkn tnk tk tvn tnv tw tl], _, 1000, fun _ _ h => h, g2 cs ct cf cl cp ps pv pi pkn pnk pk pvn pnv pw pl xs xv xkn xnk xk xvn xnv xw xl fs fv fi fkn fnk fk fvn fnv fw fl ts tv ti tkn tnk tk tvn tnv tw tl _ q1 q2 q3 q4 (inU_renew q4) q4b (inU_renew q4b) q5 q6 rfl⟩
   · cases h)
end Go.Proofs.YtjhbimdaeofdlaaGreatDoor.Ex
end
section
namespace Go.Proofs.YtjhbimdaeofdlaaGreatDoor.Ex
open Go Go.RowKit
abbrev avParts (cs ct cf cl cp : Int) (pps ppv : Int) (ppi ppkn : Bool) (ppnk : Nat) (ppk : Nat → Int) (ppvn : Bool) (ppnv : Nat) (ppw : Nat → Int) (ppl : Int) (aas aav : Int) (aai aakn : Bool) (aank : Nat) (aak : Nat → Int) (aavn : Bool) (aanv : Nat) (aaw : Nat → Int) (aal : Int) (bbs bbv : Int) (bbi bbkn : Bool) (bbnk : Nat) (bbk : Nat → Int) (bbvn : Bool) (bbnv : Nat) (bbw : Nat → Int) (bbl : Int) (ffs ffv : Int) (ffi ffkn : Bool) (ffnk : Nat) (ffk : Nat → Int) (ffvn : Bool) (ffnv : Nat) (ffw : Nat → Int) (ffl : Int) (tts ttv : Int) (tti ttkn : Bool) (ttnk : Nat) (ttk : Nat → Int) (ttvn : Bool) (ttnv : Nat) (ttw : Nat → Int) (ttl : Int) (xi xk xw : Int) : List AV := [.agg [.y .i64 cs, .y .i64 ct, .y .i64 cf, .y .i64 cl, .y .i64 cp, .y .i64 pps, .y .u64 ppv, .yb ppi, .lst false ppkn 1 ppnk (colF [.int .u64 ppk]), .lst false ppvn 1 ppnv (colF [.int .u64 ppw]), .y .u64 ppl, .y .i64 aas, .y .u64 aav, .yb aai, .lst false aakn 1 aank (colF [.int .u64 aak]), .lst false aavn 1 aanv (colF [.int .u64 aaw]), .y .u64 aal, .y .i64 bbs, .y .u64 bbv, .yb bbi, .lst false bbkn 1 bbnk (colF [.int .u64 bbk]), .lst false bbvn 1 bbnv (colF [.int .u64 bbw]), .y .u64 bbl, .y .i64 ffs, .y .u64 ffv, .yb ffi, .lst false ffkn 1 ffnk (colF [.int .u64 ffk]), .lst false ffvn 1 ffnv (colF [.int .u64 ffw]), .y .u64 ffl, .y .i64 tts, .y .u64 ttv, .yb tti, .lst false ttkn 1 ttnk (colF [.int .u64 ttk]), .lst false ttvn 1 ttnv (colF [.int .u64 ttw]), .y .u64 ttl, .y .i64 xi, .y .u64 xk, .y .u64 xw]]
def lPss : List (Nat × Sm) := [(64, .ct (ctS gConf fRight)), (8, .ct (ctS [.agg cParts] fSmall)), (12, .ct (ctX [sConf, sPartP, .sc, sPartP, sPartP] ownW fSpl)), (13, .ct (ctX [sConf, sPartP, .sc, sPartP, sPartP] ownW fSpl)),
 (15, .ct (ctX [sConf, sPartP, sPartP, sPartP, sPartP] ownW fRot)), (16, .ct (ctX [sConf, sPartP, sPartP, sPartP, sPartP] ownW fRot)), (11, .ct (ctS gSame fSame)), (9, .call (smB true))]
def goalPss : Prop := ∀ (cs ct cf cl cp : Int) (pps ppv : Int) (ppi ppkn : Bool) (ppnk : Nat) (ppk : Nat → Int) (ppvn : Bool) (ppnv : Nat) (ppw : Nat → Int) (ppl : Int) (aas aav : Int) (aai aakn : Bool) (aank : Nat) (aak : Nat → Int) (aavn : Bool) (aanv : Nat) (aaw : Nat → Int) (aal : Int) (bbs bbv : Int) (bbi bbkn : Bool) (bbnk : Nat) (bbk : Nat → Int) (bbvn : Bool) (bbnv : Nat) (bbw : Nat → Int) (bbl : Int) (ffs ffv : Int) (ffi ffkn : Bool) (ffnk : Nat) (ffk : Nat → Int) (ffvn : Bool) (ffnv : Nat) (ffw : Nat → Int) (ffl : Int) (tts ttv : Int) (tti ttkn : Bool) (ttnk : Nat) (ttk : Nat → Int) (ttvn : Bool) (ttnv : Nat) (ttw : Nat → Int) (ttl : Int) (xi xk xw : Int), inU ppv = true → inU aav = true → inU ffv = true → inU ttv = true → yAnd (nilOk aakn aank) (nilOk aavn aanv) = true →
 wxF Tryz.prog (smL lPss) (fun _ => none) 1000 3 (avParts cs ct cf cl cp pps ppv ppi ppkn ppnk ppk ppvn ppnv ppw ppl aas aav aai aakn aank aak aavn aanv aaw aal bbs bbv bbi bbkn bbnk bbk bbvn bbnv bbw bbl ffs ffv ffi ffkn ffnk ffk ffvn ffnv ffw ffl tts ttv tti ttkn ttnk ttk ttvn ttnv ttw ttl xi xk xw) heap0 (fun r _ => cmpC (.yb true) r)
theorem spl_len {cs ct cf ps pv : Int} {pi : Bool} {pnk : Nat} {pk : Nat → Int} {pnv : Nat} {pw : Nat → Int} {at_ xs xv : Int} {xi : Bool} {xnk : Nat} {xk : Nat → Int} {xnv : Nat} {xw : Nat → Int} {xl fs fv : Int} (h1 : pnv ≤ 80) (h2 : xnv ≤ 80) :
   rN (splL cs ct cf ps pv pi pnk pk pnv pw at_ xs xv xi xnk xk xnv xw xl fs fv) ≤ 1000000 := by
 unfold splL
 split
 · have a := begL_len (i := xi) (cs := cs) (ct := ct) (cf := cf) (s := fs) (v := fv) (k := shf (hvM xnv) xk) (w := shf (hvM xnv) xw) (l := hvLk xi xl) (n0 := 0) (a0 := fun _ => 0) (b0 := fun _ => 0) (nv := xnv - hvM xnv)
   have b : rN (splB cs ct cf xs xi xk xnv xw xl fs fv) ≤ 0 + 2 * (xnv - hvM xnv) + 3 + 1 := by
     unfold splB
     simp only [rN, List.length_append] at a ⊢
     cases xi <;> simp <;> omega
   have c := opIL_len (cs := cs) (ct := ct) (cf := cf) (s := ps) (k := pk) (w := pw) (n0 := rN (splB cs ct cf xs xi xk xnv xw xl fs fv)) (a0 := rA (splB cs ct cf xs xi xk xnv xw xl fs fv)) (b0 := rB (splB cs ct cf xs xi xk xnv xw xl fs fv)) (n := pnv) (j := yNat (at_ + 1)) (key := splK xi xk xnv) (val := freshC fs fv)
   rw [rN_snoc4]; omega
 · simp [rN]
theorem rot_len {cs ct cf ps pv : Int} {pi : Bool} {pnk : Nat} {pk : Nat → Int} {pnv : Nat} {xs xv : Int} {xi : Bool} {xnk : Nat} {xk : Nat → Int} {xnv : Nat} {xw : Nat → Int} {xl fs fv ts tv : Int} (h2 : xnv ≤ 80) :
   rN (rotL cs ct cf ps pv pi pnk pk pnv xs xv xi xnk xk xnv xw xl fs fv ts tv) ≤ 1000000 := by
 unfold rotL
 split
 · have a := begL_len (i := xi) (cs := cs) (ct := ct) (cf := cf) (s := fs) (v := fv) (k := shf (hvM xnv) xk) (w := shf (hvM xnv) xw) (l := hvLk xi xl) (n0 := 0) (a0 := fun _ => 0) (b0 := fun _ => 0) (nv := xnv - hvM xnv)
   have b : rN (splB cs ct cf xs xi xk xnv xw xl fs fv) ≤ 0 + 2 * (xnv - hvM xnv) + 3 + 1 := by
     unfold splB
     simp only [rN, List.length_append] at a ⊢
     cases xi <;> simp <;> omega
   have c := begL_len (i := true) (cs := cs) (ct := ct) (cf := cf) (s := ts) (v := tv) (k := fun _ => splK xi xk xnv) (w := rotW xs xv fs fv) (l := 0) (n0 := rN (splB cs ct cf xs xi xk xnv xw xl fs fv)) (a0 := rA (splB cs ct cf xs xi xk xnv xw xl fs fv)) (b0 := rB (splB cs ct cf xs xi xk xnv xw xl fs fv)) (nv := 2)
   rw [rN_snoc6]; omega
 · simp [rN]
def goalPss_0 (cs : Int) (ct : Int) (cf : Int) (pps : Int) (ppv : Int) (ppi : Bool) (ppnk : Nat) (ppk : Nat → Int) (ppnv : Nat) (ppw : Nat → Int) (xi : Int) (aas : Int) (aav : Int) (aai : Bool) (aank : Nat) (aak : Nat → Int) (aanv : Nat) (aaw : Nat → Int) (aal : Int) (ffs : Int) (ffv : Int) := splL cs ct cf pps ppv ppi ppnk (fun (i : Nat) => ppk i) ppnv (fun (i : Nat) => ppw i) xi aas aav aai aank (fun (i : Nat) => aak i) aanv (fun (i : Nat) => aaw i) aal ffs ffv
def goalPss_1 (cs : Int) (ct : Int) (cf : Int) (pps : Int) (ppv : Int) (ppi : Bool) (ppnk : Nat) (ppk : Nat → Int) (ppnv : Nat) (aas : Int) (aav : Int) (aai : Bool) (aank : Nat) (aak : Nat → Int) (aanv : Nat) (aaw : Nat → Int) (aal : Int) (ffs : Int) (ffv : Int) (tts : Int) (ttv : Int) := rotL cs ct cf pps ppv ppi ppnk (fun (i : Nat) => ppk i) ppnv aas aav aai aank (fun (i : Nat) => aak i) aanv (fun (i : Nat) => aaw i) aal ffs ffv tts ttv
def goalPss_2 (ppv : Int) (aav : Int) (ffv : Int) (ttv : Int) (ppnk : Nat) (ppnv : Nat) (aank : Nat) (aanv : Nat) (aakn : Bool) (aavn : Bool) := yAnd (yAnd (yLe 0 ppv) (yLt ppv 18446744073709551616)) (yAnd (yAnd (yLe 0 aav) (yLt aav 18446744073709551616)) (yAnd (yAnd (yLe 0 ffv) (yLt ffv 18446744073709551616)) (yAnd (yAnd (yLe 0 ttv) (yLt ttv 18446744073709551616)) (yAnd (yAnd (yNle ppnk 80) (yNle ppnv 80)) (yAnd (yAnd (yNle aank 80) (yNle aanv 80)) (yAnd (nilOk aakn aank) (nilOk aavn aanv)))))))
def goalPss_3 (ppv : Int) (aav : Int) (ffv : Int) (ppnk : Nat) (ppnv : Nat) (aank : Nat) (aanv : Nat) (aakn : Bool) (aavn : Bool) := yAnd (yAnd (yLe 0 ppv) (yLt ppv 18446744073709551616)) (yAnd (yAnd (yLe 0 aav) (yLt aav 18446744073709551616)) (yAnd (yAnd (yLe 0 ffv) (yLt ffv 18446744073709551616)) (yAnd (yAnd (yNle ppnk 80) (yNle ppnv 80)) (yAnd (yAnd (yNle aank 80) (yNle aanv 80)) (yAnd (nilOk aakn aank) (nilOk aavn aanv))))))
def goalPss_4 (pps : Int) (ppv : Int) (ppi : Bool) (ppnk : Nat) (ppk : Nat → Int) (ppnv : Nat) (ppw : Nat → Int) (xi : Int) (aas : Int) (aav : Int) (aai : Bool) (aank : Nat) (aak : Nat → Int) (aanv : Nat) (aaw : Nat → Int) (aal : Int) (ffs : Int) (ffv : Int) := splL 0 0 0 pps ppv ppi ppnk (fun (i : Nat) => ppk i) ppnv (fun (i : Nat) => ppw i) xi aas aav aai aank (fun (i : Nat) => aak i) aanv (fun (i : Nat) => aaw i) aal ffs ffv
def goalPss_5 (pps : Int) (ppv : Int) (ppi : Bool) (ppnk : Nat) (ppk : Nat → Int) (ppnv : Nat) (aas : Int) (aav : Int) (aai : Bool) (aank : Nat) (aak : Nat → Int) (aanv : Nat) (aaw : Nat → Int) (aal : Int) (ffs : Int) (ffv : Int) (tts : Int) (ttv : Int) := rotL 0 0 0 pps ppv ppi ppnk (fun (i : Nat) => ppk i) ppnv aas aav aai aank (fun (i : Nat) => aak i) aanv (fun (i : Nat) => aaw i) aal ffs ffv tts ttv
def goalPss_6 (ppnk : Nat) (ppk : Nat → Int) := yCol (CK.int IntKind.u64) ppnk fun (i : Nat) => AV.y IntKind.u64 (ppk i)
def goalPss_7 (ppnv : Nat) (ppw : Nat → Int) := yCol (CK.int IntKind.u64) ppnv fun (i : Nat) => AV.y IntKind.u64 (ppw i)
def goalPss_8 (aank : Nat) (aak : Nat → Int) := yCol (CK.int IntKind.u64) aank fun (i : Nat) => AV.y IntKind.u64 (aak i)
def goalPss_9 (aanv : Nat) (aaw : Nat → Int) := yCol (CK.int IntKind.u64) aanv fun (i : Nat) => AV.y IntKind.u64 (aaw i)
def goalPss_10 (ffnk : Nat) (ffk : Nat → Int) := yCol (CK.int IntKind.u64) ffnk fun (i : Nat) => AV.y IntKind.u64 (ffk i)
def goalPss_11 (ffnv : Nat) (ffw : Nat → Int) := yCol (CK.int IntKind.u64) ffnv fun (i : Nat) => AV.y IntKind.u64 (ffw i)
def goalPss_12 (cs : Int) (ct : Int) (cf : Int) (pps : Int) (ppv : Int) (ppi : Bool) (ppnk : Nat) (ppk : Nat → Int) (ppnv : Nat) (aas : Int) (aav : Int) (aai : Bool) (aank : Nat) (aak : Nat → Int) (aanv : Nat) (aaw : Nat → Int) (aal : Int) (ffs : Int) (ffv : Int) (tts : Int) (ttv : Int) := yCol (CK.int IntKind.i64) (rN (goalPss_1 cs ct cf pps ppv ppi ppnk ppk ppnv aas aav aai aank aak aanv aaw aal ffs ffv tts ttv)) fun (i : Nat) => AV.y IntKind.i64 (rA (goalPss_1 cs ct cf pps ppv ppi ppnk ppk ppnv aas aav aai aank aak aanv aaw aal ffs ffv tts ttv) i)
def goalPss_13 (cs : Int) (ct : Int) (cf : Int) (pps : Int) (ppv : Int) (ppi : Bool) (ppnk : Nat) (ppk : Nat → Int) (ppnv : Nat) (aas : Int) (aav : Int) (aai : Bool) (aank : Nat) (aak : Nat → Int) (aanv : Nat) (aaw : Nat → Int) (aal : Int) (ffs : Int) (ffv : Int) (tts : Int) (ttv : Int) := yCol (CK.int IntKind.u64) (rN (goalPss_1 cs ct cf pps ppv ppi ppnk ppk ppnv aas aav aai aank aak aanv aaw aal ffs ffv tts ttv)) fun (i : Nat) => AV.y IntKind.u64 (rB (goalPss_1 cs ct cf pps ppv ppi ppnk ppk ppnv aas aav aai aank aak aanv aaw aal ffs ffv tts ttv) i)
def goalPss_14 (cs : Int) (ct : Int) (cf : Int) (pps : Int) (ppv : Int) (ppi : Bool) (ppnk : Nat) (ppk : Nat → Int) (ppnv : Nat) (ppw : Nat → Int) (xi : Int) (aas : Int) (aav : Int) (aai : Bool) (aank : Nat) (aak : Nat → Int) (aanv : Nat) (aaw : Nat → Int) (aal : Int) (ffs : Int) (ffv : Int) := yCol (CK.int IntKind.i64) (rN (goalPss_0 cs ct cf pps ppv ppi ppnk ppk ppnv ppw xi aas aav aai aank aak aanv aaw aal ffs ffv)) fun (i : Nat) => AV.y IntKind.i64 (rA (goalPss_0 cs ct cf pps ppv ppi ppnk ppk ppnv ppw xi aas aav aai aank aak aanv aaw aal ffs ffv) i)
def goalPss_15 (cs : Int) (ct : Int) (cf : Int) (pps : Int) (ppv : Int) (ppi : Bool) (ppnk : Nat) (ppk : Nat → Int) (ppnv : Nat) (ppw : Nat → Int) (xi : Int) (aas : Int) (aav : Int) (aai : Bool) (aank : Nat) (aak : Nat → Int) (aanv : Nat) (aaw : Nat → Int) (aal : Int) (ffs : Int) (ffv : Int) := yCol (CK.int IntKind.u64) (rN (goalPss_0 cs ct cf pps ppv ppi ppnk ppk ppnv ppw xi aas aav aai aank aak aanv aaw aal ffs ffv)) fun (i : Nat) => AV.y IntKind.u64 (rB (goalPss_0 cs ct cf pps ppv ppi ppnk ppk ppnv ppw xi aas aav aai aank aak aanv aaw aal ffs ffv) i)
def goalPss_16 (ttnk : Nat) (ttk : Nat → Int) := yCol (CK.int IntKind.u64) ttnk fun (i : Nat) => AV.y IntKind.u64 (ttk i)
def goalPss_17 (ttnv : Nat) (ttw : Nat → Int) := yCol (CK.int IntKind.u64) ttnv fun (i : Nat) => AV.y IntKind.u64 (ttw i)
def goalPss_18 (cs : Int) (ct : Int) (cf : Int) (pps : Int) (ppv : Int) (ppi : Bool) (ppnk : Nat) (ppk : Nat → Int) (ppnv : Nat) (aas : Int) (aav : Int) (aai : Bool) (aank : Nat) (aak : Nat → Int) (aanv : Nat) (aaw : Nat → Int) (aal : Int) (ffs : Int) (ffv : Int) (tts : Int) (ttv : Int) := sameW (rN (goalPss_1 cs ct cf pps ppv ppi ppnk ppk ppnv aas aav aai aank aak aanv aaw aal ffs ffv tts ttv)) (rN (goalPss_1 cs ct cf pps ppv ppi ppnk ppk ppnv aas aav aai aank aak aanv aaw aal ffs ffv tts ttv)) (fun (i : Nat) => rA (goalPss_1 cs ct cf pps ppv ppi ppnk ppk ppnv aas aav aai aank aak aanv aaw aal ffs ffv tts ttv) i) (fun (i : Nat) => rB (goalPss_1 cs ct cf pps ppv ppi ppnk ppk ppnv aas aav aai aank aak aanv aaw aal ffs ffv tts ttv) i) (fun (i : Nat) => rA (goalPss_1 cs ct cf pps ppv ppi ppnk ppk ppnv aas aav aai aank aak aanv aaw aal ffs ffv tts ttv) i) fun (i : Nat) => rB (goalPss_1 cs ct cf pps ppv ppi ppnk ppk ppnv aas aav aai aank aak aanv aaw aal ffs ffv tts ttv) i
def goalPss_19 (cs : Int) (ct : Int) (cf : Int) (pps : Int) (ppv : Int) (ppi : Bool) (ppnk : Nat) (ppk : Nat → Int) (ppnv : Nat) (ppw : Nat → Int) (xi : Int) (aas : Int) (aav : Int) (aai : Bool) (aank : Nat) (aak : Nat → Int) (aanv : Nat) (aaw : Nat → Int) (aal : Int) (ffs : Int) (ffv : Int) := sameW (rN (goalPss_0 cs ct cf pps ppv ppi ppnk ppk ppnv ppw xi aas aav aai aank aak aanv aaw aal ffs ffv)) (rN (goalPss_0 cs ct cf pps ppv ppi ppnk ppk ppnv ppw xi aas aav aai aank aak aanv aaw aal ffs ffv)) (fun (i : Nat) => rA (goalPss_0 cs ct cf pps ppv ppi ppnk ppk ppnv ppw xi aas aav aai aank aak aanv aaw aal ffs ffv) i) (fun (i : Nat) => rB (goalPss_0 cs ct cf pps ppv ppi ppnk ppk ppnv ppw xi aas aav aai aank aak aanv aaw aal ffs ffv) i) (fun (i : Nat) => rA (goalPss_0 cs ct cf pps ppv ppi ppnk ppk ppnv ppw xi aas aav aai aank aak aanv aaw aal ffs ffv) i) fun (i : Nat) => rB (goalPss_0 cs ct cf pps ppv ppi ppnk ppk ppnv ppw xi aas aav aai aank aak aanv aaw aal ffs ffv) i
def goalPss_20 (pps : Int) (ppv : Int) (ppi : Bool) (ppnk : Nat) (ppk : Nat → Int) (ppnv : Nat) (aas : Int) (aav : Int) (aai : Bool) (aank : Nat) (aak : Nat → Int) (aanv : Nat) (aaw : Nat → Int) (aal : Int) (ffs : Int) (ffv : Int) (tts : Int) (ttv : Int) (cs : Int) (ct : Int) (cf : Int) := sameW (rN (goalPss_5 pps ppv ppi ppnk ppk ppnv aas aav aai aank aak aanv aaw aal ffs ffv tts ttv)) (rN (goalPss_1 cs ct cf pps ppv ppi ppnk ppk ppnv aas aav aai aank aak aanv aaw aal ffs ffv tts ttv)) (fun (i : Nat) => rA (goalPss_5 pps ppv ppi ppnk ppk ppnv aas aav aai aank aak aanv aaw aal ffs ffv tts ttv) i) (fun (i : Nat) => rB (goalPss_5 pps ppv ppi ppnk ppk ppnv aas aav aai aank aak aanv aaw aal ffs ffv tts ttv) i) (fun (i : Nat) => rA (goalPss_1 cs ct cf pps ppv ppi ppnk ppk ppnv aas aav aai aank aak aanv aaw aal ffs ffv tts ttv) i) fun (i : Nat) => rB (goalPss_1 cs ct cf pps ppv ppi ppnk ppk ppnv aas aav aai aank aak aanv aaw aal ffs ffv tts ttv) i
def goalPss_21 (pps : Int) (ppv : Int) (ppi : Bool) (ppnk : Nat) (ppk : Nat → Int) (ppnv : Nat) (ppw : Nat → Int) (xi : Int) (aas : Int) (aav : Int) (aai : Bool) (aank : Nat) (aak : Nat → Int) (aanv : Nat) (aaw : Nat → Int) (aal : Int) (ffs : Int) (ffv : Int) (cs : Int) (ct : Int) (cf : Int) := sameW (rN (goalPss_4 pps ppv ppi ppnk ppk ppnv ppw xi aas aav aai aank aak aanv aaw aal ffs ffv)) (rN (goalPss_0 cs ct cf pps ppv ppi ppnk ppk ppnv ppw xi aas aav aai aank aak aanv aaw aal ffs ffv)) (fun (i : Nat) => rA (goalPss_4 pps ppv ppi ppnk ppk ppnv ppw xi aas aav aai aank aak aanv aaw aal ffs ffv) i) (fun (i : Nat) => rB (goalPss_4 pps ppv ppi ppnk ppk ppnv ppw xi aas aav aai aank aak aanv aaw aal ffs ffv) i) (fun (i : Nat) => rA (goalPss_0 cs ct cf pps ppv ppi ppnk ppk ppnv ppw xi aas aav aai aank aak aanv aaw aal ffs ffv) i) fun (i : Nat) => rB (goalPss_0 cs ct cf pps ppv ppi ppnk ppk ppnv ppw xi aas aav aai aank aak aanv aaw aal ffs ffv) i
def goalPssV : Prop := (∀ (cs ct cf cl cp pps ppv : Int) (ppi ppkn : Bool) (ppnk : Nat) (ppk : Nat → Int) (ppvn : Bool) (ppnv : Nat) (ppw : Nat → Int) (ppl aas aav : Int) (aai aakn : Bool) (aank : Nat) (aak : Nat → Int) (aavn : Bool) (aanv : Nat) (aaw : Nat → Int) (aal bbs bbv : Int) (bbi bbkn : Bool) (bbnk : Nat) (bbk : Nat → Int) (bbvn : Bool) (bbnv : Nat) (bbw : Nat → Int) (bbl ffs ffv : Int) (ffi ffkn : Bool) (ffnk : Nat) (ffk : Nat → Int) (ffvn : Bool) (ffnv : Nat) (ffw : Nat → Int) (ffl tts ttv : Int) (tti ttkn : Bool) (ttnk : Nat) (ttk : Nat → Int) (ttvn : Bool) (ttnv : Nat) (ttw : Nat → Int) (ttl xi xk xw : Int), yAnd (yLe 0 ppv) (yLt ppv 18446744073709551616) = true → yAnd (yLe 0 aav) (yLt aav 18446744073709551616) = true → yAnd (yLe 0 ffv) (yLt ffv 18446744073709551616) = true → yAnd (yLe 0 ttv) (yLt ttv 18446744073709551616) = true → yAnd (nilOk aakn aank) (nilOk aavn aanv) = true → mst (goalPss_6 ppnk ppk) (mst (goalPss_7 ppnv ppw) (mst (goalPss_8 aank aak) (mst (goalPss_9 aanv aaw) (mst (yCol (CK.int IntKind.u64) bbnk fun (i : Nat) => AV.y IntKind.u64 (bbk i)) (mst (yCol (CK.int IntKind.u64) bbnv fun (i : Nat) => AV.y IntKind.u64 (bbw i)) (mst (goalPss_10 ffnk ffk) (mst (goalPss_11 ffnv ffw) (mst (goalPss_16 ttnk ttk) (mst (goalPss_17 ttnv ttw) (mst (true) ((yNot (smallC cs ct cf cl cp ppnk ppnv aank aanv bbnk bbnv ffnk ffnv ttnk ttnv) = true → true = true) ∧ (yNot (smallC cs ct cf cl cp ppnk ppnv aank aanv bbnk bbnv ffnk ffnv ttnk ttnv) = false → mst (true) ((yNot (rightC cs ct cf cl cp) = true → mst (goalPss_6 ppnk ppk) (mst (goalPss_7 ppnv ppw) (mst (goalPss_8 aank aak) (mst (goalPss_9 aanv aaw) (mst (goalPss_10 ffnk ffk) (mst (goalPss_11 ffnv ffw) (mst (yAnd (rightC 0 0 0 0 0) (goalPss_3 ppv aav ffv ppnk ppnv aank aanv aakn aavn)) (mst (goalPss_6 ppnk ppk) (mst (goalPss_7 ppnv ppw) (mst (goalPss_8 aank aak) (mst (goalPss_9 aanv aaw) (mst (goalPss_10 ffnk ffk) (mst (goalPss_11 ffnv ffw) (mst (yAnd (rightC cs ct cf cl cp) (goalPss_3 ppv aav ffv ppnk ppnv aank aanv aakn aavn)) (mst (yNle (yNadd 0 (rN (goalPss_4 pps ppv ppi ppnk ppk ppnv ppw xi aas aav aai aank aak aanv aaw aal ffs ffv))) (rN (goalPss_4 pps ppv ppi ppnk ppk ppnv ppw xi aas aav aai aank aak aanv aaw aal ffs ffv))) (mst (yCol (CK.int IntKind.i64) (rN (goalPss_4 pps ppv ppi ppnk ppk ppnv ppw xi aas aav aai aank aak aanv aaw aal ffs ffv)) fun (i : Nat) => AV.y IntKind.i64 (rA (goalPss_4 pps ppv ppi ppnk ppk ppnv ppw xi aas aav aai aank aak aanv aaw aal ffs ffv) i)) (mst (yCol (CK.int IntKind.u64) (rN (goalPss_4 pps ppv ppi ppnk ppk ppnv ppw xi aas aav aai aank aak aanv aaw aal ffs ffv)) fun (i : Nat) => AV.y IntKind.u64 (rB (goalPss_4 pps ppv ppi ppnk ppk ppnv ppw xi aas aav aai aank aak aanv aaw aal ffs ffv) i)) (mst (yNle (yNadd 0 (rN (goalPss_0 cs ct cf pps ppv ppi ppnk ppk ppnv ppw xi aas aav aai aank aak aanv aaw aal ffs ffv))) (rN (goalPss_0 cs ct cf pps ppv ppi ppnk ppk ppnv ppw xi aas aav aai aank aak aanv aaw aal ffs ffv))) (mst (goalPss_14 cs ct cf pps ppv ppi ppnk ppk ppnv ppw xi aas aav aai aank aak aanv aaw aal ffs ffv) (mst (goalPss_15 cs ct cf pps ppv ppi ppnk ppk ppnv ppw xi aas aav aai aank aak aanv aaw aal ffs ffv) (mst (yNle (rN (goalPss_4 pps ppv ppi ppnk ppk ppnv ppw xi aas aav aai aank aak aanv aaw aal ffs ffv)) 1000000) (((goalPss_21 pps ppv ppi ppnk ppk ppnv ppw xi aas aav aai aank aak aanv aaw aal ffs ffv cs ct cf) = true → mst (goalPss_6 ppnk ppk) (mst (goalPss_7 ppnv ppw) (mst (goalPss_8 aank aak) (mst (goalPss_9 aanv aaw) (mst (goalPss_10 ffnk ffk) (mst (goalPss_11 ffnv ffw) (mst (goalPss_16 ttnk ttk) (mst (goalPss_17 ttnv ttw) (mst (yAnd (rightC 0 0 0 0 0) (goalPss_2 ppv aav ffv ttv ppnk ppnv aank aanv aakn aavn)) (mst (goalPss_6 ppnk ppk) (mst (goalPss_7 ppnv ppw) (mst (goalPss_8 aank aak) (mst (goalPss_9 aanv aaw) (mst (goalPss_10 ffnk ffk) (mst (goalPss_11 ffnv ffw) (mst (goalPss_16 ttnk ttk) (mst (goalPss_17 ttnv ttw) (mst (yAnd (rightC cs ct cf cl cp) (goalPss_2 ppv aav ffv ttv ppnk ppnv aank aanv aakn aavn)) (mst (yNle (yNadd 0 (rN (goalPss_5 pps ppv ppi ppnk ppk ppnv aas aav aai aank aak aanv aaw aal ffs ffv tts ttv))) (rN (goalPss_5 pps ppv ppi ppnk ppk ppnv aas aav aai aank aak aanv aaw aal ffs ffv tts ttv))) (mst (yCol (CK.int IntKind.i64) (rN (goalPss_5 pps ppv ppi ppnk ppk ppnv aas aav aai aank aak aanv aaw aal ffs ffv tts ttv)) fun (i : Nat) => AV.y IntKind.i64 (rA (goalPss_5 pps ppv ppi ppnk ppk ppnv aas aav aai aank aak aanv aaw aal ffs ffv tts ttv) i)) (mst (yCol (CK.int IntKind.u64) (rN (goalPss_5 pps ppv ppi ppnk ppk ppnv aas aav aai aank aak aanv aaw aal ffs ffv tts ttv)) fun (i : Nat) => AV.y IntKind.u64 (rB (goalPss_5 pps ppv ppi ppnk ppk ppnv aas aav aai aank aak aanv aaw aal ffs ffv tts ttv) i)) (mst (yNle (yNadd 0 (rN (goalPss_1 cs ct cf pps ppv ppi ppnk ppk ppnv aas aav aai aank aak aanv aaw aal ffs ffv tts ttv))) (rN (goalPss_1 cs ct cf pps ppv ppi ppnk ppk ppnv aas aav aai aank aak aanv aaw aal ffs ffv tts ttv))) (mst (goalPss_12 cs ct cf pps ppv ppi ppnk ppk ppnv aas aav aai aank aak aanv aaw aal ffs ffv tts ttv) (mst (goalPss_13 cs ct cf pps ppv ppi ppnk ppk ppnv aas aav aai aank aak aanv aaw aal ffs ffv tts ttv) (mst (yNle (rN (goalPss_5 pps ppv ppi ppnk ppk ppnv aas aav aai aank aak aanv aaw aal ffs ffv tts ttv)) 1000000) (((goalPss_20 pps ppv ppi ppnk ppk ppnv aas aav aai aank aak aanv aaw aal ffs ffv tts ttv cs ct cf) = true → true = true) ∧ ((goalPss_20 pps ppv ppi ppnk ppk ppnv aas aav aai aank aak aanv aaw aal ffs ffv tts ttv cs ct cf) = false → true = false))))))))))))))))))))))))))) ∧ ((goalPss_21 pps ppv ppi ppnk ppk ppnv ppw xi aas aav aai aank aak aanv aaw aal ffs ffv cs ct cf) = false → true = false))))))))))))))))))))))) ∧ (yNot (rightC cs ct cf cl cp) = false → mst (goalPss_6 ppnk ppk) (mst (goalPss_7 ppnv ppw) (mst (goalPss_8 aank aak) (mst (goalPss_9 aanv aaw) (mst (goalPss_10 ffnk ffk) (mst (goalPss_11 ffnv ffw) (mst (yAnd (rightC cs ct cf cl cp) (goalPss_3 ppv aav ffv ppnk ppnv aank aanv aakn aavn)) (mst (goalPss_6 ppnk ppk) (mst (goalPss_7 ppnv ppw) (mst (goalPss_8 aank aak) (mst (goalPss_9 aanv aaw) (mst (goalPss_10 ffnk ffk) (mst (goalPss_11 ffnv ffw) (mst (yAnd (rightC cs ct cf cl cp) (goalPss_3 ppv aav ffv ppnk ppnv aank aanv aakn aavn)) (mst (yNle (yNadd 0 (rN (goalPss_0 cs ct cf pps ppv ppi ppnk ppk ppnv ppw xi aas aav aai aank aak aanv aaw aal ffs ffv))) (rN (goalPss_0 cs ct cf pps ppv ppi ppnk ppk ppnv ppw xi aas aav aai aank aak aanv aaw aal ffs ffv))) (mst (goalPss_14 cs ct cf pps ppv ppi ppnk ppk ppnv ppw xi aas aav aai aank aak aanv aaw aal ffs ffv) (mst (goalPss_15 cs ct cf pps ppv ppi ppnk ppk ppnv ppw xi aas aav aai aank aak aanv aaw aal ffs ffv) (mst (yNle (yNadd 0 (rN (goalPss_0 cs ct cf pps ppv ppi ppnk ppk ppnv ppw xi aas aav aai aank aak aanv aaw aal ffs ffv))) (rN (goalPss_0 cs ct cf pps ppv ppi ppnk ppk ppnv ppw xi aas aav aai aank aak aanv aaw aal ffs ffv))) (mst (goalPss_14 cs ct cf pps ppv ppi ppnk ppk ppnv ppw xi aas aav aai aank aak aanv aaw aal ffs ffv) (mst (goalPss_15 cs ct cf pps ppv ppi ppnk ppk ppnv ppw xi aas aav aai aank aak aanv aaw aal ffs ffv) (mst (yNle (rN (goalPss_0 cs ct cf pps ppv ppi ppnk ppk ppnv ppw xi aas aav aai aank aak aanv aaw aal ffs ffv)) 1000000) (((goalPss_19 cs ct cf pps ppv ppi ppnk ppk ppnv ppw xi aas aav aai aank aak aanv aaw aal ffs ffv) = true → mst (goalPss_6 ppnk ppk) (mst (goalPss_7 ppnv ppw) (mst (goalPss_8 aank aak) (mst (goalPss_9 aanv aaw) (mst (goalPss_10 ffnk ffk) (mst (goalPss_11 ffnv ffw) (mst (goalPss_16 ttnk ttk) (mst (goalPss_17 ttnv ttw) (mst (yAnd (rightC cs ct cf cl cp) (goalPss_2 ppv aav ffv ttv ppnk ppnv aank aanv aakn aavn)) (mst (goalPss_6 ppnk ppk) (mst (goalPss_7 ppnv ppw) (mst (goalPss_8 aank aak) (mst (goalPss_9 aanv aaw) (mst (goalPss_10 ffnk ffk) (mst (goalPss_11 ffnv ffw) (mst (goalPss_16 ttnk ttk) (mst (goalPss_17 ttnv ttw) (mst (yAnd (rightC cs ct cf cl cp) (goalPss_2 ppv aav ffv ttv ppnk ppnv aank aanv aakn aavn)) (mst (yNle (yNadd 0 (rN (goalPss_1 cs ct cf pps ppv ppi ppnk ppk ppnv aas aav aai aank aak aanv aaw aal ffs ffv tts ttv))) (rN (goalPss_1 cs ct cf pps ppv ppi ppnk ppk ppnv aas aav aai aank aak aanv aaw aal ffs ffv tts ttv))) (mst (goalPss_12 cs ct cf pps ppv ppi ppnk ppk ppnv aas aav aai aank aak aanv aaw aal ffs ffv tts ttv) (mst (goalPss_13 cs ct cf pps ppv ppi ppnk ppk ppnv aas aav aai aank aak aanv aaw aal ffs ffv tts ttv) (mst (yNle (yNadd 0 (rN (goalPss_1 cs ct cf pps ppv ppi ppnk ppk ppnv aas aav aai aank aak aanv aaw aal ffs ffv tts ttv))) (rN (goalPss_1 cs ct cf pps ppv ppi ppnk ppk ppnv aas aav aai aank aak aanv aaw aal ffs ffv tts ttv))) (mst (goalPss_12 cs ct cf pps ppv ppi ppnk ppk ppnv aas aav aai aank aak aanv aaw aal ffs ffv tts ttv) (mst (goalPss_13 cs ct cf pps ppv ppi ppnk ppk ppnv aas aav aai aank aak aanv aaw aal ffs ffv tts ttv) (mst (yNle (rN (goalPss_1 cs ct cf pps ppv ppi ppnk ppk ppnv aas aav aai aank aak aanv aaw aal ffs ffv tts ttv)) 1000000) (((goalPss_18 cs ct cf pps ppv ppi ppnk ppk ppnv aas aav aai aank aak aanv aaw aal ffs ffv tts ttv) = true → true = true) ∧ ((goalPss_18 cs ct cf pps ppv ppi ppnk ppk ppnv aas aav aai aank aak aanv aaw aal ffs ffv tts ttv) = false → true = false))))))))))))))))))))))))))) ∧ ((goalPss_19 cs ct cf pps ppv ppi ppnk ppk ppnv ppw xi aas aav aai aank aak aanv aaw aal ffs ffv) = false → true = false)))))))))))))))))))))))))))))))))))))
theorem goalPss_eq : goalPss = goalPssV := by kernel_rfl
set_option maxHeartbeats 4000000 in
theorem goalPss_vc : goalPssV := by
 unfold goalPssV goalPss_21 goalPss_20 goalPss_19 goalPss_18 goalPss_17 goalPss_16 goalPss_15 goalPss_14 goalPss_13 goalPss_12 goalPss_11 goalPss_10 goalPss_9 goalPss_8 goalPss_7 goalPss_6 goalPss_5 goalPss_4 goalPss_3 goalPss_2 goalPss_1 goalPss_0
 intro cs ct cf cl cp pps ppv ppi ppkn ppnk ppk ppvn ppnv ppw ppl aas aav aai aakn aank aak aavn aanv aaw aal bbs bbv bbi bbkn bbnk bbk bbvn bbnv bbw bbl ffs ffv ffi ffkn ffnk ffk ffvn ffnv ffw ffl tts ttv tti ttkn ttnk ttk ttvn ttnv ttw ttl xi xk xw h1 h2 h4 h5 hn
 have hU1 := h1
 have hU2 := h2
 have hU4 := h4
 have hU5 := h5
 simp only [vS, forall_const, yCol_int]
 cases hs : smallC cs ct cf cl cp ppnk ppnv aank aanv bbnk bbnv ffnk ffnv ttnk ttnv with
 | false => simp
 | true =>
   unfold smallC at hs
   rw [decide_eq_true_iff] at hs
   have hr := hs.2.2.2.2.2.1
   simp only [yAnd_t, yLe_t, yLt_t] at hU1 hU2 hU4 hU5 hn
   simp only [hr, hn.1, hn.2, Bool.true_eq_false, false_implies, true_implies, true_and, false_or, or_false, not_true_eq_false]
   repeat' (first | apply And.intro | intro _)
   all_goals first
     | trivial
     | omega
     | assumption
     | (exfalso; omega)
     | exact sameW_no ‹_›
     | exact absurd ‹1000000 < rN _› (Nat.not_lt.2 (spl_len (by omega) (by omega)))
     | exact absurd ‹1000000 < rN _› (Nat.not_lt.2 (rot_len (by omega)))
     | exact spl_len (by omega) (by omega)
     | exact rot_len (by omega)
theorem goalPss_tt : (goalPss) = True := goalPss_eq.trans (eq_true goalPss_vc)
theorem goalPss_ok : goalPss := @ft' goalPss goalPss_tt
theorem lPss_ok (hm : Tryz.prog.follows .mixedOrders = true) (ha : SmCall Tryz.prog 9 (smB true)) : SmAll Tryz.prog lPss :=
 ⟨smRight hm, smSmall hm, smSpl hm @goalSplPL_ok @goalSplPI_ok, smSpl hm @goalSplRL_ok @goalSplRI_ok, smRot hm @goalRotPL_ok @goalRotPI_ok, smRot hm @goalRotRL_ok @goalRotRI_ok, smSame hm, ha, trivial⟩
def avD : Dc → AV
 | .v a => a
 | .rows nil n cols => .lst false nil 1 n (colF cols)
theorem gw_u64 {w : World} (gw : GW w) (gl : ∀ g c, GL g = some c → ∀ (j : Nat) (a : AV), c[j]? = some a → ∀ (n : Int), ¬ a.R noM (.int .u64 n)) {b j : Nat} {cs : Array Value} {e : TypeId} {fr : Nat × Nat} {n : Int} (hb : w.heap[b]? = some (.cells cs e fr)) (hj : cs[j]? = some (.int .u64 n)) : GL b = none := by
 cases hg : GL b with
 | none => rfl
 | some c =>
   obtain ⟨vs, e2, fr2, h1, h2⟩ := gw b c hg
   rw [hb, Option.some.injEq] at h1
   obtain ⟨rfl, -, -⟩ : cs = vs.toArray ∧ _ ∧ _ := by simpa [Obj.cells.injEq] using h1
   exfalso
   have aux : ∀ (c : List AV) (vs : List Value) (j : Nat) (v : Value), AV.RL noM c vs → vs[j]? = some v → ∃ a, c[j]? = some a ∧ a.R noM v := by
     intro c
     induction c with
     | nil => intro vs j v r hv; simp only [AV.RL] at r; subst r; simp at hv
     | cons a c ih =>
       intro vs j v r hv
       simp only [AV.RL] at r
       obtain ⟨u, us, r1, r2, rfl⟩ := r
       cases j with
       | zero => simp only [List.getElem?_cons_zero, Option.some.injEq] at hv; subst hv; exact ⟨a, rfl, r1⟩
       | succ j => simp only [List.getElem?_cons_succ] at hv ⊢; exact ih us j v r2 hv
   obtain ⟨a, q1, q2⟩ := aux c vs j _ h2 (by simpa using hj)
   exact gl b c hg j a q1 n q2
theorem DcR_lst {w : World} (gw : GW w) (gl : ∀ g c, GL g = some c → ∀ (j : Nat) (a : AV), c[j]? = some a → ∀ (n : Int), ¬ a.R noM (.int .u64 n)) {nil : Bool} {n : Nat} {k : Nat → Int} {u : Value} (h : DcR w cU (.rows nil n [.int .u64 k]) u) :
   (AV.lst false nil 1 n (colF [.int .u64 k])).R (Mw w) u ∧ nilOk nil n = true := by
 rcases h with ⟨rfl, rfl, rfl⟩ | ⟨rfl, p, c, rfl, hnc, h⟩
 · exact ⟨by simp only [AV.R]; exact .inl ⟨trivial, trivial, trivial⟩, nilOk_t.2 fun _ => rfl⟩
 · refine ⟨?_, nilOk_t.2 fun e => by cases e⟩
   simp only [AV.R]
   by_cases h0 : n = 0
   · exact .inr (.inl ⟨trivial, h0, p, c, by rw [h0], fun e => by cases e⟩)
   · obtain ⟨b, off, rfl, cs, e, fr, hb, hel⟩ := h.resolve_left h0
     obtain ⟨v, hv, -, hvr⟩ := hel 0 (by omega) 0 (by simp)
     have hv2 : v = .int .u64 (k 0) := hvr
     subst hv2
     have hg := gw_u64 gw gl hb hv
     refine .inr (.inr ⟨trivial, Nat.pos_of_ne_zero h0, b, off, c, cs, rfl, hnc, (fun e => by cases e), by simp only [Mw, hg, cellsW, hb], fun i hi j hj => ?_⟩)
     obtain ⟨v, q1, q2, q3⟩ := hel i hi j (by simpa using hj)
     exact ⟨v, by simpa using q1, q2, AV.R.mono (Le_noM _) _ _ q3⟩
def rowsU : Dc → Prop
 | .v _ => True
 | .rows _ _ cols => ∃ k, cols = [.int .u64 k]
theorem dcs_lst {w : World} (gw : GW w) (gl : ∀ g c, GL g = some c → ∀ (j : Nat) (a : AV), c[j]? = some a → ∀ (n : Int), ¬ a.R noM (.int .u64 n)) : ∀ {cs : List Cs} {ds : List Dc} {us : List Value}, DcRs w cs ds us → (∀ c ∈ cs, c = none ∨ c = cU) → (∀ d ∈ ds, rowsU d) →
   AV.RL (Mw w) (ds.map avD) us ∧ ∀ nil n cols, Dc.rows nil n cols ∈ ds → nilOk nil n = true
 | [], _, _, h, _, _ => by obtain ⟨rfl, rfl⟩ := h; exact ⟨rfl, fun _ _ _ h => by cases h⟩
 | c :: cs, _, _, h, hc, hd => by
   obtain ⟨d, ds, u, us, rfl, rfl, h1, h2⟩ := h
   obtain ⟨r1, r2⟩ := dcs_lst gw gl h2 (fun c h => hc c (List.mem_cons_of_mem _ h)) (fun d h => hd d (List.mem_cons_of_mem _ h))
   have hd0 := hd d (List.mem_cons_self ..)
   rcases hc c (List.mem_cons_self ..) with rfl | rfl
   · cases d with
     | v a => exact ⟨⟨u, us, AV.R.mono (Le_noM _) _ _ h1, r1, rfl⟩, fun nil n cols h => by rcases List.mem_cons.1 h with h | h; (· cases h); exact r2 nil n cols h⟩
     | rows => exact h1.elim
   · cases d with
     | v a => exact h1.elim
     | rows nil n cols =>
       obtain ⟨k, rfl⟩ := hd0
       obtain ⟨q1, q2⟩ := DcR_lst gw gl h1
       exact ⟨⟨u, us, q1, r1, rfl⟩, fun nil' n' cols' h => by
         rcases List.mem_cons.1 h with h | h
         · injection h with a b; subst a b; exact q2
         · exact r2 nil' n' cols' h⟩
end Go.Proofs.YtjhbimdaeofdlaaGreatDoor.Ex
end
section
namespace Go.Proofs.YtjhbimdaeofdlaaGreatDoor.RunP
open Go Go.Proofs.YtjhbimdaeofdlaaGreatDoor.Ex
theorem up : isB true (callS Tryz.prog noSm 1000 9 []) = true := by kernel_rfl
end Go.Proofs.YtjhbimdaeofdlaaGreatDoor.RunP
end
