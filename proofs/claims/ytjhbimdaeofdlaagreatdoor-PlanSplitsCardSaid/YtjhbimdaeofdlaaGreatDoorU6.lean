/- The texts Qc, Qd, Qe, Qf, Qg, Qh: Contracts: two halves of a node, and the key between: the program's, the document's. Contracts: the document's cuts of a node, and its two halves. Contracts: plan.Split, plan.Root and the document's .. -/
import Derived.Test.YtjhbimdaeofdlaaGreatDoorU5
set_option linter.all false
set_option maxRecDepth 100000
section
namespace Go.Proofs.YtjhbimdaeofdlaaGreatDoor.Ex
open Go Go.RowKit
def shf (m : Nat) (k : Nat → Int) (j : Nat) : Int := k (m + j)
def hvM (n : Nat) : Nat := (n + 1) / 2
abbrev sNode : Sx := .agg [.sc, roU, roU, .sc]
def fMust (ds : List Da) : Option (Bool × AV) :=
 match ds with
 | [.cell (.v (.yb b))] => some (b, .tup [])
 | _ => none
abbrev gRs : List Ag := [.cell cU]
def fRs (ds : List Da) : Option (Bool × AV) :=
 match ds with
 | [.cell (.rows _ nk [.int .u64 k])] => some (yNle nk 100, .yb (risesB k nk))
 | _ => none
def annRs (n : Nat) (kf : Nat → Int) (b : Nat) : Option (St → LoopA) :=
 match b with
 | 0 => some fun _ => { ι := Nat, tms := [3], tmU := fun i => [.y .i64 (yInt i)], ids := [], hpU := fun _ => [], del := [], ex := 0, pre := prFitR n kf, ms := msFit n }
 | _ => none
def goalRs : Prop := ∀ (nilk : Bool) (nk : Nat) (kf : Nat → Int), yNle nk 100 = true →
 wxF Tryz.prog noSm (annRs nk kf) 1000 262 (canA gRs [.cell (.rows nilk nk [.int .u64 kf])] []).1 (heapOf (canA gRs [.cell (.rows nilk nk [.int .u64 kf])] []).2) (fun v _ => cmpC (.yb (risesB kf nk)) v)
def nilOk (b : Bool) (n : Nat) : Bool := decide (b = true → n = 0)
theorem nilOk_t {b : Bool} {n : Nat} : nilOk b n = true ↔ (b = true → n = 0) := decide_eq_true_iff
theorem nilOk_f {b : Bool} {n : Nat} : nilOk b n = false ↔ ¬ (b = true → n = 0) := decide_eq_false_iff_not
def fClnU (ds : List Dx) : Option (Bool × Dx × List (List Dx)) :=
 match ds with
 | [.rows nil n [.int .u64 k]] => some (yAnd (yNle n 100) (nilOk nil n), .rows nil n [.int .u64 k], [])
 | _ => none
def goalClnU : Prop := ∀ (kn : Bool) (n : Nat) (k : Nat → Int), yAnd (yNle n 100) (nilOk kn n) = true →
 wxP Tryz.prog noSm (fun _ => none) 234 [plU] [.rows kn n [.int .u64 k]] plU (.rows kn n [.int .u64 k]) []
def lTd : List (Nat × Sm) := [(179, .ct (ctS gRn fRn)), (178, .ct (ctS gW fMust)), (262, .ct (ctS gRs fRs)), (234, .ct (ctX [plU] plU fClnU))]
def lHv (P : Program) : List (Nat × Sm) := (176, .ct (tdA P (smL lTd))) :: lTd
abbrev rHv : Sx := .tup [sNodeP, sNodeP, .sc]
def goalHvL : Prop := ∀ (kn : Bool) (k : Nat → Int) (vn : Bool) (nv : Nat) (w : Nat → Int) (l : Int) (m : Nat), yAnd (yNle 2 nv) (yNle nv 80) = true → yAnd (nilOk kn nv) (nilOk vn nv) = true → risesB k nv = true → m = hvM nv →
 wxP Tryz.prog (smL (lHv Tryz.prog)) (fun _ => none) 76 [sNodeP] [dNb false kn nv k vn nv w l] rHv (.l [dNd false kn m k vn m w 0, dNd false kn (yNsub nv m) (shf m k) vn (yNsub nv m) (shf m w) l, .v (.y .u64 (k m))]) []
def goalHvI : Prop := ∀ (kn : Bool) (nk : Nat) (k : Nat → Int) (vn : Bool) (nv : Nat) (w : Nat → Int) (l : Int) (m : Nat), yAnd (yNle 2 nv) (yNle nv 80) = true → yAnd (nilOk kn nk) (nilOk vn nv) = true → yNeq (yNadd nk 1) nv = true → risesB k nk = true → m = hvM nv →
 wxP Tryz.prog (smL (lHv Tryz.prog)) (fun _ => none) 76 [sNodeP] [dNb true kn nk k vn nv w l] rHv (.l [dNd true kn (yNsub m 1) k vn m w 0, dNd true kn (yNsub nk m) (shf m k) vn (yNsub nv m) (shf m w) 0, .v (.y .u64 (k (yNsub m 1)))]) []
theorem goalClnU_eq : goalClnU = (∀ (kn : Bool) (n : Nat) (k : Nat → Int), yAnd (yNle n 100) (nilOk kn n) = true → (kn = true → kn = true ∧ n = nat_lit 0 ∧ true = true) ∧ (kn = false → (yNeq n (nat_lit 0) = true → kn = false ∧ n = nat_lit 0 ∧ true = true) ∧ (yNeq n (nat_lit 0) = false → (yGrow (yNadd 0 n) (nat_lit 8) = true → kn = false ∧ n = yNadd 0 n ∧ yNadd 0 (yNadd 0 n) ≤ yNadd 0 n ∧ (∀ (i : Nat), Nat.succ i ≤ n → k i = k (yNadd 0 (yNadd 0 i)) ∧ True) ∧ true = true) ∧ (yGrow (yNadd 0 n) (nat_lit 8) = false → False)))) := by kernel_rfl
theorem goalClnU_ok : goalClnU := by
 refine @kernel_go _ _ goalClnU_eq ?_
 intro kn n k hn
 simp only [vS, forall_const, nilOk_t] at hn ⊢
 repeat' (first | apply And.intro | intro _)
 all_goals first
   | trivial
   | omega
   | assumption
   | (exfalso; omega)
   | exact hn.2 (by assumption)
def goalRsV : Prop := (∀ (nilk : Bool) (nk : Nat) (kf : Nat → Int), yNle nk (nat_lit 100) = true → true = true ∧ (∃ (i0 : Nat), prFitR nk kf i0 ∧ true = true ∧ yInt i0 = (1 : Int) ∧ true = true) ∧ ∀ (g : Nat → AV) (i : Nat), prFitR nk kf i → (yLt (yInt i) (yInt nk) = true → (yIn (yWrap IntKind.i64 (ySub (yInt i) 1)) nk = true → (yNlt (yNadd 0 (yNat (yWrap IntKind.i64 (ySub (yInt i) 1)))) nk = true → (yIn (yInt i) nk = true → (yNlt (yNadd 0 (yNat (yInt i))) nk = true → (yLe (kf (yNadd 0 (yNat (yInt i)))) (kf (yNadd 0 (yNat (yWrap IntKind.i64 (ySub (yInt i) 1))))) = true → risesB kf nk = false) ∧ (yLe (kf (yNadd 0 (yNat (yInt i)))) (kf (yNadd 0 (yNat (yWrap IntKind.i64 (ySub (yInt i) 1))))) = false → true = true ∧ ∃ (i' : Nat), prFitR nk kf i' ∧ Nat.succ (msFit nk i') ≤ msFit nk i ∧ true = true ∧ yInt i' = yWrap IntKind.i64 (yAdd (yInt i) 1) ∧ true = true)) ∧ (yNlt (yNadd 0 (yNat (yInt i))) nk = false → False)) ∧ (yIn (yInt i) nk = false → False)) ∧ (yNlt (yNadd 0 (yNat (yWrap IntKind.i64 (ySub (yInt i) 1)))) nk = false → False)) ∧ (yIn (yWrap IntKind.i64 (ySub (yInt i) 1)) nk = false → False)) ∧ (yLt (yInt i) (yInt nk) = false → risesB kf nk = true))
theorem goalRs_eq : goalRs = goalRsV := by kernel_rfl
theorem goalRs_vc : goalRsV := by
 unfold goalRsV
 intro nilk nk kf hb
 simp only [vS, forall_const, prFitR, msFit] at hb ⊢
 repeat' (first | apply And.intro | intro (_ : Nat → AV) i hi | intro _)
 all_goals (try simp (disch := omega) only [wrap64, yNatSub] at *)
 all_goals first
   | trivial
   | omega
   | (exfalso; omega)
   | exact ⟨1, ⟨by omega, by omega, fun j hj => by omega⟩, rfl⟩
   | (rw [Bool.eq_false_iff, ne_eq, risesB_iff]; exact Rises.not (i := i) (by omega) (by omega) (by omega))
   | (rw [risesB_iff]; intro j hj; exact hi.2.2 j (by omega))
   | (refine ⟨i + 1, ⟨by omega, by omega, hi.2.2.step fun _ => by omega⟩, by omega, by omega⟩)
theorem goalRs_tt : (goalRs) = True := goalRs_eq.trans (eq_true goalRs_vc)
theorem goalRs_ok : goalRs := @ft' goalRs goalRs_tt
theorem quo_i2 {n : Nat} (h : n < 1000000) : yQuo .i64 (n : Int) 2 = ((n / 2 : Nat) : Int) := by
 have h1 : yQuo .i64 (n : Int) 2 = yWrap .i64 ((n : Int).tdiv 2) := rfl
 rw [h1, Int.tdiv_eq_ediv_of_nonneg (Int.natCast_nonneg _), wrap64 (by omega) (by omega)]
 omega
theorem half_i {n : Nat} (h : n < 1000000) : yWrap .i64 ((n : Int) - yQuo .i64 (n : Int) 2) = ((hvM n : Nat) : Int) := by
 rw [quo_i2 h, wrap64 (by omega) (by omega)]
 unfold hvM; omega
theorem rises_pre {k : Nat → Int} {n m : Nat} (h : Rises k n) (hm : m ≤ n) : Rises k m := fun j hj => h j (by omega)
theorem rises_shf {k : Nat → Int} {n m : Nat} (h : Rises k n) : Rises (shf m k) (n - m) := fun j hj => by
 have := h (m + j) (by omega)
 unfold shf; exact this
def goalHvL_0 (nv : Nat) := yWrap IntKind.i64 (ySub (yInt nv) (yQuo IntKind.i64 (yInt nv) 2))
def goalHvLV : Prop := (∀ (kn : Bool) (k : Nat → Int) (vn : Bool) (nv : Nat) (w : Nat → Int) (l : Int) (m : Nat), yAnd (yNle 2 nv) (yNle nv 80) = true → yAnd (nilOk kn nv) (nilOk vn nv) = true → risesB k nv = true → m = hvM nv → (yEq (yInt nv) (yInt nv) = true → mst (yCol (CK.int IntKind.u64) nv fun (i : Nat) => AV.y IntKind.u64 (k i)) (mst (yNle nv 100) ((yNot (risesB (fun (i : Nat) => k i) nv) = true → false = false ∧ kn = true ∧ m = nat_lit 0 ∧ vn = true ∧ m = nat_lit 0 ∧ (0 : Int) = (0 : Int) ∧ false = false ∧ kn = true ∧ yNsub nv m = nat_lit 0 ∧ vn = true ∧ yNsub nv m = nat_lit 0 ∧ l = (0 : Int) ∧ k m = (0 : Int) ∧ true = true) ∧ (yNot (risesB (fun (i : Nat) => k i) nv) = false → (yLt (yInt nv) (2 : Int) = true → false = false ∧ kn = true ∧ m = nat_lit 0 ∧ vn = true ∧ m = nat_lit 0 ∧ (0 : Int) = (0 : Int) ∧ false = false ∧ kn = true ∧ yNsub nv m = nat_lit 0 ∧ vn = true ∧ yNsub nv m = nat_lit 0 ∧ l = (0 : Int) ∧ k m = (0 : Int) ∧ true = true) ∧ (yLt (yInt nv) (2 : Int) = false → (yEq 2 (0 : Int) = true → False) ∧ (yEq 2 (0 : Int) = false → mst (yIn (goalHvL_0 nv) (Nat.succ nv)) (mst (yNeq (yNat (goalHvL_0 nv)) (yNat (goalHvL_0 nv))) (mst (yIn (goalHvL_0 nv) (Nat.succ nv)) (mst (yIn 0 (Nat.succ (yNat (goalHvL_0 nv)))) (mst (yCol (CK.int IntKind.u64) (yNsub (yNat (goalHvL_0 nv)) 0) fun (i : Nat) => AV.y IntKind.u64 (k (yNadd 0 i))) (mst (yAnd (yNle (yNsub (yNat (goalHvL_0 nv)) 0) 100) (nilOk kn (yNsub (yNat (goalHvL_0 nv)) 0))) (mst (yIn (goalHvL_0 nv) (Nat.succ nv)) (mst (yNeq (yNat (goalHvL_0 nv)) (yNat (goalHvL_0 nv))) (mst (yIn (goalHvL_0 nv) (Nat.succ nv)) (mst (yIn 0 (Nat.succ (yNat (goalHvL_0 nv)))) (mst (yCol (CK.int IntKind.u64) (yNsub (yNat (goalHvL_0 nv)) 0) fun (i : Nat) => AV.y IntKind.u64 (w (yNadd 0 i))) (mst (yAnd (yNle (yNsub (yNat (goalHvL_0 nv)) 0) 100) (nilOk vn (yNsub (yNat (goalHvL_0 nv)) 0))) (mst (yIn (yInt nv) (Nat.succ nv)) (mst (yNeq (yNat (yInt nv)) (yNat (yInt nv))) (mst (yIn (yInt nv) (Nat.succ nv)) (mst (yIn (goalHvL_0 nv) (Nat.succ (yNat (yInt nv)))) (mst (yCol (CK.int IntKind.u64) (yNsub (yNat (yInt nv)) (yNat (goalHvL_0 nv))) fun (i : Nat) => AV.y IntKind.u64 (k (yNadd (yNat (goalHvL_0 nv)) i))) (mst (yAnd (yNle (yNsub (yNat (yInt nv)) (yNat (goalHvL_0 nv))) 100) (nilOk kn (yNsub (yNat (yInt nv)) (yNat (goalHvL_0 nv))))) (mst (yIn (yInt nv) (Nat.succ nv)) (mst (yNeq (yNat (yInt nv)) (yNat (yInt nv))) (mst (yIn (yInt nv) (Nat.succ nv)) (mst (yIn (goalHvL_0 nv) (Nat.succ (yNat (yInt nv)))) (mst (yCol (CK.int IntKind.u64) (yNsub (yNat (yInt nv)) (yNat (goalHvL_0 nv))) fun (i : Nat) => AV.y IntKind.u64 (w (yNadd (yNat (goalHvL_0 nv)) i))) (mst (yAnd (yNle (yNsub (yNat (yInt nv)) (yNat (goalHvL_0 nv))) 100) (nilOk vn (yNsub (yNat (yInt nv)) (yNat (goalHvL_0 nv))))) (mst (yIn (goalHvL_0 nv) nv) (false = false ∧ (kn = kn ∧ m = yNsub (yNat (goalHvL_0 nv)) 0 ∧ ∀ (i : Nat), Nat.succ i ≤ m → k i = k (yNadd 0 i) ∧ True) ∧ (vn = vn ∧ m = yNsub (yNat (goalHvL_0 nv)) 0 ∧ ∀ (i : Nat), Nat.succ i ≤ m → w i = w (yNadd 0 i) ∧ True) ∧ (0 : Int) = (0 : Int) ∧ false = false ∧ (kn = kn ∧ yNsub nv m = yNsub (yNat (yInt nv)) (yNat (goalHvL_0 nv)) ∧ ∀ (i : Nat), Nat.succ i ≤ yNsub nv m → shf m k i = k (yNadd (yNat (goalHvL_0 nv)) i) ∧ True) ∧ (vn = vn ∧ yNsub nv m = yNsub (yNat (yInt nv)) (yNat (goalHvL_0 nv)) ∧ ∀ (i : Nat), Nat.succ i ≤ yNsub nv m → shf m w i = w (yNadd (yNat (goalHvL_0 nv)) i) ∧ True) ∧ l = l ∧ k m = k (yNat (goalHvL_0 nv)) ∧ true = true))))))))))))))))))))))))))))))) ∧ (yEq (yInt nv) (yInt nv) = false → false = false ∧ kn = true ∧ m = nat_lit 0 ∧ vn = true ∧ m = nat_lit 0 ∧ (0 : Int) = (0 : Int) ∧ false = false ∧ kn = true ∧ yNsub nv m = nat_lit 0 ∧ vn = true ∧ yNsub nv m = nat_lit 0 ∧ l = (0 : Int) ∧ k m = (0 : Int) ∧ true = true))
theorem goalHvL_eq : goalHvL = goalHvLV := by kernel_rfl
set_option maxHeartbeats 4000000 in
theorem goalHvL_vc : goalHvLV := by
 unfold goalHvLV goalHvL_0
 intro kn k vn nv w l m hb hni hr hm
 simp only [yAnd_t, yNle_t, nilOk_t] at hb hni
 obtain rfl : kn = false := by cases kn with | false => rfl | true => have := hni.1 rfl; omega
 obtain rfl : vn = false := by cases vn with | false => rfl | true => have := hni.2 rfl; omega
 simp only [yInt_e, ySub_e, half_i (n := nv) (by omega), ← hm]
 have hm2 : 1 ≤ m ∧ m < nv := by rw [hm]; unfold hvM; omega
 clear hm
 simp only [vS, forall_const, yCol_int, hr, shf, nilOk_t, nilOk_f, not_true_eq_false, or_false, false_or, Bool.false_eq_true, false_implies, not_false_eq_true]
 repeat' (first | apply And.intro | intro _)
 all_goals first
   | trivial
   | rfl
   | omega
   | (exfalso; omega)
theorem goalHvL_tt : (goalHvL) = True := goalHvL_eq.trans (eq_true goalHvL_vc)
theorem goalHvL_ok : goalHvL := @ft' goalHvL goalHvL_tt
def goalHvI_1 (nv : Nat) := yWrap IntKind.i64 (ySub (yInt nv) (yQuo IntKind.i64 (yInt nv) 2))
def goalHvI_2 (nv : Nat) (w : Nat → Int) := yCol (CK.int IntKind.u64) (yNsub nv (yNat (goalHvI_1 nv))) fun (i : Nat) => AV.y IntKind.u64 (w (yNadd (yNat (goalHvI_1 nv)) i))
def goalHvI_3 (nv : Nat) (k : Nat → Int) := yCol (CK.int IntKind.u64) (yNat (yWrap IntKind.i64 (ySub (goalHvI_1 nv) 1))) fun (i : Nat) => AV.y IntKind.u64 (k i)
def goalHvI_4 (nk : Nat) (nv : Nat) (k : Nat → Int) := yCol (CK.int IntKind.u64) (yNsub nk (yNat (goalHvI_1 nv))) fun (i : Nat) => AV.y IntKind.u64 (k (yNadd (yNat (goalHvI_1 nv)) i))
def goalHvI_5 (nv : Nat) (w : Nat → Int) := yCol (CK.int IntKind.u64) (yNat (goalHvI_1 nv)) fun (i : Nat) => AV.y IntKind.u64 (w i)
def goalHvI_6 (nv : Nat) := yNle (yNat (yWrap IntKind.i64 (ySub (goalHvI_1 nv) 1))) 100
def goalHvI_0 (nv : Nat) (nk : Nat) (k : Nat → Int) (kn : Bool) (w : Nat → Int) (vn : Bool) (m : Nat) := yEq 2 (0 : Int) = false → mst (yIn (yWrap IntKind.i64 (ySub (goalHvI_1 nv) 1)) (Nat.succ nk)) (mst (goalHvI_3 nv k) (mst (yAnd (goalHvI_6 nv) (nilOk kn (yNat (yWrap IntKind.i64 (ySub (goalHvI_1 nv) 1))))) (mst (yIn (goalHvI_1 nv) (Nat.succ nv)) (mst (goalHvI_5 nv w) (mst (yAnd (yNle (yNat (goalHvI_1 nv)) 100) (nilOk vn (yNat (goalHvI_1 nv)))) (mst (goalHvI_3 nv k) (mst (goalHvI_5 nv w) (mst (yAnd (goalHvI_6 nv) (yNle (yNat (goalHvI_1 nv)) 100)) (mst (rightN true (yNat (yWrap IntKind.i64 (ySub (goalHvI_1 nv) 1))) (fun (i : Nat) => k i) (yNat (goalHvI_1 nv))) (mst (yIn (goalHvI_1 nv) (Nat.succ nk)) (mst (goalHvI_4 nk nv k) (mst (yAnd (yNle (yNsub nk (yNat (goalHvI_1 nv))) 100) (nilOk kn (yNsub nk (yNat (goalHvI_1 nv))))) (mst (yIn (goalHvI_1 nv) (Nat.succ nv)) (mst (goalHvI_2 nv w) (mst (yAnd (yNle (yNsub nv (yNat (goalHvI_1 nv))) 100) (nilOk vn (yNsub nv (yNat (goalHvI_1 nv))))) (mst (goalHvI_4 nk nv k) (mst (goalHvI_2 nv w) (mst (yAnd (yNle (yNsub nk (yNat (goalHvI_1 nv))) 100) (yNle (yNsub nv (yNat (goalHvI_1 nv))) 100)) (mst (rightN true (yNsub nk (yNat (goalHvI_1 nv))) (fun (i : Nat) => k (yNadd (yNat (goalHvI_1 nv)) i)) (yNsub nv (yNat (goalHvI_1 nv)))) (mst (yIn (yWrap IntKind.i64 (ySub (goalHvI_1 nv) 1)) nk) (true = true ∧ (kn = kn ∧ yNsub m (nat_lit 1) = yNat (yWrap IntKind.i64 (ySub (goalHvI_1 nv) 1)) ∧ ∀ (i : Nat), Nat.succ i ≤ yNsub m 1 → k i = k i ∧ True) ∧ (vn = vn ∧ m = yNat (goalHvI_1 nv) ∧ ∀ (i : Nat), Nat.succ i ≤ m → w i = w i ∧ True) ∧ (0 : Int) = (0 : Int) ∧ true = true ∧ (kn = kn ∧ yNsub nk m = yNsub nk (yNat (goalHvI_1 nv)) ∧ ∀ (i : Nat), Nat.succ i ≤ yNsub nk m → shf m k i = k (yNadd (yNat (goalHvI_1 nv)) i) ∧ True) ∧ (vn = vn ∧ yNsub nv m = yNsub nv (yNat (goalHvI_1 nv)) ∧ ∀ (i : Nat), Nat.succ i ≤ yNsub nv m → shf m w i = w (yNadd (yNat (goalHvI_1 nv)) i) ∧ True) ∧ (0 : Int) = (0 : Int) ∧ k (yNsub m 1) = k (yNat (yWrap IntKind.i64 (ySub (goalHvI_1 nv) 1))) ∧ true = true)))))))))))))))))))))
def goalHvIV : Prop := (∀ (kn : Bool) (nk : Nat) (k : Nat → Int) (vn : Bool) (nv : Nat) (w : Nat → Int) (l : Int) (m : Nat), yAnd (yNle 2 nv) (yNle nv 80) = true → yAnd (nilOk kn nk) (nilOk vn nv) = true → yNeq (yNadd nk 1) nv = true → risesB k nk = true → m = hvM nv → mst (yCol (CK.int IntKind.u64) nk fun (i : Nat) => AV.y IntKind.u64 (k i)) (mst (yCol (CK.int IntKind.u64) nv fun (i : Nat) => AV.y IntKind.u64 (w i)) (mst (yAnd (yNle nk 100) (yNle nv 100)) ((rightN true nk (fun (i : Nat) => k i) nv = true → mst (yLe 2 (yInt nv)) ((yEq 2 (0 : Int) = true → False) ∧ (goalHvI_0 nv nk k kn w vn m))) ∧ (rightN true nk (fun (i : Nat) => k i) nv = false → mst (false) ((yEq 2 (0 : Int) = true → False) ∧ (goalHvI_0 nv nk k kn w vn m)))))))
theorem goalHvI_eq : goalHvI = goalHvIV := by kernel_rfl
set_option maxHeartbeats 4000000 in
theorem goalHvI_vc : goalHvIV := by
 unfold goalHvIV goalHvI_0 goalHvI_6 goalHvI_5 goalHvI_4 goalHvI_3 goalHvI_2 goalHvI_1
 intro kn nk k vn nv w l m hb hni hnk hr hm
 simp only [yAnd_t, yNle_t, yNeq_t, yNadd_e, nilOk_t] at hb hnk hni
 obtain rfl : kn = false := by cases kn with | false => rfl | true => have := hni.1 rfl; omega
 obtain rfl : vn = false := by cases vn with | false => rfl | true => have := hni.2 rfl; omega
 simp only [yInt_e, ySub_e, half_i (n := nv) (by omega), ← hm]
 have hm2 : 1 ≤ m ∧ m < nv := by rw [hm]; unfold hvM; omega
 clear hm
 rw [risesB_iff] at hr
 have q1 : rightN true nk (fun i => k i) nv = true := rightN_t.2 ⟨rfl, hnk, hr⟩
 have q2 : rightN true (m - 1) (fun i => k i) m = true := rightN_t.2 ⟨rfl, by omega, rises_pre hr (by omega)⟩
 have q3 : rightN true (nk - m) (fun i => k (m + i)) (nv - m) = true := rightN_t.2 ⟨rfl, by omega, rises_shf hr⟩
 have e1 : yWrap .i64 ((m : Int) - 1) = ((m - 1 : Nat) : Int) := by rw [wrap64 (by omega) (by omega)]; omega
 simp only [vS, forall_const, yCol_int, shf, e1, q1, q2, q3, yNsub_e, nilOk_t, nilOk_f, not_true_eq_false, or_false, false_or, Bool.false_eq_true, false_implies, not_false_eq_true]
 repeat' (first | apply And.intro | intro _)
 all_goals first
   | trivial
   | rfl
   | omega
   | (exfalso; omega)
theorem goalHvI_tt : (goalHvI) = True := goalHvI_eq.trans (eq_true goalHvI_vc)
theorem goalHvI_ok : goalHvI := @ft' goalHvI goalHvI_tt
end Go.Proofs.YtjhbimdaeofdlaaGreatDoor.Ex
end
section
namespace Go.Proofs.YtjhbimdaeofdlaaGreatDoor.Ex
open Go Go.RowKit
abbrev slU (id : Nat) (n : Nat) : AV := .ysl false (yNeq n 0) id 1 0 n
abbrev arU (n : Nat) (f : Nat → Int) : AO := .arr false 24 1 n (colF [.int .u64 f])
def annC13 (k w : Nat → Int) (l : Int) (a c : Nat) (b : Nat) : Option (St → LoopA) :=
 match b with
 | 0 => some fun z => { ι := Nat, tms := [10], tmU := fun d => [.y .i64 (yInt (yNadd a d))], ids := [4, z.h.nx, Nat.succ z.h.nx], hpU := fun d => [.cells [.b true, slU z.h.nx (yNsub d 1), slU (Nat.succ z.h.nx) d, .y .u64 l] 27 none, arU (yNsub d 1) (shf a k), arU d (shf a w)], del := [], ex := 2, pre := fun d => d ≤ c, ms := msFit c }
 | _ => none
def annC12 (k w : Nat → Int) (l : Int) (a c : Nat) (b : Nat) : Option (St → LoopA) :=
 match b with
 | 0 => some fun z => { ι := Nat, tms := [10], tmU := fun d => [.y .i64 (yInt (yNadd a d))], ids := [4, z.h.nx, Nat.succ z.h.nx], hpU := fun d => [.cells [.b false, slU z.h.nx d, slU (Nat.succ z.h.nx) d, .y .u64 l] 27 none, arU d (shf a k), arU d (shf a w)], del := [], ex := 2, pre := fun d => d ≤ c, ms := msFit c }
 | _ => none
def goalC13 : Prop := ∀ (i kn : Bool) (nk : Nat) (k : Nat → Int) (vn : Bool) (nv : Nat) (w : Nat → Int) (l l2 : Int) (a c : Nat), yNle nv 80 = true → yNeq (yNadd nk 1) nv = true → yNle (yNadd a c) nv = true →
 wxP Tryz.prog noSm (annC13 k w l2 a c) 115 [sNode, .sc, .sc, .sc] [dNd i kn nk k vn nv w l, .v (.y .i64 (yInt a)), .v (.y .i64 (yInt (yNadd a c))), .v (.y .u64 l2)] sNodeP (dNd true (yNeq (yNsub c 1) 0) (yNsub c 1) (shf a k) (yNeq c 0) c (shf a w) l2) []
def goalC12 : Prop := ∀ (i kn : Bool) (nk : Nat) (k : Nat → Int) (vn : Bool) (nv : Nat) (w : Nat → Int) (l l2 : Int) (a c : Nat), yNle nv 80 = true → yNeq nk nv = true → yNle (yNadd a c) nv = true →
 wxP Tryz.prog noSm (annC12 k w l2 a c) 116 [sNode, .sc, .sc, .sc] [dNd i kn nk k vn nv w l, .v (.y .i64 (yInt a)), .v (.y .i64 (yInt (yNadd a c))), .v (.y .u64 l2)] sNodeP (dNd false (yNeq c 0) c (shf a k) (yNeq c 0) c (shf a w) l2) []
theorem yNeqB {a b : Nat} : yNeq a b = decide (a = b) := rfl
theorem nilStep {a b : Nat} (h : a ≠ 0) : decide (a = 0) = yAnd (decide (b = 0)) (decide (1 = 0)) := by simp [yAnd, h]
theorem ySel_at {q n : Nat} {f : Nat → Int} {x : Int} (h : q < n + 1) (e : f n = x) : f q = ySel (yNlt q n) (f q) x := by
 by_cases hq : q < n
 · simp [ySel, yNlt, hq]
 · have : q = n := by omega
   subst this; simp [ySel, yNlt, e]
def goalC13V : Prop := (∀ (i kn : Bool) (nk : Nat) (k : Nat → Int) (vn : Bool) (nv : Nat) (w : Nat → Int) (l l2 : Int) (a c : Nat), yNle nv (nat_lit 80) = true → yNeq (yNadd nk 1) nv = true → yNle (yNadd a c) nv = true → true = true ∧ (∃ (i0 : Nat), i0 ≤ c ∧ true = true ∧ yInt (yNadd a i0) = yInt a ∧ true = true ∧ yNeq (yNsub i0 1) (nat_lit 0) = true ∧ yNsub i0 (nat_lit 1) = nat_lit 0 ∧ yNeq i0 (nat_lit 0) = true ∧ i0 = nat_lit 0 ∧ l2 = l2 ∧ yNsub i0 (nat_lit 1) = nat_lit 0 ∧ i0 = nat_lit 0 ∧ true = true ∧ true = true ∧ true = true) ∧ ∀ (g : Nat → AV) (i_1 : Nat), i_1 ≤ c → (yLt (yInt (yNadd a i_1)) (yInt (yNadd a c)) = true → (yIn (yInt (yNadd a i_1)) nv = true → (yNlt (yNadd 0 (yNat (yInt (yNadd a i_1)))) nv = true → (yNeq i_1 i_1 = true → (yGrow (yNadd i_1 1) (nat_lit 8) = true → (yLt (yInt a) (yInt (yNadd a i_1)) = true → (yIn (yWrap IntKind.i64 (ySub (yInt (yNadd a i_1)) 1)) nk = true → (yNlt (yNadd 0 (yNat (yWrap IntKind.i64 (ySub (yInt (yNadd a i_1)) 1)))) nk = true → (yNeq (yNsub i_1 1) (yNsub i_1 1) = true → (yGrow (yNadd (yNsub i_1 1) 1) (nat_lit 8) = true → true = true ∧ ∃ (i' : Nat), i' ≤ c ∧ Nat.succ (msFit c i') ≤ msFit c i_1 ∧ true = true ∧ yInt (yNadd a i') = yWrap IntKind.i64 (yAdd (yInt (yNadd a i_1)) 1) ∧ true = true ∧ yNeq (yNsub i' 1) (nat_lit 0) = yAnd (yNeq (yNsub i_1 1) 0) (yNeq 1 0) ∧ nat_lit 0 = nat_lit 0 ∧ yNsub i' (nat_lit 1) = yNadd (yNsub i_1 1) 1 ∧ yNeq i' (nat_lit 0) = yAnd (yNeq i_1 0) (yNeq 1 0) ∧ nat_lit 0 = nat_lit 0 ∧ i' = yNadd i_1 1 ∧ l2 = l2 ∧ yNsub i' (nat_lit 1) = yNadd (yNsub i_1 1) 1 ∧ (∀ (i : Nat), Nat.succ i ≤ yNsub i' 1 → shf a k i = ySel (yNlt i (yNsub i_1 1)) (shf a k i) (k (yNadd 0 (yNat (yWrap IntKind.i64 (ySub (yInt (yNadd a i_1)) 1))))) ∧ True) ∧ i' = yNadd i_1 1 ∧ (∀ (i : Nat), Nat.succ i ≤ i' → shf a w i = ySel (yNlt i i_1) (shf a w i) (w (yNadd 0 (yNat (yInt (yNadd a i_1))))) ∧ True) ∧ true = true) ∧ (yGrow (yNadd (yNsub i_1 1) 1) (nat_lit 8) = false → False)) ∧ (yNeq (yNsub i_1 1) (yNsub i_1 1) = false → False)) ∧ (yNlt (yNadd 0 (yNat (yWrap IntKind.i64 (ySub (yInt (yNadd a i_1)) 1)))) nk = false → False)) ∧ (yIn (yWrap IntKind.i64 (ySub (yInt (yNadd a i_1)) 1)) nk = false → False)) ∧ (yLt (yInt a) (yInt (yNadd a i_1)) = false → true = true ∧ ∃ (i' : Nat), i' ≤ c ∧ Nat.succ (msFit c i') ≤ msFit c i_1 ∧ true = true ∧ yInt (yNadd a i') = yWrap IntKind.i64 (yAdd (yInt (yNadd a i_1)) 1) ∧ true = true ∧ yNeq (yNsub i' 1) (nat_lit 0) = yNeq (yNsub i_1 1) 0 ∧ nat_lit 0 = nat_lit 0 ∧ yNsub i' (nat_lit 1) = yNsub i_1 1 ∧ yNeq i' (nat_lit 0) = yAnd (yNeq i_1 0) (yNeq 1 0) ∧ nat_lit 0 = nat_lit 0 ∧ i' = yNadd i_1 1 ∧ l2 = l2 ∧ yNsub i' (nat_lit 1) = yNsub i_1 1 ∧ (∀ (i : Nat), Nat.succ i ≤ yNsub i' 1 → shf a k i = shf a k i ∧ True) ∧ i' = yNadd i_1 1 ∧ (∀ (i : Nat), Nat.succ i ≤ i' → shf a w i = ySel (yNlt i i_1) (shf a w i) (w (yNadd 0 (yNat (yInt (yNadd a i_1))))) ∧ True) ∧ true = true)) ∧ (yGrow (yNadd i_1 1) (nat_lit 8) = false → False)) ∧ (yNeq i_1 i_1 = false → False)) ∧ (yNlt (yNadd 0 (yNat (yInt (yNadd a i_1)))) nv = false → False)) ∧ (yIn (yInt (yNadd a i_1)) nv = false → False)) ∧ (yLt (yInt (yNadd a i_1)) (yInt (yNadd a c)) = false → true = true ∧ yNeq (yNsub c 1) (nat_lit 0) = yNeq (yNsub i_1 1) 0 ∧ yNsub c (nat_lit 1) = yNsub i_1 1 ∧ yNadd 0 (yNsub i_1 1) ≤ yNsub i_1 1 ∧ (∀ (i : Nat), Nat.succ i ≤ yNsub c 1 → shf a k i = shf a k (yNadd 0 i) ∧ True) ∧ yNeq c (nat_lit 0) = yNeq i_1 0 ∧ c = i_1 ∧ yNadd 0 i_1 ≤ i_1 ∧ (∀ (i : Nat), Nat.succ i ≤ c → shf a w i = shf a w (yNadd 0 i) ∧ True) ∧ l2 = l2 ∧ true = true))
theorem goalC13_eq : goalC13 = goalC13V := by kernel_rfl
set_option maxHeartbeats 4000000 in
theorem goalC13_vc : goalC13V := by
 unfold goalC13V
 intro i kn nk k vn nv w l l2 a c hnv hnk hac
 simp only [yNle_t, yNeq_t, yNadd_e] at hnv hnk hac
 simp only [vS, forall_const, msFit, yNeqB, shf]
 repeat' (first | apply And.intro | intro (_ : Nat → AV) d hd | intro _)
 all_goals (try (have e1 : yWrap .i64 (((a + d : Nat) : Int) - 1) = ((a + d : Nat) : Int) - 1 := wrap64 (by omega) (by omega); simp only [e1] at *))
 all_goals (try (have e2 : yWrap .i64 (((a + d : Nat) : Int) + 1) = ((a + (d + 1) : Nat) : Int) := (by rw [wrap64 (by omega) (by omega)]; omega); simp only [e2] at *))
 all_goals (try (have hk1 : yNat (((a + d : Nat) : Int) - 1) = a + d - 1 := (by unfold yNat; omega); simp only [hk1] at *))
 all_goals first
   | trivial
   | omega
   | (exfalso; omega)
   | (refine ⟨0, by omega, ?_⟩; simp; done)
   | (refine ⟨d + 1, by omega, by omega, ?_⟩
      repeat' (first | apply And.intro | intro _)
      all_goals first
        | trivial
        | rfl
        | omega
        | exact ySel_at (f := fun i => k (a + i)) (n := d - 1) (x := k (a + d - 1)) (by omega) (by show k (a + (d - 1)) = _; congr 1; omega)
        | exact ySel_at (f := fun i => k (a + i)) (n := d) (x := k (a + d)) (by omega) rfl
        | exact ySel_at (f := fun i => w (a + i)) (n := d) (x := w (a + d)) (by omega) rfl
        | exact nilStep (by omega)
        | (congr 1; rw [decide_eq_decide]; omega)
        | (rw [decide_eq_decide]; omega))
   | (have hc : c = d := by omega
      subst hc
      first | rfl | (simp; done) | omega)
theorem goalC13_tt : (goalC13) = True := goalC13_eq.trans (eq_true goalC13_vc)
theorem goalC13_ok : goalC13 := @ft' goalC13 goalC13_tt
def goalC12V : Prop := (∀ (i kn : Bool) (nk : Nat) (k : Nat → Int) (vn : Bool) (nv : Nat) (w : Nat → Int) (l l2 : Int) (a c : Nat), yNle nv (nat_lit 80) = true → yNeq nk nv = true → yNle (yNadd a c) nv = true → true = true ∧ (∃ (i0 : Nat), i0 ≤ c ∧ true = true ∧ yInt (yNadd a i0) = yInt a ∧ false = false ∧ yNeq i0 (nat_lit 0) = true ∧ i0 = nat_lit 0 ∧ yNeq i0 (nat_lit 0) = true ∧ i0 = nat_lit 0 ∧ l2 = l2 ∧ i0 = nat_lit 0 ∧ i0 = nat_lit 0 ∧ true = true ∧ true = true ∧ true = true) ∧ ∀ (g : Nat → AV) (i_1 : Nat), i_1 ≤ c → (yLt (yInt (yNadd a i_1)) (yInt (yNadd a c)) = true → (yIn (yInt (yNadd a i_1)) nk = true → (yNlt (yNadd 0 (yNat (yInt (yNadd a i_1)))) nk = true → (yNeq i_1 i_1 = true → (yGrow (yNadd i_1 1) (nat_lit 8) = true → (yIn (yInt (yNadd a i_1)) nv = true → (yNlt (yNadd 0 (yNat (yInt (yNadd a i_1)))) nv = true → (yNeq i_1 i_1 = true → (yGrow (yNadd i_1 1) (nat_lit 8) = true → true = true ∧ ∃ (i' : Nat), i' ≤ c ∧ Nat.succ (msFit c i') ≤ msFit c i_1 ∧ true = true ∧ yInt (yNadd a i') = yWrap IntKind.i64 (yAdd (yInt (yNadd a i_1)) 1) ∧ false = false ∧ yNeq i' (nat_lit 0) = yAnd (yNeq i_1 0) (yNeq 1 0) ∧ nat_lit 0 = nat_lit 0 ∧ i' = yNadd i_1 1 ∧ yNeq i' (nat_lit 0) = yAnd (yNeq i_1 0) (yNeq 1 0) ∧ nat_lit 0 = nat_lit 0 ∧ i' = yNadd i_1 1 ∧ l2 = l2 ∧ i' = yNadd i_1 1 ∧ (∀ (i : Nat), Nat.succ i ≤ i' → shf a k i = ySel (yNlt i i_1) (shf a k i) (k (yNadd 0 (yNat (yInt (yNadd a i_1))))) ∧ True) ∧ i' = yNadd i_1 1 ∧ (∀ (i : Nat), Nat.succ i ≤ i' → shf a w i = ySel (yNlt i i_1) (shf a w i) (w (yNadd 0 (yNat (yInt (yNadd a i_1))))) ∧ True) ∧ true = true) ∧ (yGrow (yNadd i_1 1) (nat_lit 8) = false → False)) ∧ (yNeq i_1 i_1 = false → False)) ∧ (yNlt (yNadd 0 (yNat (yInt (yNadd a i_1)))) nv = false → False)) ∧ (yIn (yInt (yNadd a i_1)) nv = false → False)) ∧ (yGrow (yNadd i_1 1) (nat_lit 8) = false → False)) ∧ (yNeq i_1 i_1 = false → False)) ∧ (yNlt (yNadd 0 (yNat (yInt (yNadd a i_1)))) nk = false → False)) ∧ (yIn (yInt (yNadd a i_1)) nk = false → False)) ∧ (yLt (yInt (yNadd a i_1)) (yInt (yNadd a c)) = false → false = false ∧ yNeq c (nat_lit 0) = yNeq i_1 0 ∧ c = i_1 ∧ yNadd 0 i_1 ≤ i_1 ∧ (∀ (i : Nat), Nat.succ i ≤ c → shf a k i = shf a k (yNadd 0 i) ∧ True) ∧ yNeq c (nat_lit 0) = yNeq i_1 0 ∧ c = i_1 ∧ yNadd 0 i_1 ≤ i_1 ∧ (∀ (i : Nat), Nat.succ i ≤ c → shf a w i = shf a w (yNadd 0 i) ∧ True) ∧ l2 = l2 ∧ true = true))
theorem goalC12_eq : goalC12 = goalC12V := by kernel_rfl
set_option maxHeartbeats 4000000 in
theorem goalC12_vc : goalC12V := by
 unfold goalC12V
 intro i kn nk k vn nv w l l2 a c hnv hnk hac
 simp only [yNle_t, yNeq_t, yNadd_e] at hnv hnk hac
 simp only [vS, forall_const, msFit, yNeqB, shf]
 repeat' (first | apply And.intro | intro (_ : Nat → AV) d hd | intro _)
 all_goals (try (have e1 : yWrap .i64 (((a + d : Nat) : Int) - 1) = ((a + d : Nat) : Int) - 1 := wrap64 (by omega) (by omega); simp only [e1] at *))
 all_goals (try (have e2 : yWrap .i64 (((a + d : Nat) : Int) + 1) = ((a + (d + 1) : Nat) : Int) := (by rw [wrap64 (by omega) (by omega)]; omega); simp only [e2] at *))
 all_goals (try (have hk1 : yNat (((a + d : Nat) : Int) - 1) = a + d - 1 := (by unfold yNat; omega); simp only [hk1] at *))
 all_goals first
   | trivial
   | omega
   | (exfalso; omega)
   | (refine ⟨0, by omega, ?_⟩; simp; done)
   | (refine ⟨d + 1, by omega, by omega, ?_⟩
      repeat' (first | apply And.intro | intro _)
      all_goals first
        | trivial
        | rfl
        | omega
        | exact ySel_at (f := fun i => k (a + i)) (n := d - 1) (x := k (a + d - 1)) (by omega) (by show k (a + (d - 1)) = _; congr 1; omega)
        | exact ySel_at (f := fun i => k (a + i)) (n := d) (x := k (a + d)) (by omega) rfl
        | exact ySel_at (f := fun i => w (a + i)) (n := d) (x := w (a + d)) (by omega) rfl
        | exact nilStep (by omega)
        | (congr 1; rw [decide_eq_decide]; omega)
        | (rw [decide_eq_decide]; omega))
   | (have hc : c = d := by omega
      subst hc
      first | rfl | (simp; done) | omega)
theorem goalC12_tt : (goalC12) = True := goalC12_eq.trans (eq_true goalC12_vc)
theorem goalC12_ok : goalC12 := @ft' goalC12 goalC12_tt
def fC13 (ds : List Dx) : Option (Bool × Dx × List (List Dx)) :=
 match ds with
 | [.l [.v (.yb _), .rows _ nk [.int .u64 k], .rows _ nv [.int .u64 w], .v (.y .u64 _)], .v (.y .i64 a), .v (.y .i64 b), .v (.y .u64 l2)] =>
   some (yAnd (yNle nv 80) (yAnd (yNeq (yNadd nk 1) nv) (yAnd (yAnd (yLe 0 a) (yLe a b)) (yLe b (yInt nv)))), dNd true (yNeq (yNsub (yNsub (yNat b) (yNat a)) 1) 0) (yNsub (yNsub (yNat b) (yNat a)) 1) (shf (yNat a) k) (yNeq (yNsub (yNat b) (yNat a)) 0) (yNsub (yNat b) (yNat a)) (shf (yNat a) w) l2, [])
 | _ => none
def fC12 (ds : List Dx) : Option (Bool × Dx × List (List Dx)) :=
 match ds with
 | [.l [.v (.yb _), .rows _ nk [.int .u64 k], .rows _ nv [.int .u64 w], .v (.y .u64 _)], .v (.y .i64 a), .v (.y .i64 b), .v (.y .u64 l2)] =>
   some (yAnd (yNle nv 80) (yAnd (yNeq nk nv) (yAnd (yAnd (yLe 0 a) (yLe a b)) (yLe b (yInt nv)))), dNd false (yNeq (yNsub (yNat b) (yNat a)) 0) (yNsub (yNat b) (yNat a)) (shf (yNat a) k) (yNeq (yNsub (yNat b) (yNat a)) 0) (yNsub (yNat b) (yNat a)) (shf (yNat a) w) l2, [])
 | _ => none
def lHR : List (Nat × Sm) := [(115, .ct (ctX [sNode, .sc, .sc, .sc] sNodeP fC13)), (116, .ct (ctX [sNode, .sc, .sc, .sc] sNodeP fC12))]
def goalHRL : Prop := ∀ (kn : Bool) (k : Nat → Int) (vn : Bool) (nv : Nat) (w : Nat → Int) (l : Int) (m : Nat), yAnd (yNle 2 nv) (yNle nv 80) = true → m = hvM nv →
 wxP Tryz.prog (smL lHR) (fun _ => none) 25 [sNodeP] [dNb false kn nv k vn nv w l] rHv (.l [dNd false (yNeq m 0) m k (yNeq m 0) m w 0, dNd false (yNeq (yNsub nv m) 0) (yNsub nv m) (shf m k) (yNeq (yNsub nv m) 0) (yNsub nv m) (shf m w) l, .v (.y .u64 (k m))]) []
def goalHRI : Prop := ∀ (kn : Bool) (nk : Nat) (k : Nat → Int) (vn : Bool) (nv : Nat) (w : Nat → Int) (l : Int) (m : Nat), yAnd (yNle 2 nv) (yNle nv 80) = true → yNeq (yNadd nk 1) nv = true → m = hvM nv →
 wxP Tryz.prog (smL lHR) (fun _ => none) 25 [sNodeP] [dNb true kn nk k vn nv w l] rHv (.l [dNd true (yNeq (yNsub m 1) 0) (yNsub m 1) k (yNeq m 0) m w 0, dNd true (yNeq (yNsub nk m) 0) (yNsub nk m) (shf m k) (yNeq (yNsub nv m) 0) (yNsub nv m) (shf m w) 0, .v (.y .u64 (k (yNsub m 1)))]) []
def rsnI (nk : Nat) (k : Nat → Int) (a x : Int) : Bool := decide ((a = 0 ∨ k (yNat (a - 1)) < x) ∧ (a = nk ∨ x < k (yNat a)))
abbrev gRsn : List Ag := [.cell cU, .cell none, .cell none]
def fRsn (ds : List Da) : Option (Bool × AV) :=
 match ds with
 | [.cell (.rows _ nk [.int .u64 k]), .cell (.v (.y .i64 a)), .cell (.v (.y .u64 x))] => some (yAnd (yNle nk 80) (yAnd (yLe 0 a) (yLe a (yInt nk))), .yb (rsnI nk k a x))
 | _ => none
def goalRsn : Prop := ∀ (nilk : Bool) (nk : Nat) (k : Nat → Int) (a x : Int), yAnd (yNle nk 80) (yAnd (yLe 0 a) (yLe a (yInt nk))) = true →
 wxF Tryz.prog noSm (fun _ => none) 1000 78 (canA gRsn [.cell (.rows nilk nk [.int .u64 k]), .cell (.v (.y .i64 a)), .cell (.v (.y .u64 x))] []).1 (heapOf (canA gRsn [.cell (.rows nilk nk [.int .u64 k]), .cell (.v (.y .i64 a)), .cell (.v (.y .u64 x))] []).2) (fun v _ => cmpC (.yb (rsnI nk k a x)) v)
def goalRsnV : Prop := (∀ (nilk : Bool) (nk : Nat) (k : Nat → Int) (a x : Int), yAnd (yNle nk 80) (yAnd (yLe 0 a) (yLe a (yInt nk))) = true → (yEq a (0 : Int) = true → (yEq a (yInt nk) = true → rsnI nk k a x = true) ∧ (yEq a (yInt nk) = false → (yIn a nk = true → (yNlt (yNadd 0 (yNat a)) nk = true → rsnI nk k a x = yLt x (k (yNadd 0 (yNat a)))) ∧ (yNlt (yNadd 0 (yNat a)) nk = false → False)) ∧ (yIn a nk = false → False))) ∧ (yEq a (0 : Int) = false → (yIn (yWrap IntKind.i64 (ySub a 1)) nk = true → (yNlt (yNadd 0 (yNat (yWrap IntKind.i64 (ySub a 1)))) nk = true → (yLt (k (yNadd 0 (yNat (yWrap IntKind.i64 (ySub a 1))))) x = true → (yEq a (yInt nk) = true → rsnI nk k a x = true) ∧ (yEq a (yInt nk) = false → (yIn a nk = true → (yNlt (yNadd 0 (yNat a)) nk = true → rsnI nk k a x = yLt x (k (yNadd 0 (yNat a)))) ∧ (yNlt (yNadd 0 (yNat a)) nk = false → False)) ∧ (yIn a nk = false → False))) ∧ (yLt (k (yNadd 0 (yNat (yWrap IntKind.i64 (ySub a 1))))) x = false → rsnI nk k a x = false)) ∧ (yNlt (yNadd 0 (yNat (yWrap IntKind.i64 (ySub a 1)))) nk = false → False)) ∧ (yIn (yWrap IntKind.i64 (ySub a 1)) nk = false → False)))
theorem goalRsn_eq : goalRsn = goalRsnV := by kernel_rfl
theorem rsnI_t {nk : Nat} {k : Nat → Int} {a x : Int} : rsnI nk k a x = true ↔ ((a = 0 ∨ k (yNat (a - 1)) < x) ∧ (a = nk ∨ x < k (yNat a))) := decide_eq_true_iff
theorem rsnI_f {nk : Nat} {k : Nat → Int} {a x : Int} : rsnI nk k a x = false ↔ ¬ ((a = 0 ∨ k (yNat (a - 1)) < x) ∧ (a = nk ∨ x < k (yNat a))) := decide_eq_false_iff_not
theorem goalRsn_vc : goalRsnV := by
 unfold goalRsnV
 intro nilk nk k a x hb
 simp only [vS, forall_const, rsnI_t, rsnI_f] at hb ⊢
 have e : yWrap .i64 (a - 1) = a - 1 := wrap64 (by omega) (by omega)
 have n1 : 0 < a → yNat (a - 1) < nk := fun _ => by unfold yNat; omega
 have n2 : a < nk → yNat a < nk := fun _ => by unfold yNat; omega
 simp only [e]
 repeat' (first | apply And.intro | intro _)
 all_goals first
   | trivial
   | omega
   | (exfalso; omega)
   | (exact Or.inl (by omega))
   | (exact Or.inr (by omega))
   | (intro hh; omega)
   | (rw [Bool.eq_iff_iff, rsnI_t, yLt_t]; omega)
theorem goalRsn_tt : (goalRsn) = True := goalRsn_eq.trans (eq_true goalRsn_vc)
theorem goalRsn_ok : goalRsn := @ft' goalRsn goalRsn_tt
def goalHRLV : Prop := (∀ (kn : Bool) (k : Nat → Int) (vn : Bool) (nv : Nat) (w : Nat → Int) (l : Int) (m : Nat), yAnd (yNle 2 nv) (yNle nv 80) = true → m = hvM nv → (yEq 2 (0 : Int) = true → False) ∧ (yEq 2 (0 : Int) = false → ((yCol (CK.int IntKind.u64) nv fun (i : Nat) => AV.y IntKind.u64 (k i)) = true → ((yCol (CK.int IntKind.u64) nv fun (i : Nat) => AV.y IntKind.u64 (w i)) = true → (yAnd (yNle nv 80) (yAnd (yNeq nv nv) (yAnd (yAnd (yLe 0 0) (yLe 0 (yQuo IntKind.i64 (yWrap IntKind.i64 (yAdd (yInt nv) 1)) 2))) (yLe (yQuo IntKind.i64 (yWrap IntKind.i64 (yAdd (yInt nv) 1)) 2) (yInt nv)))) = true → ((yCol (CK.int IntKind.u64) nv fun (i : Nat) => AV.y IntKind.u64 (k i)) = true → ((yCol (CK.int IntKind.u64) nv fun (i : Nat) => AV.y IntKind.u64 (w i)) = true → (yAnd (yNle nv 80) (yAnd (yNeq nv nv) (yAnd (yAnd (yLe 0 (yQuo IntKind.i64 (yWrap IntKind.i64 (yAdd (yInt nv) 1)) 2)) (yLe (yQuo IntKind.i64 (yWrap IntKind.i64 (yAdd (yInt nv) 1)) 2) (yInt nv))) (yLe (yInt nv) (yInt nv)))) = true → (yIn (yQuo IntKind.i64 (yWrap IntKind.i64 (yAdd (yInt nv) 1)) 2) nv = true → false = false ∧ (yNeq m (nat_lit 0) = yNeq (yNsub (yNat (yQuo IntKind.i64 (yWrap IntKind.i64 (yAdd (yInt nv) 1)) 2)) (yNat 0)) 0 ∧ m = yNsub (yNat (yQuo IntKind.i64 (yWrap IntKind.i64 (yAdd (yInt nv) 1)) 2)) (yNat 0) ∧ ∀ (i : Nat), Nat.succ i ≤ m → k i = shf (yNat 0) (fun (i : Nat) => k i) i ∧ True) ∧ (yNeq m (nat_lit 0) = yNeq (yNsub (yNat (yQuo IntKind.i64 (yWrap IntKind.i64 (yAdd (yInt nv) 1)) 2)) (yNat 0)) 0 ∧ m = yNsub (yNat (yQuo IntKind.i64 (yWrap IntKind.i64 (yAdd (yInt nv) 1)) 2)) (yNat 0) ∧ ∀ (i : Nat), Nat.succ i ≤ m → w i = shf (yNat 0) (fun (i : Nat) => w i) i ∧ True) ∧ (0 : Int) = (0 : Int) ∧ false = false ∧ (yNeq (yNsub nv m) (nat_lit 0) = yNeq (yNsub (yNat (yInt nv)) (yNat (yQuo IntKind.i64 (yWrap IntKind.i64 (yAdd (yInt nv) 1)) 2))) 0 ∧ yNsub nv m = yNsub (yNat (yInt nv)) (yNat (yQuo IntKind.i64 (yWrap IntKind.i64 (yAdd (yInt nv) 1)) 2)) ∧ ∀ (i : Nat), Nat.succ i ≤ yNsub nv m → shf m k i = shf (yNat (yQuo IntKind.i64 (yWrap IntKind.i64 (yAdd (yInt nv) 1)) 2)) (fun (i : Nat) => k i) i ∧ True) ∧ (yNeq (yNsub nv m) (nat_lit 0) = yNeq (yNsub (yNat (yInt nv)) (yNat (yQuo IntKind.i64 (yWrap IntKind.i64 (yAdd (yInt nv) 1)) 2))) 0 ∧ yNsub nv m = yNsub (yNat (yInt nv)) (yNat (yQuo IntKind.i64 (yWrap IntKind.i64 (yAdd (yInt nv) 1)) 2)) ∧ ∀ (i : Nat), Nat.succ i ≤ yNsub nv m → shf m w i = shf (yNat (yQuo IntKind.i64 (yWrap IntKind.i64 (yAdd (yInt nv) 1)) 2)) (fun (i : Nat) => w i) i ∧ True) ∧ l = l ∧ k m = k (yNat (yQuo IntKind.i64 (yWrap IntKind.i64 (yAdd (yInt nv) 1)) 2)) ∧ true = true) ∧ (yIn (yQuo IntKind.i64 (yWrap IntKind.i64 (yAdd (yInt nv) 1)) 2) nv = false → False)) ∧ (yAnd (yNle nv 80) (yAnd (yNeq nv nv) (yAnd (yAnd (yLe 0 (yQuo IntKind.i64 (yWrap IntKind.i64 (yAdd (yInt nv) 1)) 2)) (yLe (yQuo IntKind.i64 (yWrap IntKind.i64 (yAdd (yInt nv) 1)) 2) (yInt nv))) (yLe (yInt nv) (yInt nv)))) = false → False)) ∧ ((yCol (CK.int IntKind.u64) nv fun (i : Nat) => AV.y IntKind.u64 (w i)) = false → False)) ∧ ((yCol (CK.int IntKind.u64) nv fun (i : Nat) => AV.y IntKind.u64 (k i)) = false → False)) ∧ (yAnd (yNle nv 80) (yAnd (yNeq nv nv) (yAnd (yAnd (yLe 0 0) (yLe 0 (yQuo IntKind.i64 (yWrap IntKind.i64 (yAdd (yInt nv) 1)) 2))) (yLe (yQuo IntKind.i64 (yWrap IntKind.i64 (yAdd (yInt nv) 1)) 2) (yInt nv)))) = false → False)) ∧ ((yCol (CK.int IntKind.u64) nv fun (i : Nat) => AV.y IntKind.u64 (w i)) = false → False)) ∧ ((yCol (CK.int IntKind.u64) nv fun (i : Nat) => AV.y IntKind.u64 (k i)) = false → False)))
theorem goalHRL_eq : goalHRL = goalHRLV := by kernel_rfl
set_option maxHeartbeats 4000000 in
theorem goalHRL_vc : goalHRLV := by
 unfold goalHRLV
 intro kn k vn nv w l m hb hm
 simp only [yAnd_t, yNle_t, yNeq_t, yNadd_e] at hb 
 have hq : yQuo .i64 (yWrap .i64 ((nv : Int) + 1)) 2 = ((hvM nv : Nat) : Int) := by
   rw [wrap64 (by omega) (by omega), show ((nv : Int) + 1) = ((nv + 1 : Nat) : Int) by omega, quo_i2 (by omega)]; rfl
 have hm2 : 1 ≤ m ∧ m < nv := by rw [hm]; unfold hvM; omega
 simp only [yInt_e, yAdd_e, hq, ← hm]
 clear hm hq
 have e1 : yWrap .i64 ((m : Int) - 1) = ((m - 1 : Nat) : Int) := by rw [wrap64 (by omega) (by omega)]; omega
 simp only [vS, forall_const, yCol_int, shf, e1]
 repeat' (first | apply And.intro | intro _)
 all_goals first
   | trivial
   | rfl
   | omega
   | (exfalso; omega)
   | (rw [show yNat 0 = 0 from rfl, Nat.zero_add]; done)
   | (congr 1; omega)
   | (simp; done)
theorem goalHRL_tt : (goalHRL) = True := goalHRL_eq.trans (eq_true goalHRL_vc)
theorem goalHRL_ok : goalHRL := @ft' goalHRL goalHRL_tt
def goalHRIV : Prop := (∀ (kn : Bool) (nk : Nat) (k : Nat → Int) (vn : Bool) (nv : Nat) (w : Nat → Int) (l : Int) (m : Nat), yAnd (yNle 2 nv) (yNle nv 80) = true → yNeq (yNadd nk 1) nv = true → m = hvM nv → (yEq 2 (0 : Int) = true → False) ∧ (yEq 2 (0 : Int) = false → ((yCol (CK.int IntKind.u64) nk fun (i : Nat) => AV.y IntKind.u64 (k i)) = true → ((yCol (CK.int IntKind.u64) nv fun (i : Nat) => AV.y IntKind.u64 (w i)) = true → (yAnd (yNle nv 80) (yAnd (yNeq (yNadd nk 1) nv) (yAnd (yAnd (yLe 0 0) (yLe 0 (yQuo IntKind.i64 (yWrap IntKind.i64 (yAdd (yInt nv) 1)) 2))) (yLe (yQuo IntKind.i64 (yWrap IntKind.i64 (yAdd (yInt nv) 1)) 2) (yInt nv)))) = true → ((yCol (CK.int IntKind.u64) nk fun (i : Nat) => AV.y IntKind.u64 (k i)) = true → ((yCol (CK.int IntKind.u64) nv fun (i : Nat) => AV.y IntKind.u64 (w i)) = true → (yAnd (yNle nv 80) (yAnd (yNeq (yNadd nk 1) nv) (yAnd (yAnd (yLe 0 (yQuo IntKind.i64 (yWrap IntKind.i64 (yAdd (yInt nv) 1)) 2)) (yLe (yQuo IntKind.i64 (yWrap IntKind.i64 (yAdd (yInt nv) 1)) 2) (yInt nv))) (yLe (yInt nv) (yInt nv)))) = true → (yIn (yWrap IntKind.i64 (ySub (yQuo IntKind.i64 (yWrap IntKind.i64 (yAdd (yInt nv) 1)) 2) 1)) nk = true → true = true ∧ (yNeq (yNsub m 1) (nat_lit 0) = yNeq (yNsub (yNsub (yNat (yQuo IntKind.i64 (yWrap IntKind.i64 (yAdd (yInt nv) 1)) 2)) (yNat 0)) 1) 0 ∧ yNsub m (nat_lit 1) = yNsub (yNsub (yNat (yQuo IntKind.i64 (yWrap IntKind.i64 (yAdd (yInt nv) 1)) 2)) (yNat 0)) 1 ∧ ∀ (i : Nat), Nat.succ i ≤ yNsub m 1 → k i = shf (yNat 0) (fun (i : Nat) => k i) i ∧ True) ∧ (yNeq m (nat_lit 0) = yNeq (yNsub (yNat (yQuo IntKind.i64 (yWrap IntKind.i64 (yAdd (yInt nv) 1)) 2)) (yNat 0)) 0 ∧ m = yNsub (yNat (yQuo IntKind.i64 (yWrap IntKind.i64 (yAdd (yInt nv) 1)) 2)) (yNat 0) ∧ ∀ (i : Nat), Nat.succ i ≤ m → w i = shf (yNat 0) (fun (i : Nat) => w i) i ∧ True) ∧ (0 : Int) = (0 : Int) ∧ true = true ∧ (yNeq (yNsub nk m) (nat_lit 0) = yNeq (yNsub (yNsub (yNat (yInt nv)) (yNat (yQuo IntKind.i64 (yWrap IntKind.i64 (yAdd (yInt nv) 1)) 2))) 1) 0 ∧ yNsub nk m = yNsub (yNsub (yNat (yInt nv)) (yNat (yQuo IntKind.i64 (yWrap IntKind.i64 (yAdd (yInt nv) 1)) 2))) 1 ∧ ∀ (i : Nat), Nat.succ i ≤ yNsub nk m → shf m k i = shf (yNat (yQuo IntKind.i64 (yWrap IntKind.i64 (yAdd (yInt nv) 1)) 2)) (fun (i : Nat) => k i) i ∧ True) ∧ (yNeq (yNsub nv m) (nat_lit 0) = yNeq (yNsub (yNat (yInt nv)) (yNat (yQuo IntKind.i64 (yWrap IntKind.i64 (yAdd (yInt nv) 1)) 2))) 0 ∧ yNsub nv m = yNsub (yNat (yInt nv)) (yNat (yQuo IntKind.i64 (yWrap IntKind.i64 (yAdd (yInt nv) 1)) 2)) ∧ ∀ (i : Nat), Nat.succ i ≤ yNsub nv m → shf m w i = shf (yNat (yQuo IntKind.i64 (yWrap IntKind.i64 (yAdd (yInt nv) 1)) 2)) (fun (i : Nat) => w i) i ∧ True) ∧ (0 : Int) = (0 : Int) ∧ k (yNsub m 1) = k (yNat (yWrap IntKind.i64 (ySub (yQuo IntKind.i64 (yWrap IntKind.i64 (yAdd (yInt nv) 1)) 2) 1))) ∧ true = true) ∧ (yIn (yWrap IntKind.i64 (ySub (yQuo IntKind.i64 (yWrap IntKind.i64 (yAdd (yInt nv) 1)) 2) 1)) nk = false → False)) ∧ (yAnd (yNle nv 80) (yAnd (yNeq (yNadd nk 1) nv) (yAnd (yAnd (yLe 0 (yQuo IntKind.i64 (yWrap IntKind.i64 (yAdd (yInt nv) 1)) 2)) (yLe (yQuo IntKind.i64 (yWrap IntKind.i64 (yAdd (yInt nv) 1)) 2) (yInt nv))) (yLe (yInt nv) (yInt nv)))) = false → False)) ∧ ((yCol (CK.int IntKind.u64) nv fun (i : Nat) => AV.y IntKind.u64 (w i)) = false → False)) ∧ ((yCol (CK.int IntKind.u64) nk fun (i : Nat) => AV.y IntKind.u64 (k i)) = false → False)) ∧ (yAnd (yNle nv 80) (yAnd (yNeq (yNadd nk 1) nv) (yAnd (yAnd (yLe 0 0) (yLe 0 (yQuo IntKind.i64 (yWrap IntKind.i64 (yAdd (yInt nv) 1)) 2))) (yLe (yQuo IntKind.i64 (yWrap IntKind.i64 (yAdd (yInt nv) 1)) 2) (yInt nv)))) = false → False)) ∧ ((yCol (CK.int IntKind.u64) nv fun (i : Nat) => AV.y IntKind.u64 (w i)) = false → False)) ∧ ((yCol (CK.int IntKind.u64) nk fun (i : Nat) => AV.y IntKind.u64 (k i)) = false → False)))
theorem goalHRI_eq : goalHRI = goalHRIV := by kernel_rfl
set_option maxHeartbeats 4000000 in
theorem goalHRI_vc : goalHRIV := by
 unfold goalHRIV
 intro kn nk k vn nv w l m hb hnk hm
 simp only [yAnd_t, yNle_t, yNeq_t, yNadd_e] at hb hnk 
 have hq : yQuo .i64 (yWrap .i64 ((nv : Int) + 1)) 2 = ((hvM nv : Nat) : Int) := by
   rw [wrap64 (by omega) (by omega), show ((nv : Int) + 1) = ((nv + 1 : Nat) : Int) by omega, quo_i2 (by omega)]; rfl
 have hm2 : 1 ≤ m ∧ m < nv := by rw [hm]; unfold hvM; omega
 simp only [yInt_e, yAdd_e, hq, ← hm]
 clear hm hq
 have e1 : yWrap .i64 ((m : Int) - 1) = ((m - 1 : Nat) : Int) := by rw [wrap64 (by omega) (by omega)]; omega
 simp only [vS, forall_const, yCol_int, shf, e1]
 repeat' (first | apply And.intro | intro _)
 all_goals first
   | trivial
   | rfl
   | omega
   | (exfalso; omega)
   | (rw [show yNat 0 = 0 from rfl, Nat.zero_add]; done)
   | (congr 1; omega)
   | (simp; done)
theorem goalHRI_tt : (goalHRI) = True := goalHRI_eq.trans (eq_true goalHRI_vc)
theorem goalHRI_ok : goalHRI := @ft' goalHRI goalHRI_tt
end Go.Proofs.YtjhbimdaeofdlaaGreatDoor.Ex
end
section
namespace Go.Proofs.YtjhbimdaeofdlaaGreatDoor.Ex
open Go Go.RowKit
def hvK (i : Bool) (m : Nat) : Nat := if i then m - 1 else m
def hvLk (i : Bool) (l : Int) : Int := if i then 0 else l
def fHv (nilR : Bool) (ds : List Dx) : Option (Bool × Dx × List (List Dx)) :=
 match ds with
 | [.l [.v (.yb i), .rows kn nk [.int .u64 k], .rows vn nv [.int .u64 w], .v (.y .u64 l)]] =>
   some (yAnd (yAnd (yNle 2 nv) (yNle nv 80)) (yAnd (yAnd (nilOk kn nk) (nilOk vn nv)) (yAnd (yNeq nv (yNadd nk (bif i then 1 else 0))) (risesB k nk))),
     .l [dNd i (bif nilR then yNeq (hvK i (hvM nv)) 0 else kn) (hvK i (hvM nv)) k (bif nilR then yNeq (hvM nv) 0 else vn) (hvM nv) w 0,
         dNd i (bif nilR then yNeq (yNsub nk (hvM nv)) 0 else kn) (yNsub nk (hvM nv)) (shf (hvM nv) k) (bif nilR then yNeq (yNsub nv (hvM nv)) 0 else vn) (yNsub nv (hvM nv)) (shf (hvM nv) w) (hvLk i l), .v (.y .u64 (k (hvK i (hvM nv))))], [])
 | _ => none
abbrev gAdd : List Ag := [.agg [none, cU, cU, none], .cell none, .cell none, .cell none]
def fAdd (ds : List Da) : Option (Bool × AV) :=
 match ds with
 | [.agg [.v (.yb i), .rows _ nk [.int .u64 k], .rows _ nv [.int .u64 _], .v (.y .u64 _)], .cell (.v (.y .i64 a)), .cell (.v (.y .u64 x)), .cell (.v (.y .u64 _))] =>
   some (yAnd (yNle nk 80) (yNle nv 80), .tup [.agg [.jk, .jk, .jk, .jk], .yb (addOk i nk k nv a x)])
 | _ => none
def fOpnJ (ds : List Dx) : Option (Bool × Dx × List (List Dx)) :=
 match ds with
 | [.l [.v (.y .i64 cs), .v (.y .i64 ct), .v (.y .i64 cf), .v (.y .i64 cl), .v (.y .i64 cp), .rows nil0 n0 [.int .i64 a0, .int .u64 b0]], .l [.v (.y .i64 s), .v (.y .u64 _), .v (.yb i), .rows _ nk [.int .u64 k], .rows _ nv [.int .u64 w], .v (.y .u64 _)], .v (.y .i64 j), .v (.y .u64 key), .v (.y .u64 val)] =>
   some (yAnd (rightC cs ct cf cl cp) (yAnd (yNle nv 80) (yAnd (yNle n0 1000) (yAnd (yAnd (yLe 0 j) (yLe j (yInt nv))) (yAnd (yIff nil0 (yNeq n0 0)) (yAnd i (yNeq nv (yNadd nk 1))))))), .l [],
     [[.v (.y .i64 cs), .v (.y .i64 ct), .v (.y .i64 cf), .v (.y .i64 cl), .v (.y .i64 cp), rowsW (opIL cs ct cf s k w n0 a0 b0 nv (yNat j) key val)]])
 | _ => none
def fOpRJ (ds : List Dx) : Option (Bool × Dx × List (List Dx)) :=
 match ds with
 | [.l [.v (.y .i64 cs), .v (.y .i64 ct), .v (.y .i64 cf), .v (.y .i64 cl), .v (.y .i64 cp)], .rows nil0 n0 [.int .i64 a0, .int .u64 b0], .l [.v (.y .i64 s), .v (.y .u64 _), .v (.yb i), .rows _ nk [.int .u64 k], .rows _ nv [.int .u64 w], .v (.y .u64 _)], .v (.y .i64 j), .v (.y .u64 key), .v (.y .u64 val)] =>
   some (yAnd (rightC cs ct cf cl cp) (yAnd (yNle nv 80) (yAnd (yNle n0 1000) (yAnd (yAnd (yLe 0 j) (yLe j (yInt nv))) (yAnd (yIff nil0 (yNeq n0 0)) (yAnd (yAnd i (yNeq nv (yNadd nk 1))) (yAnd (yAnd (yLe 0 s) (yLe s cs)) (yLt (yInt nv) cf))))))),
     rowsW (opIL cs ct cf s k w n0 a0 b0 nv (yNat j) key val), [])
 | _ => none
def fBg (ds : List Dx) : Option (Bool × Dx × List (List Dx)) :=
 match ds with
 | [.l [.v (.y .i64 cs), .v (.y .i64 ct), .v (.y .i64 cf), .v (.y .i64 cl), .v (.y .i64 cp), .rows nil0 n0 [.int .i64 a0, .int .u64 b0]], .l [.v (.y .i64 s), .v (.y .u64 v), .v (.yb _), .rows _ _ [.int .u64 _], .rows _ _ [.int .u64 _], .v (.y .u64 _)], .l [.v (.yb i), .rows kn nk [.int .u64 k], .rows vn nv [.int .u64 w], .v (.y .u64 l)]] =>
   some (yAnd (rightC cs ct cf cl cp) (yAnd (inU v) (yAnd (yNle nv 80) (yAnd (yNle n0 1000) (yAnd (yIff nil0 (yNeq n0 0)) (yNeq nv (yNadd nk (bif i then 1 else 0))))))), dPt s (renewC v) i kn nk k vn nv w l,
     [[.v (.y .i64 cs), .v (.y .i64 ct), .v (.y .i64 cf), .v (.y .i64 cl), .v (.y .i64 cp), rowsW (begL i cs ct cf s v k w l n0 a0 b0 nv)]])
 | _ => none
def fBR (ds : List Dx) : Option (Bool × Dx × List (List Dx)) :=
 match ds with
 | [.l [.v (.y .i64 cs), .v (.y .i64 ct), .v (.y .i64 cf), .v (.y .i64 cl), .v (.y .i64 cp)], .rows nil0 n0 [.int .i64 a0, .int .u64 b0], .l [.v (.y .i64 s), .v (.y .u64 v), .v (.yb _), .rows _ _ [.int .u64 _], .rows _ _ [.int .u64 _], .v (.y .u64 _)], .l [.v (.yb i), .rows _ nk [.int .u64 k], .rows _ nv [.int .u64 w], .v (.y .u64 l)]] =>
   some (yAnd (rightC cs ct cf cl cp) (yAnd (inU v) (yAnd (yNle nv 80) (yAnd (yNle n0 1000) (yAnd (yIff nil0 (yNeq n0 0)) (yAnd (yNeq nv (yNadd nk (bif i then 1 else 0))) (yAnd (yAnd (yLe 0 s) (yLe s cs)) (yLe (yInt nv) cf))))))), rowsW (begL i cs ct cf s v k w l n0 a0 b0 nv), [])
 | _ => none
def apart3 (cs a b c : Int) : Bool := decide ((0 ≤ a ∧ a ≤ cs) ∧ (1 ≤ b ∧ b ≤ cs) ∧ (1 ≤ c ∧ c ≤ cs) ∧ a ≠ b ∧ a ≠ c ∧ b ≠ c)
def apart4 (cs a b c d : Int) : Bool := decide ((0 ≤ a ∧ a ≤ cs) ∧ (1 ≤ b ∧ b ≤ cs) ∧ (1 ≤ c ∧ c ≤ cs) ∧ (1 ≤ d ∧ d ≤ cs) ∧ a ≠ b ∧ a ≠ c ∧ b ≠ c ∧ a ≠ d ∧ b ≠ d ∧ c ≠ d)
def splK (xi : Bool) (xk : Nat → Int) (xnv : Nat) : Int := xk (hvK xi (hvM xnv))
def splOk (cs cf ps : Int) (pi : Bool) (pnk : Nat) (pk : Nat → Int) (pnv : Nat) (at_ xs : Int) (xi : Bool) (xnk : Nat) (xk : Nat → Int) (xnv : Nat) (fs : Int) : Bool :=
 decide (apart3 cs ps xs fs = true ∧ fitsC pi pnk pk pnv cf = true ∧ fitsC xi xnk xk xnv cf = true ∧ pi = true ∧ 0 ≤ at_ ∧ at_ < pnv ∧ (pnv : Int) < cf ∧ 2 ≤ xnv ∧ rsnI pnk pk at_ (splK xi xk xnv) = true)
def splB (cs ct cf xs : Int) (xi : Bool) (xk : Nat → Int) (xnv : Nat) (xw : Nat → Int) (xl fs fv : Int) : List (Int × Int) :=
 begL xi cs ct cf fs fv (shf (hvM xnv) xk) (shf (hvM xnv) xw) (hvLk xi xl) 0 (fun _ => 0) (fun _ => 0) (xnv - hvM xnv) ++ (if xi then [] else [(linkC cs ct cf xs, freshC fs fv)])
def splL (cs ct cf ps pv : Int) (pi : Bool) (pnk : Nat) (pk : Nat → Int) (pnv : Nat) (pw : Nat → Int) (at_ xs xv : Int) (xi : Bool) (xnk : Nat) (xk : Nat → Int) (xnv : Nat) (xw : Nat → Int) (xl fs fv : Int) : List (Int × Int) :=
 if splOk cs cf ps pi pnk pk pnv at_ xs xi xnk xk xnv fs then
   opIL cs ct cf ps pk pw (rN (splB cs ct cf xs xi xk xnv xw xl fs fv)) (rA (splB cs ct cf xs xi xk xnv xw xl fs fv)) (rB (splB cs ct cf xs xi xk xnv xw xl fs fv)) pnv (yNat (at_ + 1)) (splK xi xk xnv) (freshC fs fv)
     ++ [(shapeC cs ct cf xs, packC xi (hvM xnv : Nat))] ++ [(verC cs ct cf fs, bumpC (renewC fv))] ++ [(verC cs ct cf xs, bumpC xv)] ++ [(verC cs ct cf ps, bumpC pv)]
 else []
def rotOk (cs cf ps : Int) (pi : Bool) (pnk : Nat) (pk : Nat → Int) (pnv : Nat) (xs : Int) (xi : Bool) (xnk : Nat) (xk : Nat → Int) (xnv : Nat) (fs ts : Int) : Bool :=
 decide (apart4 cs ps xs fs ts = true ∧ fitsC pi pnk pk pnv cf = true ∧ fitsC xi xnk xk xnv cf = true ∧ pi = true ∧ pnv = 1 ∧ 2 ≤ xnv)
def rotW (xs xv fs fv : Int) (j : Nat) : Int := if j = 0 then handC xs xv else freshC fs fv
def rotL (cs ct cf ps pv : Int) (pi : Bool) (pnk : Nat) (pk : Nat → Int) (pnv : Nat) (xs xv : Int) (xi : Bool) (xnk : Nat) (xk : Nat → Int) (xnv : Nat) (xw : Nat → Int) (xl fs fv ts tv : Int) : List (Int × Int) :=
 if rotOk cs cf ps pi pnk pk pnv xs xi xnk xk xnv fs ts then
   begL true cs ct cf ts tv (fun _ => splK xi xk xnv) (rotW xs xv fs fv) 0 (rN (splB cs ct cf xs xi xk xnv xw xl fs fv)) (rA (splB cs ct cf xs xi xk xnv xw xl fs fv)) (rB (splB cs ct cf xs xi xk xnv xw xl fs fv)) 2
     ++ [(valC cs ct cf ps 0, freshC ts tv)] ++ [(shapeC cs ct cf xs, packC xi (hvM xnv : Nat))] ++ [(verC cs ct cf fs, bumpC (renewC fv))] ++ [(verC cs ct cf ts, bumpC (renewC tv))] ++ [(verC cs ct cf xs, bumpC xv)] ++ [(verC cs ct cf ps, bumpC pv)]
 else []
def lPn : List (Nat × Sm) := [(68, .ct (ctX [sPen, sPart, .sc, .sc, .sc] (.tup []) fOpnJ)), (87, .ct (ctX [sPen, sPart, sNodeP] sPartP fBg)), (76, .ct (ctX [sNodeP] rHv (fHv false))), (77, .ct (ctS gAdd fAdd)),
 (97, .ct (ctS gL1 (fL1 linkC))), (135, .ct (ctS gL1 (fL1 shapeC))), (169, .ct (ctS gPk fPk)), (114, .ct (ctS gW (fW renewC))), (88, .ct (ctS gPart (fHan handC))), (24, .ct (ctS gPart (fHan freshC))),
 (82, .ct (ctX [sConf, ownW, sPart, .sc, .sc, .sc] ownW fOpRJ)), (79, .ct (ctX [sConf, ownW, sPart, sNodeP] ownW fBR)), (25, .ct (ctX [sNodeP] rHv (fHv true))),
 (80, .ct (ctS gL1 (fR1 linkC))), (118, .ct (ctS gL1 (fR1 shapeC))), (159, .ct (ctS gPk fPk)), (182, .ct (ctS gW (fW renewC))), (92, .ct (ctS gPart (fHan handC))), (81, .ct (ctS gPart (fHan freshC))), (78, .ct (ctS gRsn fRsn))] ++ lShr
def preP2 (xkn xvn : Bool) (xnk xnv : Nat) : Bool := yAnd (yAnd (yNle xnk 80) (yNle xnv 80)) (yAnd (nilOk xkn xnk) (nilOk xvn xnv))
def goalSpl (P : Program) (f : FuncId) (xi : Bool) : Prop := ∀ (cs ct cf cl cp ps pv : Int) (pi pkn : Bool) (pnk : Nat) (pk : Nat → Int) (pvn : Bool) (pnv : Nat) (pw : Nat → Int) (pl at_ xs xv : Int) (xkn : Bool) (xnk : Nat) (xk : Nat → Int) (xvn : Bool) (xnv : Nat) (xw : Nat → Int) (xl fs fv : Int) (fi fkn : Bool) (fnk : Nat) (fk : Nat → Int) (fvn : Bool) (fnv : Nat) (fw : Nat → Int) (fl : Int) (L : List (Int × Int)),
 rightC cs ct cf cl cp = true → inU pv = true → inU xv = true → inU fv = true → inU (renewC fv) = true → yAnd (yNle pnk 80) (yNle pnv 80) = true → preP2 xkn xvn xnk xnv = true →
 L = splL cs ct cf ps pv pi pnk pk pnv pw at_ xs xv xi xnk xk xnv xw xl fs fv →
 wxP P (smL lPn) (fun _ => none) f [sConf, sPartP, .sc, sPartP, sPartP] [dCf cs ct cf cl cp, dPt ps pv pi pkn pnk pk pvn pnv pw pl, .v (.y .i64 at_), dPb xs xv xi xkn xnk xk xvn xnv xw xl, dPt fs fv fi fkn fnk fk fvn fnv fw fl] ownW (rowsW L) []
def goalSplPL : Prop := goalSpl Tryz.prog 12 false
def goalSplPI : Prop := goalSpl Tryz.prog 12 true
def goalSplRL : Prop := goalSpl Tryz.prog 13 false
def goalSplRI : Prop := goalSpl Tryz.prog 13 true
def goalRot (P : Program) (f : FuncId) (xi : Bool) : Prop := ∀ (cs ct cf cl cp ps pv : Int) (pi pkn : Bool) (pnk : Nat) (pk : Nat → Int) (pvn : Bool) (pnv : Nat) (pw : Nat → Int) (pl xs xv : Int) (xkn : Bool) (xnk : Nat) (xk : Nat → Int) (xvn : Bool) (xnv : Nat) (xw : Nat → Int) (xl fs fv : Int) (fi fkn : Bool) (fnk : Nat) (fk : Nat → Int) (fvn : Bool) (fnv : Nat) (fw : Nat → Int) (fl ts tv : Int) (ti tkn : Bool) (tnk : Nat) (tk : Nat → Int) (tvn : Bool) (tnv : Nat) (tw : Nat → Int) (tl : Int) (L : List (Int × Int)),
 rightC cs ct cf cl cp = true → inU pv = true → inU xv = true → inU fv = true → inU (renewC fv) = true → inU tv = true → inU (renewC tv) = true → yAnd (yNle pnk 80) (yNle pnv 80) = true → preP2 xkn xvn xnk xnv = true →
 L = rotL cs ct cf ps pv pi pnk pk pnv xs xv xi xnk xk xnv xw xl fs fv ts tv →
 wxP P (smL lPn) (fun _ => none) f [sConf, sPartP, sPartP, sPartP, sPartP] [dCf cs ct cf cl cp, dPt ps pv pi pkn pnk pk pvn pnv pw pl, dPb xs xv xi xkn xnk xk xvn xnv xw xl, dPt fs fv fi fkn fnk fk fvn fnv fw fl, dPt ts tv ti tkn tnk tk tvn tnv tw tl] ownW (rowsW L) []
def goalRotPL : Prop := goalRot Tryz.prog 15 false
def goalRotPI : Prop := goalRot Tryz.prog 15 true
def goalRotRL : Prop := goalRot Tryz.prog 16 false
def goalRotRI : Prop := goalRot Tryz.prog 16 true
end Go.Proofs.YtjhbimdaeofdlaaGreatDoor.Ex
end
section
namespace Go.Proofs.YtjhbimdaeofdlaaGreatDoor.Ex
open Go Go.RowKit
theorem rises_insI {k : Nat → Int} {n j : Nat} {x : Int} (hr : Rises k n) (hj : j ≤ n) : Rises (insI k j x) (n + 1) ↔ ((j = 0 ∨ k (j - 1) < x) ∧ (j = n ∨ x < k j)) := by
 constructor
 · intro h
   constructor
   · by_cases h0 : j = 0
     · exact .inl h0
     · right
       have := h (j - 1) (by omega)
       unfold insI at this
       rw [if_pos (by omega), if_neg (by omega), if_pos (by omega)] at this
       exact this
   · by_cases hn : j = n
     · exact .inl hn
     · right
       have := h j (by omega)
       unfold insI at this
       rw [if_neg (by omega), if_pos rfl, if_neg (by omega), if_neg (by omega)] at this
       exact this
 · rintro ⟨h1, h2⟩ i hi
   unfold insI
   by_cases a : i + 1 < j
   · rw [if_pos (by omega), if_pos a]; exact hr i (by omega)
   by_cases b : i + 1 = j
   · rw [if_pos (by omega), if_neg (by omega), if_pos b]
     have : k (j - 1) < x := h1.resolve_left (by omega)
     rw [show i = j - 1 by omega]; exact this
   by_cases c : i = j
   · rw [if_neg (by omega), if_pos c, if_neg (by omega), if_neg (by omega)]
     have : x < k j := h2.resolve_left (by omega)
     rw [show i + 1 - 1 = j by omega]; exact this
   · rw [if_neg (by omega), if_neg c, if_neg (by omega), if_neg (by omega)]
     have := hr (i - 1) (by omega)
     rw [show i - 1 + 1 = i by omega] at this
     rw [show i + 1 - 1 = i by omega]; exact this
theorem addOk_eq {pi : Bool} {nk : Nat} {k : Nat → Int} {nv : Nat} {cf a x : Int} (hf : fitsC pi nk k nv cf = true) (h1 : 0 ≤ a) (h2 : a < nv) : addOk pi nk k nv (a + 1) x = (pi && rsnI nk k a x) := by
 have hf := fits_t.1 hf
 cases pi with
 | false =>
   unfold addOk
   rw [Bool.false_and, decide_eq_false_iff_not]
   intro h
   have := (rightN_t.1 h.1).1
   cases this
 | true =>
   simp only [if_true] at hf
   rw [Bool.true_and, Bool.eq_iff_iff, rsnI_t]
   unfold addOk
   rw [decide_eq_true_iff, rightN_t, rightN_t]
   have e : (a + 1 - 1).toNat = yNat a := by unfold yNat; omega
   have e2 : yNat (a - 1) = yNat a - 1 := by unfold yNat; omega
   rw [e, rises_insI hf.2.2 (j := yNat a) (by unfold yNat; omega), e2]
   have q1 : (yNat a = 0) = (a = 0) := by unfold yNat; exact propext (by omega)
   have q2 : (yNat a = nk) = (a = nk) := by unfold yNat; exact propext (by omega)
   rw [q1, q2]
   constructor
   · exact fun h => h.2.2.2.2.2
   · exact fun h => ⟨⟨rfl, by omega, hf.2.2⟩, by omega, by omega, rfl, by omega, h⟩
theorem rA_snoc4 (l : List (Int × Int)) (x y z u : Int × Int) {j : Nat} (h : j < rN l + 1 + 1 + 1 + 1) : rA (l ++ [x] ++ [y] ++ [z] ++ [u]) j = ySel (yNlt j (rN l + 1 + 1 + 1)) (ySel (yNlt j (rN l + 1 + 1)) (ySel (yNlt j (rN l + 1)) (ySel (yNlt j (rN l)) (rA l j) x.1) y.1) z.1) u.1 := by
 rw [rA_snoc _ u (by rw [rN_snoc, rN_snoc, rN_snoc]; exact h), rN_snoc, rN_snoc, rN_snoc]
 by_cases hj : j < rN l + 1 + 1 + 1
 · rw [rA_snoc3 _ x y z hj]
 · simp [ySel, yNlt, hj]
theorem rB_snoc4 (l : List (Int × Int)) (x y z u : Int × Int) {j : Nat} (h : j < rN l + 1 + 1 + 1 + 1) : rB (l ++ [x] ++ [y] ++ [z] ++ [u]) j = ySel (yNlt j (rN l + 1 + 1 + 1)) (ySel (yNlt j (rN l + 1 + 1)) (ySel (yNlt j (rN l + 1)) (ySel (yNlt j (rN l)) (rB l j) x.2) y.2) z.2) u.2 := by
 rw [rB_snoc _ u (by rw [rN_snoc, rN_snoc, rN_snoc]; exact h), rN_snoc, rN_snoc, rN_snoc]
 by_cases hj : j < rN l + 1 + 1 + 1
 · rw [rB_snoc3 _ x y z hj]
 · simp [ySel, yNlt, hj]
theorem rN_snoc4 (l : List (Int × Int)) (x y z u : Int × Int) : rN (l ++ [x] ++ [y] ++ [z] ++ [u]) = rN l + 1 + 1 + 1 + 1 := by rw [rN_snoc, rN_snoc, rN_snoc, rN_snoc]
theorem prw_congr {n : Nat} {a b a' b' : Nat → Int} (h : ∀ j, j < n → a j = a' j ∧ b j = b' j) : prw n a b = prw n a' b' := by
 unfold prw
 apply List.map_congr_left
 intro j hj
 rw [List.mem_range] at hj
 rw [(h j hj).1, (h j hj).2]
theorem opIL_prw {cs ct cf s : Int} {k w : Nat → Int} {n0 n0' : Nat} {a0 b0 a0' b0' : Nat → Int} {n j : Nat} {key val : Int} (h : prw n0 a0 b0 = prw n0' a0' b0') : opIL cs ct cf s k w n0 a0 b0 n j key val = opIL cs ct cf s k w n0' a0' b0' n j key val := by
 unfold opIL opIO
 rw [h]
theorem opIL_len {cs ct cf s : Int} {k w : Nat → Int} {n0 : Nat} {a0 b0 : Nat → Int} {n j : Nat} {key val : Int} : rN (opIL cs ct cf s k w n0 a0 b0 n j key val) ≤ n0 + 2 * n + 7 := by
 unfold opIL
 split
 · have := layI_len (cs := cs) (ct := ct) (cf := cf) (s := s) (j := n) (key := key) (val := val)
   simp only [rN, List.length_append, prw_len, List.length_cons, List.length_nil]; omega
 · have := opIR_len (cs := cs) (ct := ct) (cf := cf) (s := s) (k0 := key) (k := k) (w := w) (n0 := n0) (a0 := a0) (b0 := b0) (n := n) (n - 1 - j + 1)
   simp only [opIR] at this
   have h2 := layI_len (cs := cs) (ct := ct) (cf := cf) (s := s) (j := j) (key := key) (val := val)
   simp only [rN, List.length_append] at this ⊢
   omega
theorem begL_len {i : Bool} {cs ct cf s v : Int} {k w : Nat → Int} {l : Int} {n0 : Nat} {a0 b0 : Nat → Int} {nv : Nat} : n0 + 1 ≤ rN (begL i cs ct cf s v k w l n0 a0 b0 nv) ∧ rN (begL i cs ct cf s v k w l n0 a0 b0 nv) ≤ n0 + 2 * nv + 3 ∧ rE (begL i cs ct cf s v k w l n0 a0 b0 nv) = false := by
 have h := begO_len (i := i) (cs := cs) (ct := ct) (cf := cf) (s := s) (v := v) (k := k) (w := w) (n0 := n0) (a0 := a0) (b0 := b0) nv
 have h2 : n0 + 1 ≤ rN (begO i cs ct cf s v k w n0 a0 b0 nv) := by unfold begO rN; simp only [List.length_append, prw_len, List.length_cons, List.length_nil]; omega
 unfold begL
 refine ⟨?_, ?_, rE_snoc _ _⟩ <;> rw [rN_snoc, rN_snoc] <;> omega
theorem apart3_t {cs a b c : Int} : apart3 cs a b c = true ↔ ((0 ≤ a ∧ a ≤ cs) ∧ (1 ≤ b ∧ b ≤ cs) ∧ (1 ≤ c ∧ c ≤ cs) ∧ a ≠ b ∧ a ≠ c ∧ b ≠ c) := decide_eq_true_iff
theorem apart4_t {cs a b c d : Int} : apart4 cs a b c d = true ↔ ((0 ≤ a ∧ a ≤ cs) ∧ (1 ≤ b ∧ b ≤ cs) ∧ (1 ≤ c ∧ c ≤ cs) ∧ (1 ≤ d ∧ d ≤ cs) ∧ a ≠ b ∧ a ≠ c ∧ b ≠ c ∧ a ≠ d ∧ b ≠ d ∧ c ≠ d) := decide_eq_true_iff
theorem hv_bnd {n : Nat} (h : 2 ≤ n) : 1 ≤ hvM n ∧ hvM n < n := by unfold hvM; omega
theorem slLo {s cs v : Int} (hv : (0 ≤ s ∧ s ≤ cs ∧ 0 ≤ v) ∨ ((s < 0 ∨ cs < s) ∧ v < 0)) (h : s < 0) (hc : 1 ≤ cs) : ((s < 0) = True) ∧ ((0 ≤ s) = False) ∧ ((cs < s) = False) ∧ ((s ≤ cs) = True) ∧ ((v < 0) = True) ∧ ((0 ≤ v) = False) ∧ ((s = 0) = False) :=
 ⟨eq_true (by omega), eq_false (by omega), eq_false (by omega), eq_true (by omega), eq_true (by omega), eq_false (by omega), eq_false (by omega)⟩
theorem slHi {s cs v : Int} (hv : (0 ≤ s ∧ s ≤ cs ∧ 0 ≤ v) ∨ ((s < 0 ∨ cs < s) ∧ v < 0)) (h : cs < s) (hc : 1 ≤ cs) : ((s < 0) = False) ∧ ((0 ≤ s) = True) ∧ ((cs < s) = True) ∧ ((s ≤ cs) = False) ∧ ((v < 0) = True) ∧ ((0 ≤ v) = False) ∧ ((s = 0) = False) :=
 ⟨eq_false (by omega), eq_true (by omega), eq_true (by omega), eq_false (by omega), eq_true (by omega), eq_false (by omega), eq_false (by omega)⟩
theorem slZe {s cs v : Int} (hv : (0 ≤ s ∧ s ≤ cs ∧ 0 ≤ v) ∨ ((s < 0 ∨ cs < s) ∧ v < 0)) (h : s = 0) (hc : 1 ≤ cs) : ((s < 0) = False) ∧ ((0 ≤ s) = True) ∧ ((cs < s) = False) ∧ ((s ≤ cs) = True) ∧ ((v < 0) = False) ∧ ((0 ≤ v) = True) ∧ ((s = 0) = True) :=
 ⟨eq_false (by omega), eq_true (by omega), eq_false (by omega), eq_true (by omega), eq_false (by omega), eq_true (by omega), eq_true (by omega)⟩
theorem slIn {s cs v : Int} (hv : (0 ≤ s ∧ s ≤ cs ∧ 0 ≤ v) ∨ ((s < 0 ∨ cs < s) ∧ v < 0)) (h1 : ¬ s < 0) (h2 : ¬ cs < s) (h : ¬ s = 0) : ((s < 0) = False) ∧ ((0 ≤ s) = True) ∧ ((cs < s) = False) ∧ ((s ≤ cs) = True) ∧ ((v < 0) = False) ∧ ((0 ≤ v) = True) ∧ ((s = 0) = False) :=
 ⟨eq_false (by omega), eq_true (by omega), eq_false (by omega), eq_true (by omega), eq_false (by omega), eq_true (by omega), eq_false (by omega)⟩
theorem slTo {s cs v : Int} (hv : (0 ≤ s ∧ s ≤ cs ∧ 0 ≤ v) ∨ ((s < 0 ∨ cs < s) ∧ v < 0)) (h1 : ¬ s < 0) (h2 : ¬ cs < s) : ((s < 0) = False) ∧ ((0 ≤ s) = True) ∧ ((cs < s) = False) ∧ ((s ≤ cs) = True) ∧ ((v < 0) = False) ∧ ((0 ≤ v) = True) :=
 ⟨eq_false (by omega), eq_true (by omega), eq_false (by omega), eq_true (by omega), eq_false (by omega), eq_true (by omega)⟩
theorem vT : (∀ (p : Prop), (False ∨ p) = p) ∧ (∀ (p : Prop), (p ∨ False) = p) ∧ (∀ (a b : Int), (a ≠ b) = ¬ (a = b)) ∧ (∀ (a b : Bool), (a ≠ b) = ¬ (a = b)) ∧ ((¬ True) = False) ∧ ((¬ False) = True) :=
 ⟨false_or, or_false, fun _ _ => rfl, fun _ _ => rfl, not_true_eq_false, not_false_eq_true⟩
def goalSplPL_2 (cs : Int) (ct : Int) (cf : Int) (fs : Int) (fv : Int) (xnv : Nat) (xk : Nat → Int) (xw : Nat → Int) (xl : Int) := begL false cs ct cf fs fv (fun (i : Nat) => shf (hvM xnv) (fun (i : Nat) => xk i) i) (fun (i : Nat) => shf (hvM xnv) (fun (i : Nat) => xw i) i) (hvLk false xl) 0 (fun (i : Nat) => (0 : Int)) (fun (i : Nat) => (0 : Int)) (yNsub xnv (hvM xnv))
def goalSplPL_4 (cs : Int) (ct : Int) (cf : Int) (fs : Int) (fv : Int) (xnv : Nat) (xk : Nat → Int) (xw : Nat → Int) (xl : Int) := yNadd (rN (goalSplPL_2 cs ct cf fs fv xnv xk xw xl)) 1
def goalSplPL_0 (cs : Int) (ct : Int) (cf : Int) (ps : Int) (pk : Nat → Int) (pw : Nat → Int) (fs : Int) (fv : Int) (xnv : Nat) (xk : Nat → Int) (xw : Nat → Int) (xl : Int) (xs : Int) (pnv : Nat) (at_ : Int) := opIL cs ct cf ps (fun (i : Nat) => pk i) (fun (i : Nat) => pw i) (goalSplPL_4 cs ct cf fs fv xnv xk xw xl) (fun (i : Nat) => ySel (yNlt i (rN (goalSplPL_2 cs ct cf fs fv xnv xk xw xl))) (rA (goalSplPL_2 cs ct cf fs fv xnv xk xw xl) i) (linkC cs ct cf xs)) (fun (i : Nat) => ySel (yNlt i (rN (goalSplPL_2 cs ct cf fs fv xnv xk xw xl))) (rB (goalSplPL_2 cs ct cf fs fv xnv xk xw xl) i) (freshC fs fv)) pnv (yNat (yWrap IntKind.i64 (yAdd at_ 1))) (xk (hvK false (hvM xnv))) (freshC fs fv)
def goalSplPL_10 (fnv : Nat) (fw : Nat → Int) := yCol (CK.int IntKind.u64) fnv fun (i : Nat) => AV.y IntKind.u64 (fw i)
def goalSplPL_11 (fv : Int) (xnv : Nat) (xnk : Nat) := yAnd (yAnd (yLe 0 fv) (yLt fv 18446744073709551616)) (yAnd (yNle (yNsub xnv (hvM xnv)) 80) (yAnd (yNle 0 1000) (yAnd (yIff true (yNeq 0 0)) (yNeq (yNsub xnv (hvM xnv)) (yNadd (yNsub xnk (hvM xnv)) 0)))))
def goalSplPL_12 (xkn : Bool) (xnk : Nat) (xvn : Bool) (xnv : Nat) (xk : Nat → Int) := yAnd (yAnd (nilOk xkn xnk) (nilOk xvn xnv)) (yAnd (yNeq xnv (yNadd xnk 0)) (risesB (fun (i : Nat) => xk i) xnk))
def goalSplPL_13 (pnv : Nat) (cs : Int) (ct : Int) (cf : Int) (fs : Int) (fv : Int) (xnv : Nat) (xk : Nat → Int) (xw : Nat → Int) (xl : Int) (at_ : Int) (pi : Bool) (pnk : Nat) := yAnd (yNle pnv 80) (yAnd (yNle (goalSplPL_4 cs ct cf fs fv xnv xk xw xl) 1000) (yAnd (yAnd (yLe 0 (yWrap IntKind.i64 (yAdd at_ 1))) (yLe (yWrap IntKind.i64 (yAdd at_ 1)) (yInt pnv))) (yAnd (yIff (yAnd (rE (goalSplPL_2 cs ct cf fs fv xnv xk xw xl)) (yNeq 1 0)) (yNeq (goalSplPL_4 cs ct cf fs fv xnv xk xw xl) 0)) (yAnd pi (yNeq pnv (yNadd pnk 1))))))
def goalSplPL_3 (cs : Int) (ct : Int) (cf : Int) (ps : Int) (pk : Nat → Int) (pw : Nat → Int) (fs : Int) (fv : Int) (xnv : Nat) (xk : Nat → Int) (xw : Nat → Int) (xl : Int) (xs : Int) (pnv : Nat) (at_ : Int) := yNadd (yNadd (rN (goalSplPL_0 cs ct cf ps pk pw fs fv xnv xk xw xl xs pnv at_)) 1) 1
def goalSplPL_5 (pnk : Nat) (pk : Nat → Int) := yCol (CK.int IntKind.u64) pnk fun (i : Nat) => AV.y IntKind.u64 (pk i)
def goalSplPL_6 (pnv : Nat) (pw : Nat → Int) := yCol (CK.int IntKind.u64) pnv fun (i : Nat) => AV.y IntKind.u64 (pw i)
def goalSplPL_7 (xnk : Nat) (xk : Nat → Int) := yCol (CK.int IntKind.u64) xnk fun (i : Nat) => AV.y IntKind.u64 (xk i)
def goalSplPL_8 (xnv : Nat) (xw : Nat → Int) := yCol (CK.int IntKind.u64) xnv fun (i : Nat) => AV.y IntKind.u64 (xw i)
def goalSplPL_9 (fnk : Nat) (fk : Nat → Int) := yCol (CK.int IntKind.u64) fnk fun (i : Nat) => AV.y IntKind.u64 (fk i)
def goalSplPL_1 (cs : Int) (ct : Int) (cf : Int) (cl : Int) (cp : Int) (xs : Int) (L : List (Int × Int)) (ps : Int) (fs : Int) (pnk : Nat) (pk : Nat → Int) (pnv : Nat) (pw : Nat → Int) (pi : Bool) (xnk : Nat) (xk : Nat → Int) (xnv : Nat) (xw : Nat → Int) (at_ : Int) (xkn : Bool) (xvn : Bool) (fnk : Nat) (fk : Nat → Int) (fnv : Nat) (fw : Nat → Int) (fv : Int) (xl : Int) (xv : Int) (pv : Int) := rightC cs ct cf cl cp = true → (yLt (verC cs ct cf xs) (0 : Int) = true → rE L = true ∧ rN L = nat_lit 0 ∧ rN L = nat_lit 0 ∧ true = true ∧ true = true) ∧ (yLt (verC cs ct cf xs) (0 : Int) = false → (yEq xs (0 : Int) = true → rE L = true ∧ rN L = nat_lit 0 ∧ rN L = nat_lit 0 ∧ true = true ∧ true = true) ∧ (yEq xs (0 : Int) = false → (yEq ps xs = true → rE L = true ∧ rN L = nat_lit 0 ∧ rN L = nat_lit 0 ∧ true = true ∧ true = true) ∧ (yEq ps xs = false → mst (rightC cs ct cf cl cp) ((yLt (verC cs ct cf fs) (0 : Int) = true → rE L = true ∧ rN L = nat_lit 0 ∧ rN L = nat_lit 0 ∧ true = true ∧ true = true) ∧ (yLt (verC cs ct cf fs) (0 : Int) = false → (yEq fs (0 : Int) = true → rE L = true ∧ rN L = nat_lit 0 ∧ rN L = nat_lit 0 ∧ true = true ∧ true = true) ∧ (yEq fs (0 : Int) = false → (yEq ps fs = true → rE L = true ∧ rN L = nat_lit 0 ∧ rN L = nat_lit 0 ∧ true = true ∧ true = true) ∧ (yEq ps fs = false → (yEq xs fs = true → rE L = true ∧ rN L = nat_lit 0 ∧ rN L = nat_lit 0 ∧ true = true ∧ true = true) ∧ (yEq xs fs = false → mst (goalSplPL_5 pnk pk) (mst (goalSplPL_6 pnv pw) (mst (yAnd (yNle pnk 80) (yNle pnv 80)) ((yNot (fitsC pi pnk (fun (i : Nat) => pk i) pnv cf) = true → rE L = true ∧ rN L = nat_lit 0 ∧ rN L = nat_lit 0 ∧ true = true ∧ true = true) ∧ (yNot (fitsC pi pnk (fun (i : Nat) => pk i) pnv cf) = false → mst (goalSplPL_7 xnk xk) (mst (goalSplPL_8 xnv xw) (mst (yAnd (yNle xnk 80) (yNle xnv 80)) ((yNot (fitsC false xnk (fun (i : Nat) => xk i) xnv cf) = true → rE L = true ∧ rN L = nat_lit 0 ∧ rN L = nat_lit 0 ∧ true = true ∧ true = true) ∧ (yNot (fitsC false xnk (fun (i : Nat) => xk i) xnv cf) = false → (yLt (yInt xnv) (2 : Int) = true → rE L = true ∧ rN L = nat_lit 0 ∧ rN L = nat_lit 0 ∧ true = true ∧ true = true) ∧ (yLt (yInt xnv) (2 : Int) = false → (yLt at_ (0 : Int) = true → rE L = true ∧ rN L = nat_lit 0 ∧ rN L = nat_lit 0 ∧ true = true ∧ true = true) ∧ (yLt at_ (0 : Int) = false → (yLe (yInt pnv) at_ = true → rE L = true ∧ rN L = nat_lit 0 ∧ rN L = nat_lit 0 ∧ true = true ∧ true = true) ∧ (yLe (yInt pnv) at_ = false → (yLe cf (yInt pnv) = true → rE L = true ∧ rN L = nat_lit 0 ∧ rN L = nat_lit 0 ∧ true = true ∧ true = true) ∧ (yLe cf (yInt pnv) = false → mst (goalSplPL_7 xnk xk) (mst (goalSplPL_8 xnv xw) (mst (yAnd (yAnd (yNle 2 xnv) (yNle xnv 80)) (goalSplPL_12 xkn xnk xvn xnv xk)) (mst (goalSplPL_5 pnk pk) (mst (goalSplPL_6 pnv pw) (mst (yAnd (yNle pnk 80) (yNle pnv 80)) ((addOk pi pnk (fun (i : Nat) => pk i) pnv (yWrap IntKind.i64 (yAdd at_ 1)) (xk (hvK false (hvM xnv))) = true → mst (goalSplPL_7 xnk xk) (mst (goalSplPL_8 xnv xw) (mst (yAnd (yAnd (yNle 2 xnv) (yNle xnv 80)) (goalSplPL_12 xkn xnk xvn xnv xk)) (mst (goalSplPL_9 fnk fk) (mst (goalSplPL_10 fnv fw) (mst (yCol (CK.int IntKind.u64) (yNsub xnk (hvM xnv)) fun (i : Nat) => AV.y IntKind.u64 (shf (hvM xnv) (fun (i : Nat) => xk i) i)) (mst (yCol (CK.int IntKind.u64) (yNsub xnv (hvM xnv)) fun (i : Nat) => AV.y IntKind.u64 (shf (hvM xnv) (fun (i : Nat) => xw i) i)) (mst (yAnd (rightC cs ct cf cl cp) (goalSplPL_11 fv xnv xnk)) (mst (rightC cs ct cf cl cp) (mst (goalSplPL_9 fnk fk) (mst (goalSplPL_10 fnv fw) (mst (yAnd (yLe 0 fv) (yLt fv 18446744073709551616)) (mst (yNeq (rN (goalSplPL_2 cs ct cf fs fv xnv xk xw xl)) (rN (goalSplPL_2 cs ct cf fs fv xnv xk xw xl))) (mst (yGrow (goalSplPL_4 cs ct cf fs fv xnv xk xw xl) 16) (mst (goalSplPL_9 fnk fk) (mst (goalSplPL_10 fnv fw) (mst (yAnd (yLe 0 fv) (yLt fv 18446744073709551616)) (mst (yNeq 0 0) (mst (yNeq (goalSplPL_4 cs ct cf fs fv xnv xk xw xl) (goalSplPL_4 cs ct cf fs fv xnv xk xw xl)) (mst (yCol (CK.int IntKind.i64) (goalSplPL_4 cs ct cf fs fv xnv xk xw xl) fun (i : Nat) => AV.y IntKind.i64 (ySel (yNlt i (rN (goalSplPL_2 cs ct cf fs fv xnv xk xw xl))) (rA (goalSplPL_2 cs ct cf fs fv xnv xk xw xl) i) (linkC cs ct cf xs))) (mst (yCol (CK.int IntKind.u64) (goalSplPL_4 cs ct cf fs fv xnv xk xw xl) fun (i : Nat) => AV.y IntKind.u64 (ySel (yNlt i (rN (goalSplPL_2 cs ct cf fs fv xnv xk xw xl))) (rB (goalSplPL_2 cs ct cf fs fv xnv xk xw xl) i) (freshC fs fv))) (mst (goalSplPL_5 pnk pk) (mst (goalSplPL_6 pnv pw) (mst (yAnd (rightC cs ct cf cl cp) (goalSplPL_13 pnv cs ct cf fs fv xnv xk xw xl at_ pi pnk)) (mst (rightC cs ct cf cl cp) (mst (true) (mst (yNeq (rN (goalSplPL_0 cs ct cf ps pk pw fs fv xnv xk xw xl xs pnv at_)) (rN (goalSplPL_0 cs ct cf ps pk pw fs fv xnv xk xw xl xs pnv at_))) (mst (yGrow (yNadd (rN (goalSplPL_0 cs ct cf ps pk pw fs fv xnv xk xw xl xs pnv at_)) 1) 16) (mst (rightC cs ct cf cl cp) (mst (yAnd (yLe 0 (renewC fv)) (yLt (renewC fv) 18446744073709551616)) (mst (yNeq (yNadd (rN (goalSplPL_0 cs ct cf ps pk pw fs fv xnv xk xw xl xs pnv at_)) 1) (yNadd (rN (goalSplPL_0 cs ct cf ps pk pw fs fv xnv xk xw xl xs pnv at_)) 1)) (mst (yGrow (goalSplPL_3 cs ct cf ps pk pw fs fv xnv xk xw xl xs pnv at_) 16) (mst (rightC cs ct cf cl cp) (mst (yAnd (yLe 0 xv) (yLt xv 18446744073709551616)) (mst (yNeq (goalSplPL_3 cs ct cf ps pk pw fs fv xnv xk xw xl xs pnv at_) (goalSplPL_3 cs ct cf ps pk pw fs fv xnv xk xw xl xs pnv at_)) (mst (yGrow (yNadd (goalSplPL_3 cs ct cf ps pk pw fs fv xnv xk xw xl xs pnv at_) 1) 16) (mst (rightC cs ct cf cl cp) (mst (yAnd (yLe 0 pv) (yLt pv 18446744073709551616)) (mst (yNeq (yNadd (goalSplPL_3 cs ct cf ps pk pw fs fv xnv xk xw xl xs pnv at_) 1) (yNadd (goalSplPL_3 cs ct cf ps pk pw fs fv xnv xk xw xl xs pnv at_) 1)) (mst (yGrow (yNadd (yNadd (goalSplPL_3 cs ct cf ps pk pw fs fv xnv xk xw xl xs pnv at_) 1) 1) 16) (rE L = yAnd (yAnd (yAnd (yAnd (rE (goalSplPL_0 cs ct cf ps pk pw fs fv xnv xk xw xl xs pnv at_)) (yNeq 1 0)) (yNeq 1 0)) (yNeq 1 0)) (yNeq 1 0) ∧ nat_lit 0 = nat_lit 0 ∧ rN L = yNadd (yNadd (goalSplPL_3 cs ct cf ps pk pw fs fv xnv xk xw xl xs pnv at_) 1) 1 ∧ rN L = yNadd (yNadd (goalSplPL_3 cs ct cf ps pk pw fs fv xnv xk xw xl xs pnv at_) 1) 1 ∧ (∀ (i : Nat), Nat.succ i ≤ rN L → rA L i = ySel (yNlt i (yNadd (goalSplPL_3 cs ct cf ps pk pw fs fv xnv xk xw xl xs pnv at_) 1)) (ySel (yNlt i (goalSplPL_3 cs ct cf ps pk pw fs fv xnv xk xw xl xs pnv at_)) (ySel (yNlt i (yNadd (rN (goalSplPL_0 cs ct cf ps pk pw fs fv xnv xk xw xl xs pnv at_)) 1)) (ySel (yNlt i (rN (goalSplPL_0 cs ct cf ps pk pw fs fv xnv xk xw xl xs pnv at_))) (rA (goalSplPL_0 cs ct cf ps pk pw fs fv xnv xk xw xl xs pnv at_) i) (shapeC cs ct cf xs)) (verC cs ct cf fs)) (verC cs ct cf xs)) (verC cs ct cf ps) ∧ rB L i = ySel (yNlt i (yNadd (goalSplPL_3 cs ct cf ps pk pw fs fv xnv xk xw xl xs pnv at_) 1)) (ySel (yNlt i (goalSplPL_3 cs ct cf ps pk pw fs fv xnv xk xw xl xs pnv at_)) (ySel (yNlt i (yNadd (rN (goalSplPL_0 cs ct cf ps pk pw fs fv xnv xk xw xl xs pnv at_)) 1)) (ySel (yNlt i (rN (goalSplPL_0 cs ct cf ps pk pw fs fv xnv xk xw xl xs pnv at_))) (rB (goalSplPL_0 cs ct cf ps pk pw fs fv xnv xk xw xl xs pnv at_) i) (packC false (yInt (hvM xnv)))) (bumpC (renewC fv))) (bumpC xv)) (bumpC pv) ∧ True) ∧ true = true))))))))))))))))))))))))))))))))))))))))) ∧ (addOk pi pnk (fun (i : Nat) => pk i) pnv (yWrap IntKind.i64 (yAdd at_ 1)) (xk (hvK false (hvM xnv))) = false → rE L = true ∧ rN L = nat_lit 0 ∧ rN L = nat_lit 0 ∧ true = true ∧ true = true)))))))))))))))))))))))))))
def goalSplPLV : Prop := (∀ (cs ct cf cl cp ps pv : Int) (pi pkn : Bool) (pnk : Nat) (pk : Nat → Int) (pvn : Bool) (pnv : Nat) (pw : Nat → Int) (pl at_ xs xv : Int) (xkn : Bool) (xnk : Nat) (xk : Nat → Int) (xvn : Bool) (xnv : Nat) (xw : Nat → Int) (xl fs fv : Int) (fi fkn : Bool) (fnk : Nat) (fk : Nat → Int) (fvn : Bool) (fnv : Nat) (fw : Nat → Int) (fl : Int) (L : List (Int × Int)), rightC cs ct cf cl cp = true → yAnd (yLe 0 pv) (yLt pv 18446744073709551616) = true → yAnd (yLe 0 xv) (yLt xv 18446744073709551616) = true → yAnd (yLe 0 fv) (yLt fv 18446744073709551616) = true → yAnd (yLe 0 (renewC fv)) (yLt (renewC fv) 18446744073709551616) = true → yAnd (yNle pnk 80) (yNle pnv 80) = true → yAnd (yAnd (yNle xnk 80) (yNle xnv 80)) (yAnd (nilOk xkn xnk) (nilOk xvn xnv)) = true → L = splL cs ct cf ps pv pi pnk pk pnv pw at_ xs xv false xnk xk xnv xw xl fs fv → mst (rightC cs ct cf cl cp) ((yLt (verC cs ct cf ps) (0 : Int) = true → rE L = true ∧ rN L = nat_lit 0 ∧ rN L = nat_lit 0 ∧ true = true ∧ true = true) ∧ (yLt (verC cs ct cf ps) (0 : Int) = false → (yEq ps (0 : Int) = true → (goalSplPL_1 cs ct cf cl cp xs L ps fs pnk pk pnv pw pi xnk xk xnv xw at_ xkn xvn fnk fk fnv fw fv xl xv pv) ∧ (rightC cs ct cf cl cp = false → False)) ∧ (yEq ps (0 : Int) = false → (goalSplPL_1 cs ct cf cl cp xs L ps fs pnk pk pnv pw pi xnk xk xnv xw at_ xkn xvn fnk fk fnv fw fv xl xv pv) ∧ (rightC cs ct cf cl cp = false → False)))))
theorem goalSplPL_eq : goalSplPL = goalSplPLV := by kernel_rfl
set_option maxHeartbeats 16000000 in
theorem goalSplPL_vc : goalSplPLV := by
 unfold goalSplPLV goalSplPL_1 goalSplPL_9 goalSplPL_8 goalSplPL_7 goalSplPL_6 goalSplPL_5 goalSplPL_3 goalSplPL_13 goalSplPL_12 goalSplPL_11 goalSplPL_10 goalSplPL_0 goalSplPL_4 goalSplPL_2
 intro cs ct cf cl cp ps pv pi pkn pnk pk pvn pnv pw pl at_ xs xv xkn xnk xk xvn xnv xw xl fs fv fi fkn fnk fk fvn fnv fw fl L hr hpv hxv hfv hrv hp8 hx8 hL
 have hv1 := verC_or (a := ps) hr
 have hv2 := verC_or (a := xs) hr
 have hv3 := verC_or (a := fs) hr
 have hc := rightC_iff.1 hr
 simp only [yAnd_t, yLe_t, yLt_t, yNle_t, nilOk_t] at hpv hxv hfv hrv hp8 hx8
 have hsp : splOk cs cf ps pi pnk pk pnv at_ xs false xnk xk xnv fs = true ↔ (apart3 cs ps xs fs = true ∧ fitsC pi pnk pk pnv cf = true ∧ fitsC false xnk xk xnv cf = true ∧ pi = true ∧ 0 ≤ at_ ∧ at_ < pnv ∧ (pnv : Int) < cf ∧ 2 ≤ xnv ∧ rsnI pnk pk at_ (splK false xk xnv) = true) := decide_eq_true_iff
 rw [apart3_t] at hsp
 unfold splL at hL
 have hT : (true = yNeq 0 0) = True := eq_true rfl
 have neg : ¬ ((0 ≤ ps ∧ ps ≤ cs) ∧ (1 ≤ xs ∧ xs ≤ cs) ∧ (1 ≤ fs ∧ fs ≤ cs) ∧ ps ≠ xs ∧ ps ≠ fs ∧ xs ≠ fs) → L = [] := fun hn => by rw [hL, if_neg (fun h => by rw [hsp] at h; exact hn h.1)]
 have F := And.intro hr (And.intro hp8 hx8)
 by_cases c0 : ps < 0
 case pos =>
   have B := slLo hv1 c0 hc.1
   obtain rfl := neg (by omega)
   clear hsp hL neg
   simp only [vS, forall_const, vT, F, B]
   repeat' (first | apply And.intro | intro _)
   all_goals first | rfl | trivial | (exfalso; omega)
 by_cases c1 : cs < ps
 case pos =>
   have B := slHi hv1 c1 hc.1
   obtain rfl := neg (by omega)
   clear hsp hL neg
   simp only [vS, forall_const, vT, F, B]
   repeat' (first | apply And.intro | intro _)
   all_goals first | rfl | trivial | (exfalso; omega)
 have G0 := slTo hv1 c0 c1
 by_cases c0 : xs < 0
 case pos =>
   have B := slLo hv2 c0 hc.1
   obtain rfl := neg (by omega)
   clear hsp hL neg
   simp only [vS, forall_const, vT, F, G0, B]
   repeat' (first | apply And.intro | intro _)
   all_goals first | rfl | trivial | (exfalso; omega)
 by_cases c1 : cs < xs
 case pos =>
   have B := slHi hv2 c1 hc.1
   obtain rfl := neg (by omega)
   clear hsp hL neg
   simp only [vS, forall_const, vT, F, G0, B]
   repeat' (first | apply And.intro | intro _)
   all_goals first | rfl | trivial | (exfalso; omega)
 by_cases c2 : xs = 0
 case pos =>
   have B := slZe hv2 c2 hc.1
   obtain rfl := neg (by omega)
   clear hsp hL neg
   simp only [vS, forall_const, vT, F, G0, B]
   repeat' (first | apply And.intro | intro _)
   all_goals first | rfl | trivial | (exfalso; omega)
 have G1 := slIn hv2 c0 c1 c2
 by_cases c3 : ps = xs
 case pos =>
   have B := eq_true c3
   obtain rfl := neg (by omega)
   clear hsp hL neg
   simp only [vS, forall_const, vT, F, G0, G1, B]
   repeat' (first | apply And.intro | intro _)
   all_goals first | rfl | trivial | (exfalso; omega)
 have E01 := eq_false c3
 by_cases c0 : fs < 0
 case pos =>
   have B := slLo hv3 c0 hc.1
   obtain rfl := neg (by omega)
   clear hsp hL neg
   simp only [vS, forall_const, vT, F, G0, G1, E01, B]
   repeat' (first | apply And.intro | intro _)
   all_goals first | rfl | trivial | (exfalso; omega)
 by_cases c1 : cs < fs
 case pos =>
   have B := slHi hv3 c1 hc.1
   obtain rfl := neg (by omega)
   clear hsp hL neg
   simp only [vS, forall_const, vT, F, G0, G1, E01, B]
   repeat' (first | apply And.intro | intro _)
   all_goals first | rfl | trivial | (exfalso; omega)
 by_cases c2 : fs = 0
 case pos =>
   have B := slZe hv3 c2 hc.1
   obtain rfl := neg (by omega)
   clear hsp hL neg
   simp only [vS, forall_const, vT, F, G0, G1, E01, B]
   repeat' (first | apply And.intro | intro _)
   all_goals first | rfl | trivial | (exfalso; omega)
 have G2 := slIn hv3 c0 c1 c2
 by_cases c3 : ps = fs
 case pos =>
   have B := eq_true c3
   obtain rfl := neg (by omega)
   clear hsp hL neg
   simp only [vS, forall_const, vT, F, G0, G1, E01, G2, B]
   repeat' (first | apply And.intro | intro _)
   all_goals first | rfl | trivial | (exfalso; omega)
 have E02 := eq_false c3
 by_cases c3 : xs = fs
 case pos =>
   have B := eq_true c3
   obtain rfl := neg (by omega)
   clear hsp hL neg
   simp only [vS, forall_const, vT, F, G0, G1, E01, G2, E02, B]
   repeat' (first | apply And.intro | intro _)
   all_goals first | rfl | trivial | (exfalso; omega)
 have E12 := eq_false c3
 clear neg
 have hap : (0 ≤ ps ∧ ps ≤ cs) ∧ (1 ≤ xs ∧ xs ≤ cs) ∧ (1 ≤ fs ∧ fs ≤ cs) ∧ ps ≠ xs ∧ ps ≠ fs ∧ xs ≠ fs := by omega
 cases hfp : fitsC pi pnk pk pnv cf
 · rw [if_neg (fun h => by rw [hsp, hfp] at h; exact absurd h.2.1 (by simp))] at hL
   subst hL
   clear hsp
   simp only [vS, forall_const, vT, F, G0, G1, E01, G2, E02, E12, hfp]
   repeat' (first | apply And.intro | intro _)
   all_goals first | rfl | trivial | omega | (exfalso; omega)
 cases hfx : fitsC false xnk xk xnv cf
 · rw [if_neg (fun h => by rw [hsp, hfx] at h; exact absurd h.2.2.1 (by simp))] at hL
   subst hL
   clear hsp
   simp only [vS, forall_const, vT, F, G0, G1, E01, G2, E02, E12, hfp, hfx]
   repeat' (first | apply And.intro | intro _)
   all_goals first | rfl | trivial | omega | (exfalso; omega)
 have kx := fits_t.1 hfx
 have kp := fits_t.1 hfp
 have hrs : risesB xk xnk = true := risesB_iff.2 kx.2.2
 have kx2 : xnv = xnk := by have := kx.2.1; simpa using this
 by_cases h2 : 2 ≤ (xnv : Int)
 case neg =>
   rw [if_neg (fun h => by rw [hsp] at h; exact h2 (by omega))] at hL
   subst hL
   clear hsp
   have h2b : (xnv : Int) < 2 := by omega
   simp only [vS, forall_const, vT, F, G0, G1, E01, G2, E02, E12, hfp, hfx, h2, h2b]
   repeat' (first | apply And.intro | intro _)
   all_goals first | rfl | trivial | omega | (exfalso; omega)
 have h2c : 2 ≤ xnv := by omega
 have h2b := eq_false (show ¬ (xnv : Int) < 2 by omega)
 have hm := hv_bnd h2c
 have hkn : nilOk xkn xnk = true := nilOk_t.2 hx8.2.1
 have hvn : nilOk xvn xnv = true := nilOk_t.2 hx8.2.2
 have F2 := And.intro hfp (And.intro hfx (And.intro hrs (And.intro hkn (And.intro hvn (And.intro h2 (And.intro h2b h2c))))))
 by_cases a1 : at_ < 0
 case pos =>
   rw [if_neg (fun h => by rw [hsp] at h; omega)] at hL
   subst hL
   clear hsp
   simp only [vS, forall_const, vT, F, G0, G1, E01, G2, E02, E12, F2, eq_true a1, eq_false (show ¬ 0 ≤ at_ by omega)]
   repeat' (first | apply And.intro | intro _)
   all_goals first | rfl | trivial | omega | (exfalso; omega)
 by_cases a2 : (pnv : Int) ≤ at_
 case pos =>
   rw [if_neg (fun h => by rw [hsp] at h; omega)] at hL
   subst hL
   clear hsp
   simp only [vS, forall_const, vT, F, G0, G1, E01, G2, E02, E12, F2, eq_false a1, eq_true (show 0 ≤ at_ by omega), eq_true a2, eq_false (show ¬ at_ < pnv by omega)]
   repeat' (first | apply And.intro | intro _)
   all_goals first | rfl | trivial | omega | (exfalso; omega)
 by_cases a3 : cf ≤ (pnv : Int)
 case pos =>
   rw [if_neg (fun h => by rw [hsp] at h; omega)] at hL
   subst hL
   clear hsp
   simp only [vS, forall_const, vT, F, G0, G1, E01, G2, E02, E12, F2, eq_false a1, eq_true (show 0 ≤ at_ by omega), eq_false a2, eq_true (show at_ < pnv by omega), eq_true a3, eq_false (show ¬ (pnv : Int) < cf by omega)]
   repeat' (first | apply And.intro | intro _)
   all_goals first | rfl | trivial | omega | (exfalso; omega)
 have hat : 0 ≤ at_ ∧ at_ < pnv ∧ (pnv : Int) < cf := by omega
 have e0 : yWrap .i64 (at_ + 1) = at_ + 1 := wrap64 (by omega) (by omega)
 have F3 := And.intro (eq_false a1) (And.intro (eq_true hat.1) (And.intro (eq_false a2) (And.intro (eq_true hat.2.1) (And.intro (eq_false a3) (And.intro (eq_true hat.2.2) e0)))))
 have had : ∀ x, addOk pi pnk pk pnv (at_ + 1) x = (pi && rsnI pnk pk at_ x) := fun x => addOk_eq hfp hat.1 hat.2.1
 cases pi with
 | false =>
   rw [if_neg (fun h => by rw [hsp] at h; exact absurd h.2.2.2.1 (by simp))] at hL
   subst hL
   clear hsp
   simp only [vS, forall_const, vT, F, G0, G1, E01, G2, E02, E12, F2, F3, had, Bool.false_and]
   repeat' (first | apply And.intro | intro _)
   all_goals first | rfl | trivial | omega | (exfalso; omega)
 | true =>
   have kp2 : pnv = pnk + 1 := by have := kp.2.1; simpa using this
   have had2 : ∀ x, addOk true pnk pk pnv (at_ + 1) x = rsnI pnk pk at_ x := fun x => by rw [had x, Bool.true_and]
   clear had
   have hK : splK false xk xnv = xk (hvK false (hvM xnv)) := rfl
   cases hrr : rsnI pnk pk at_ (xk (hvK false (hvM xnv)))
   · rw [if_neg (fun h => by rw [hsp, hK, hrr] at h; exact absurd h.2.2.2.2.2.2.2.2 (by simp))] at hL
     subst hL
     clear hsp
     simp only [vS, forall_const, vT, F, G0, G1, E01, G2, E02, E12, F2, F3, had2, hrr]
     repeat' (first | apply And.intro | intro _)
     all_goals first | rfl | trivial | omega | (exfalso; omega)
   rw [if_pos (hsp.2 ⟨hap, hfp, hfx, rfl, hat.1, hat.2.1, hat.2.2, h2c, by rw [hK]; exact hrr⟩)] at hL
   clear hsp
   have hb := begL_len (i := false) (cs := cs) (ct := ct) (cf := cf) (s := fs) (v := fv) (k := shf (hvM xnv) xk) (w := shf (hvM xnv) xw) (l := hvLk false xl) (n0 := 0) (a0 := fun _ => 0) (b0 := fun _ => 0) (nv := xnv - hvM xnv)
   obtain ⟨B, hB⟩ : ∃ B, B = begL false cs ct cf fs fv (shf (hvM xnv) xk) (shf (hvM xnv) xw) (hvLk false xl) 0 (fun _ => 0) (fun _ => 0) (xnv - hvM xnv) := ⟨_, rfl⟩
   rw [← hB] at hb
   have hI : (yAnd (rE B) (yNeq 1 0) = yNeq (rN B + 1) 0) = True := eq_true (by rw [yAnd10]; simp [yNeq])
   obtain ⟨X, hX⟩ : ∃ X, X = opIL cs ct cf ps pk pw (rN B + 1) (fun i => ySel (yNlt i (rN B)) (rA B i) (linkC cs ct cf xs)) (fun i => ySel (yNlt i (rN B)) (rB B i) (freshC fs fv)) pnv (yNat (at_ + 1)) (xk (hvK false (hvM xnv))) (freshC fs fv) := ⟨_, rfl⟩
   have hL2 : L = X ++ [(shapeC cs ct cf xs, packC false (hvM xnv : Nat))] ++ [(verC cs ct cf fs, bumpC (renewC fv))] ++ [(verC cs ct cf xs, bumpC xv)] ++ [(verC cs ct cf ps, bumpC pv)] := by
     rw [hL, hX, hK]
     have hBB : splB cs ct cf xs false xk xnv xw xl fs fv = B ++ [(linkC cs ct cf xs, freshC fs fv)] := by rw [hB]; rfl
     rw [hBB]
     have hO : opIL cs ct cf ps pk pw (rN (B ++ [(linkC cs ct cf xs, freshC fs fv)])) (rA (B ++ [(linkC cs ct cf xs, freshC fs fv)])) (rB (B ++ [(linkC cs ct cf xs, freshC fs fv)])) pnv (yNat (at_ + 1)) (xk (hvK false (hvM xnv))) (freshC fs fv) =
         opIL cs ct cf ps pk pw (rN B + 1) (fun i => ySel (yNlt i (rN B)) (rA B i) (linkC cs ct cf xs)) (fun i => ySel (yNlt i (rN B)) (rB B i) (freshC fs fv)) pnv (yNat (at_ + 1)) (xk (hvK false (hvM xnv))) (freshC fs fv) := by
       apply opIL_prw
       rw [rN_snoc]
       apply prw_congr
       intro j hj
       exact ⟨rA_snoc _ _ hj, rB_snoc _ _ hj⟩
     rw [hO]
   have hXn : rN X ≤ 400 := by
     rw [hX]; exact Nat.le_trans opIL_len (by omega)
   clear hL
   simp only [vS, forall_const, vT, F, G0, G1, E01, G2, E02, E12, F2, F3, had2, hrr, hT, hI, yNsub_e, ← hB]
   simp only [← hX]
   repeat' (first | apply And.intro | intro _)
   all_goals first
     | rfl
     | trivial
     | omega
     | (exfalso; omega)
     | (rw [hL2, rE_snoc, yAnd10]; done)
     | (rw [hL2]; exact rN_snoc4 _ _ _ _ _)
     | (rename_i hq; rw [hL2] at hq ⊢; rw [rN_snoc4] at hq; first | exact rA_snoc4 _ _ _ _ _ hq | exact rB_snoc4 _ _ _ _ _ hq)
     | (trace_state; fail)
theorem goalSplPL_tt : (goalSplPL) = True := goalSplPL_eq.trans (eq_true goalSplPL_vc)
theorem goalSplPL_ok : goalSplPL := @ft' goalSplPL goalSplPL_tt
end Go.Proofs.YtjhbimdaeofdlaaGreatDoor.Ex
end
section
namespace Go.Proofs.YtjhbimdaeofdlaaGreatDoor.Ex
open Go Go.RowKit
def goalSplPI_2 (cs : Int) (ct : Int) (cf : Int) (fs : Int) (fv : Int) (xnv : Nat) (xk : Nat → Int) (xw : Nat → Int) (xl : Int) := begL true cs ct cf fs fv (fun (i : Nat) => shf (hvM xnv) (fun (i : Nat) => xk i) i) (fun (i : Nat) => shf (hvM xnv) (fun (i : Nat) => xw i) i) (hvLk true xl) 0 (fun (i : Nat) => (0 : Int)) (fun (i : Nat) => (0 : Int)) (yNsub xnv (hvM xnv))
def goalSplPI_0 (cs : Int) (ct : Int) (cf : Int) (ps : Int) (pk : Nat → Int) (pw : Nat → Int) (fs : Int) (fv : Int) (xnv : Nat) (xk : Nat → Int) (xw : Nat → Int) (xl : Int) (pnv : Nat) (at_ : Int) := opIL cs ct cf ps (fun (i : Nat) => pk i) (fun (i : Nat) => pw i) (rN (goalSplPI_2 cs ct cf fs fv xnv xk xw xl)) (fun (i : Nat) => rA (goalSplPI_2 cs ct cf fs fv xnv xk xw xl) i) (fun (i : Nat) => rB (goalSplPI_2 cs ct cf fs fv xnv xk xw xl) i) pnv (yNat (yWrap IntKind.i64 (yAdd at_ 1))) (xk (hvK true (hvM xnv))) (freshC fs fv)
def goalSplPI_3 (cs : Int) (ct : Int) (cf : Int) (ps : Int) (pk : Nat → Int) (pw : Nat → Int) (fs : Int) (fv : Int) (xnv : Nat) (xk : Nat → Int) (xw : Nat → Int) (xl : Int) (pnv : Nat) (at_ : Int) := yNadd (yNadd (rN (goalSplPI_0 cs ct cf ps pk pw fs fv xnv xk xw xl pnv at_)) 1) 1
def goalSplPI_4 (pnk : Nat) (pk : Nat → Int) := yCol (CK.int IntKind.u64) pnk fun (i : Nat) => AV.y IntKind.u64 (pk i)
def goalSplPI_5 (pnv : Nat) (pw : Nat → Int) := yCol (CK.int IntKind.u64) pnv fun (i : Nat) => AV.y IntKind.u64 (pw i)
def goalSplPI_6 (xnk : Nat) (xk : Nat → Int) := yCol (CK.int IntKind.u64) xnk fun (i : Nat) => AV.y IntKind.u64 (xk i)
def goalSplPI_7 (xnv : Nat) (xw : Nat → Int) := yCol (CK.int IntKind.u64) xnv fun (i : Nat) => AV.y IntKind.u64 (xw i)
def goalSplPI_8 (fv : Int) (xnv : Nat) (xnk : Nat) := yAnd (yAnd (yLe 0 fv) (yLt fv 18446744073709551616)) (yAnd (yNle (yNsub xnv (hvM xnv)) 80) (yAnd (yNle 0 1000) (yAnd (yIff true (yNeq 0 0)) (yNeq (yNsub xnv (hvM xnv)) (yNadd (yNsub xnk (hvM xnv)) 1)))))
def goalSplPI_9 (xkn : Bool) (xnk : Nat) (xvn : Bool) (xnv : Nat) (xk : Nat → Int) := yAnd (yAnd (nilOk xkn xnk) (nilOk xvn xnv)) (yAnd (yNeq xnv (yNadd xnk 1)) (risesB (fun (i : Nat) => xk i) xnk))
def goalSplPI_1 (cs : Int) (ct : Int) (cf : Int) (cl : Int) (cp : Int) (xs : Int) (L : List (Int × Int)) (ps : Int) (fs : Int) (pnk : Nat) (pk : Nat → Int) (pnv : Nat) (pw : Nat → Int) (pi : Bool) (xnk : Nat) (xk : Nat → Int) (xnv : Nat) (xw : Nat → Int) (at_ : Int) (xkn : Bool) (xvn : Bool) (fnk : Nat) (fk : Nat → Int) (fnv : Nat) (fw : Nat → Int) (fv : Int) (xl : Int) (xv : Int) (pv : Int) := rightC cs ct cf cl cp = true → (yLt (verC cs ct cf xs) (0 : Int) = true → rE L = true ∧ rN L = nat_lit 0 ∧ rN L = nat_lit 0 ∧ true = true ∧ true = true) ∧ (yLt (verC cs ct cf xs) (0 : Int) = false → (yEq xs (0 : Int) = true → rE L = true ∧ rN L = nat_lit 0 ∧ rN L = nat_lit 0 ∧ true = true ∧ true = true) ∧ (yEq xs (0 : Int) = false → (yEq ps xs = true → rE L = true ∧ rN L = nat_lit 0 ∧ rN L = nat_lit 0 ∧ true = true ∧ true = true) ∧ (yEq ps xs = false → mst (rightC cs ct cf cl cp) ((yLt (verC cs ct cf fs) (0 : Int) = true → rE L = true ∧ rN L = nat_lit 0 ∧ rN L = nat_lit 0 ∧ true = true ∧ true = true) ∧ (yLt (verC cs ct cf fs) (0 : Int) = false → (yEq fs (0 : Int) = true → rE L = true ∧ rN L = nat_lit 0 ∧ rN L = nat_lit 0 ∧ true = true ∧ true = true) ∧ (yEq fs (0 : Int) = false → (yEq ps fs = true → rE L = true ∧ rN L = nat_lit 0 ∧ rN L = nat_lit 0 ∧ true = true ∧ true = true) ∧ (yEq ps fs = false → (yEq xs fs = true → rE L = true ∧ rN L = nat_lit 0 ∧ rN L = nat_lit 0 ∧ true = true ∧ true = true) ∧ (yEq xs fs = false → mst (goalSplPI_4 pnk pk) (mst (goalSplPI_5 pnv pw) (mst (yAnd (yNle pnk 80) (yNle pnv 80)) ((yNot (fitsC pi pnk (fun (i : Nat) => pk i) pnv cf) = true → rE L = true ∧ rN L = nat_lit 0 ∧ rN L = nat_lit 0 ∧ true = true ∧ true = true) ∧ (yNot (fitsC pi pnk (fun (i : Nat) => pk i) pnv cf) = false → mst (goalSplPI_6 xnk xk) (mst (goalSplPI_7 xnv xw) (mst (yAnd (yNle xnk 80) (yNle xnv 80)) ((yNot (fitsC true xnk (fun (i : Nat) => xk i) xnv cf) = true → rE L = true ∧ rN L = nat_lit 0 ∧ rN L = nat_lit 0 ∧ true = true ∧ true = true) ∧ (yNot (fitsC true xnk (fun (i : Nat) => xk i) xnv cf) = false → (yLt (yInt xnv) (2 : Int) = true → rE L = true ∧ rN L = nat_lit 0 ∧ rN L = nat_lit 0 ∧ true = true ∧ true = true) ∧ (yLt (yInt xnv) (2 : Int) = false → (yLt at_ (0 : Int) = true → rE L = true ∧ rN L = nat_lit 0 ∧ rN L = nat_lit 0 ∧ true = true ∧ true = true) ∧ (yLt at_ (0 : Int) = false → (yLe (yInt pnv) at_ = true → rE L = true ∧ rN L = nat_lit 0 ∧ rN L = nat_lit 0 ∧ true = true ∧ true = true) ∧ (yLe (yInt pnv) at_ = false → (yLe cf (yInt pnv) = true → rE L = true ∧ rN L = nat_lit 0 ∧ rN L = nat_lit 0 ∧ true = true ∧ true = true) ∧ (yLe cf (yInt pnv) = false → mst (goalSplPI_6 xnk xk) (mst (goalSplPI_7 xnv xw) (mst (yAnd (yAnd (yNle 2 xnv) (yNle xnv 80)) (goalSplPI_9 xkn xnk xvn xnv xk)) (mst (goalSplPI_4 pnk pk) (mst (goalSplPI_5 pnv pw) (mst (yAnd (yNle pnk 80) (yNle pnv 80)) ((addOk pi pnk (fun (i : Nat) => pk i) pnv (yWrap IntKind.i64 (yAdd at_ 1)) (xk (hvK true (hvM xnv))) = true → mst (goalSplPI_6 xnk xk) (mst (goalSplPI_7 xnv xw) (mst (yAnd (yAnd (yNle 2 xnv) (yNle xnv 80)) (goalSplPI_9 xkn xnk xvn xnv xk)) (mst (yCol (CK.int IntKind.u64) fnk fun (i : Nat) => AV.y IntKind.u64 (fk i)) (mst (yCol (CK.int IntKind.u64) fnv fun (i : Nat) => AV.y IntKind.u64 (fw i)) (mst (yCol (CK.int IntKind.u64) (yNsub xnk (hvM xnv)) fun (i : Nat) => AV.y IntKind.u64 (shf (hvM xnv) (fun (i : Nat) => xk i) i)) (mst (yCol (CK.int IntKind.u64) (yNsub xnv (hvM xnv)) fun (i : Nat) => AV.y IntKind.u64 (shf (hvM xnv) (fun (i : Nat) => xw i) i)) (mst (yAnd (rightC cs ct cf cl cp) (goalSplPI_8 fv xnv xnk)) (mst (yCol (CK.int IntKind.u64) fnk fun (i : Nat) => AV.y IntKind.u64 (fk i)) (mst (yCol (CK.int IntKind.u64) fnv fun (i : Nat) => AV.y IntKind.u64 (fw i)) (mst (yAnd (yLe 0 fv) (yLt fv 18446744073709551616)) (mst (yNeq 0 0) (mst (yNeq (rN (goalSplPI_2 cs ct cf fs fv xnv xk xw xl)) (rN (goalSplPI_2 cs ct cf fs fv xnv xk xw xl))) (mst (yCol (CK.int IntKind.i64) (rN (goalSplPI_2 cs ct cf fs fv xnv xk xw xl)) fun (i : Nat) => AV.y IntKind.i64 (rA (goalSplPI_2 cs ct cf fs fv xnv xk xw xl) i)) (mst (yCol (CK.int IntKind.u64) (rN (goalSplPI_2 cs ct cf fs fv xnv xk xw xl)) fun (i : Nat) => AV.y IntKind.u64 (rB (goalSplPI_2 cs ct cf fs fv xnv xk xw xl) i)) (mst (goalSplPI_4 pnk pk) (mst (goalSplPI_5 pnv pw) (mst (yAnd (rightC cs ct cf cl cp) (yAnd (yNle pnv 80) (yAnd (yNle (rN (goalSplPI_2 cs ct cf fs fv xnv xk xw xl)) 1000) (yAnd (yAnd (yLe 0 (yWrap IntKind.i64 (yAdd at_ 1))) (yLe (yWrap IntKind.i64 (yAdd at_ 1)) (yInt pnv))) (yAnd (yIff (rE (goalSplPI_2 cs ct cf fs fv xnv xk xw xl)) (yNeq (rN (goalSplPI_2 cs ct cf fs fv xnv xk xw xl)) 0)) (yAnd pi (yNeq pnv (yNadd pnk 1)))))))) (mst (rightC cs ct cf cl cp) (mst (true) (mst (yNeq (rN (goalSplPI_0 cs ct cf ps pk pw fs fv xnv xk xw xl pnv at_)) (rN (goalSplPI_0 cs ct cf ps pk pw fs fv xnv xk xw xl pnv at_))) (mst (yGrow (yNadd (rN (goalSplPI_0 cs ct cf ps pk pw fs fv xnv xk xw xl pnv at_)) 1) 16) (mst (rightC cs ct cf cl cp) (mst (yAnd (yLe 0 (renewC fv)) (yLt (renewC fv) 18446744073709551616)) (mst (yNeq (yNadd (rN (goalSplPI_0 cs ct cf ps pk pw fs fv xnv xk xw xl pnv at_)) 1) (yNadd (rN (goalSplPI_0 cs ct cf ps pk pw fs fv xnv xk xw xl pnv at_)) 1)) (mst (yGrow (goalSplPI_3 cs ct cf ps pk pw fs fv xnv xk xw xl pnv at_) 16) (mst (rightC cs ct cf cl cp) (mst (yAnd (yLe 0 xv) (yLt xv 18446744073709551616)) (mst (yNeq (goalSplPI_3 cs ct cf ps pk pw fs fv xnv xk xw xl pnv at_) (goalSplPI_3 cs ct cf ps pk pw fs fv xnv xk xw xl pnv at_)) (mst (yGrow (yNadd (goalSplPI_3 cs ct cf ps pk pw fs fv xnv xk xw xl pnv at_) 1) 16) (mst (rightC cs ct cf cl cp) (mst (yAnd (yLe 0 pv) (yLt pv 18446744073709551616)) (mst (yNeq (yNadd (goalSplPI_3 cs ct cf ps pk pw fs fv xnv xk xw xl pnv at_) 1) (yNadd (goalSplPI_3 cs ct cf ps pk pw fs fv xnv xk xw xl pnv at_) 1)) (mst (yGrow (yNadd (yNadd (goalSplPI_3 cs ct cf ps pk pw fs fv xnv xk xw xl pnv at_) 1) 1) 16) (rE L = yAnd (yAnd (yAnd (yAnd (rE (goalSplPI_0 cs ct cf ps pk pw fs fv xnv xk xw xl pnv at_)) (yNeq 1 0)) (yNeq 1 0)) (yNeq 1 0)) (yNeq 1 0) ∧ nat_lit 0 = nat_lit 0 ∧ rN L = yNadd (yNadd (goalSplPI_3 cs ct cf ps pk pw fs fv xnv xk xw xl pnv at_) 1) 1 ∧ rN L = yNadd (yNadd (goalSplPI_3 cs ct cf ps pk pw fs fv xnv xk xw xl pnv at_) 1) 1 ∧ (∀ (i : Nat), Nat.succ i ≤ rN L → rA L i = ySel (yNlt i (yNadd (goalSplPI_3 cs ct cf ps pk pw fs fv xnv xk xw xl pnv at_) 1)) (ySel (yNlt i (goalSplPI_3 cs ct cf ps pk pw fs fv xnv xk xw xl pnv at_)) (ySel (yNlt i (yNadd (rN (goalSplPI_0 cs ct cf ps pk pw fs fv xnv xk xw xl pnv at_)) 1)) (ySel (yNlt i (rN (goalSplPI_0 cs ct cf ps pk pw fs fv xnv xk xw xl pnv at_))) (rA (goalSplPI_0 cs ct cf ps pk pw fs fv xnv xk xw xl pnv at_) i) (shapeC cs ct cf xs)) (verC cs ct cf fs)) (verC cs ct cf xs)) (verC cs ct cf ps) ∧ rB L i = ySel (yNlt i (yNadd (goalSplPI_3 cs ct cf ps pk pw fs fv xnv xk xw xl pnv at_) 1)) (ySel (yNlt i (goalSplPI_3 cs ct cf ps pk pw fs fv xnv xk xw xl pnv at_)) (ySel (yNlt i (yNadd (rN (goalSplPI_0 cs ct cf ps pk pw fs fv xnv xk xw xl pnv at_)) 1)) (ySel (yNlt i (rN (goalSplPI_0 cs ct cf ps pk pw fs fv xnv xk xw xl pnv at_))) (rB (goalSplPI_0 cs ct cf ps pk pw fs fv xnv xk xw xl pnv at_) i) (packC true (yInt (hvM xnv)))) (bumpC (renewC fv))) (bumpC xv)) (bumpC pv) ∧ True) ∧ true = true))))))))))))))))))))))))))))))))))) ∧ (addOk pi pnk (fun (i : Nat) => pk i) pnv (yWrap IntKind.i64 (yAdd at_ 1)) (xk (hvK true (hvM xnv))) = false → rE L = true ∧ rN L = nat_lit 0 ∧ rN L = nat_lit 0 ∧ true = true ∧ true = true)))))))))))))))))))))))))))
def goalSplPIV : Prop := (∀ (cs ct cf cl cp ps pv : Int) (pi pkn : Bool) (pnk : Nat) (pk : Nat → Int) (pvn : Bool) (pnv : Nat) (pw : Nat → Int) (pl at_ xs xv : Int) (xkn : Bool) (xnk : Nat) (xk : Nat → Int) (xvn : Bool) (xnv : Nat) (xw : Nat → Int) (xl fs fv : Int) (fi fkn : Bool) (fnk : Nat) (fk : Nat → Int) (fvn : Bool) (fnv : Nat) (fw : Nat → Int) (fl : Int) (L : List (Int × Int)), rightC cs ct cf cl cp = true → yAnd (yLe 0 pv) (yLt pv 18446744073709551616) = true → yAnd (yLe 0 xv) (yLt xv 18446744073709551616) = true → yAnd (yLe 0 fv) (yLt fv 18446744073709551616) = true → yAnd (yLe 0 (renewC fv)) (yLt (renewC fv) 18446744073709551616) = true → yAnd (yNle pnk 80) (yNle pnv 80) = true → yAnd (yAnd (yNle xnk 80) (yNle xnv 80)) (yAnd (nilOk xkn xnk) (nilOk xvn xnv)) = true → L = splL cs ct cf ps pv pi pnk pk pnv pw at_ xs xv true xnk xk xnv xw xl fs fv → mst (rightC cs ct cf cl cp) ((yLt (verC cs ct cf ps) (0 : Int) = true → rE L = true ∧ rN L = nat_lit 0 ∧ rN L = nat_lit 0 ∧ true = true ∧ true = true) ∧ (yLt (verC cs ct cf ps) (0 : Int) = false → (yEq ps (0 : Int) = true → (goalSplPI_1 cs ct cf cl cp xs L ps fs pnk pk pnv pw pi xnk xk xnv xw at_ xkn xvn fnk fk fnv fw fv xl xv pv) ∧ (rightC cs ct cf cl cp = false → False)) ∧ (yEq ps (0 : Int) = false → (goalSplPI_1 cs ct cf cl cp xs L ps fs pnk pk pnv pw pi xnk xk xnv xw at_ xkn xvn fnk fk fnv fw fv xl xv pv) ∧ (rightC cs ct cf cl cp = false → False)))))
theorem goalSplPI_eq : goalSplPI = goalSplPIV := by kernel_rfl
set_option maxHeartbeats 16000000 in
theorem goalSplPI_vc : goalSplPIV := by
 unfold goalSplPIV goalSplPI_1 goalSplPI_9 goalSplPI_8 goalSplPI_7 goalSplPI_6 goalSplPI_5 goalSplPI_4 goalSplPI_3 goalSplPI_0 goalSplPI_2
 intro cs ct cf cl cp ps pv pi pkn pnk pk pvn pnv pw pl at_ xs xv xkn xnk xk xvn xnv xw xl fs fv fi fkn fnk fk fvn fnv fw fl L hr hpv hxv hfv hrv hp8 hx8 hL
 have hv1 := verC_or (a := ps) hr
 have hv2 := verC_or (a := xs) hr
 have hv3 := verC_or (a := fs) hr
 have hc := rightC_iff.1 hr
 simp only [yAnd_t, yLe_t, yLt_t, yNle_t, nilOk_t] at hpv hxv hfv hrv hp8 hx8
 have hsp : splOk cs cf ps pi pnk pk pnv at_ xs true xnk xk xnv fs = true ↔ (apart3 cs ps xs fs = true ∧ fitsC pi pnk pk pnv cf = true ∧ fitsC true xnk xk xnv cf = true ∧ pi = true ∧ 0 ≤ at_ ∧ at_ < pnv ∧ (pnv : Int) < cf ∧ 2 ≤ xnv ∧ rsnI pnk pk at_ (splK true xk xnv) = true) := decide_eq_true_iff
 rw [apart3_t] at hsp
 unfold splL at hL
 have hT : (true = yNeq 0 0) = True := eq_true rfl
 have neg : ¬ ((0 ≤ ps ∧ ps ≤ cs) ∧ (1 ≤ xs ∧ xs ≤ cs) ∧ (1 ≤ fs ∧ fs ≤ cs) ∧ ps ≠ xs ∧ ps ≠ fs ∧ xs ≠ fs) → L = [] := fun hn => by rw [hL, if_neg (fun h => by rw [hsp] at h; exact hn h.1)]
 have F := And.intro hr (And.intro hp8 hx8)
 by_cases c0 : ps < 0
 case pos =>
   have B := slLo hv1 c0 hc.1
   obtain rfl := neg (by omega)
   clear hsp hL neg
   simp only [vS, forall_const, vT, F, B]
   repeat' (first | apply And.intro | intro _)
   all_goals first | rfl | trivial | (exfalso; omega)
 by_cases c1 : cs < ps
 case pos =>
   have B := slHi hv1 c1 hc.1
   obtain rfl := neg (by omega)
   clear hsp hL neg
   simp only [vS, forall_const, vT, F, B]
   repeat' (first | apply And.intro | intro _)
   all_goals first | rfl | trivial | (exfalso; omega)
 have G0 := slTo hv1 c0 c1
 by_cases c0 : xs < 0
 case pos =>
   have B := slLo hv2 c0 hc.1
   obtain rfl := neg (by omega)
   clear hsp hL neg
   simp only [vS, forall_const, vT, F, G0, B]
   repeat' (first | apply And.intro | intro _)
   all_goals first | rfl | trivial | (exfalso; omega)
 by_cases c1 : cs < xs
 case pos =>
   have B := slHi hv2 c1 hc.1
   obtain rfl := neg (by omega)
   clear hsp hL neg
   simp only [vS, forall_const, vT, F, G0, B]
   repeat' (first | apply And.intro | intro _)
   all_goals first | rfl | trivial | (exfalso; omega)
 by_cases c2 : xs = 0
 case pos =>
   have B := slZe hv2 c2 hc.1
   obtain rfl := neg (by omega)
   clear hsp hL neg
   simp only [vS, forall_const, vT, F, G0, B]
   repeat' (first | apply And.intro | intro _)
   all_goals first | rfl | trivial | (exfalso; omega)
 have G1 := slIn hv2 c0 c1 c2
 by_cases c3 : ps = xs
 case pos =>
   have B := eq_true c3
   obtain rfl := neg (by omega)
   clear hsp hL neg
   simp only [vS, forall_const, vT, F, G0, G1, B]
   repeat' (first | apply And.intro | intro _)
   all_goals first | rfl | trivial | (exfalso; omega)
 have E01 := eq_false c3
 by_cases c0 : fs < 0
 case pos =>
   have B := slLo hv3 c0 hc.1
   obtain rfl := neg (by omega)
   clear hsp hL neg
   simp only [vS, forall_const, vT, F, G0, G1, E01, B]
   repeat' (first | apply And.intro | intro _)
   all_goals first | rfl | trivial | (exfalso; omega)
 by_cases c1 : cs < fs
 case pos =>
   have B := slHi hv3 c1 hc.1
   obtain rfl := neg (by omega)
   clear hsp hL neg
   simp only [vS, forall_const, vT, F, G0, G1, E01, B]
   repeat' (first | apply And.intro | intro _)
   all_goals first | rfl | trivial | (exfalso; omega)
 by_cases c2 : fs = 0
 case pos =>
   have B := slZe hv3 c2 hc.1
   obtain rfl := neg (by omega)
   clear hsp hL neg
   simp only [vS, forall_const, vT, F, G0, G1, E01, B]
   repeat' (first | apply And.intro | intro _)
   all_goals first | rfl | trivial | (exfalso; omega)
 have G2 := slIn hv3 c0 c1 c2
 by_cases c3 : ps = fs
 case pos =>
   have B := eq_true c3
   obtain rfl := neg (by omega)
   clear hsp hL neg
   simp only [vS, forall_const, vT, F, G0, G1, E01, G2, B]
   repeat' (first | apply And.intro | intro _)
   all_goals first | rfl | trivial | (exfalso; omega)
 have E02 := eq_false c3
 by_cases c3 : xs = fs
 case pos =>
   have B := eq_true c3
   obtain rfl := neg (by omega)
   clear hsp hL neg
   simp only [vS, forall_const, vT, F, G0, G1, E01, G2, E02, B]
   repeat' (first | apply And.intro | intro _)
   all_goals first | rfl | trivial | (exfalso; omega)
 have E12 := eq_false c3
 clear neg
 have hap : (0 ≤ ps ∧ ps ≤ cs) ∧ (1 ≤ xs ∧ xs ≤ cs) ∧ (1 ≤ fs ∧ fs ≤ cs) ∧ ps ≠ xs ∧ ps ≠ fs ∧ xs ≠ fs := by omega
 cases hfp : fitsC pi pnk pk pnv cf
 · rw [if_neg (fun h => by rw [hsp, hfp] at h; exact absurd h.2.1 (by simp))] at hL
   subst hL
   clear hsp
   simp only [vS, forall_const, vT, F, G0, G1, E01, G2, E02, E12, hfp]
   repeat' (first | apply And.intro | intro _)
   all_goals first | rfl | trivial | omega | (exfalso; omega)
 cases hfx : fitsC true xnk xk xnv cf
 · rw [if_neg (fun h => by rw [hsp, hfx] at h; exact absurd h.2.2.1 (by simp))] at hL
   subst hL
   clear hsp
   simp only [vS, forall_const, vT, F, G0, G1, E01, G2, E02, E12, hfp, hfx]
   repeat' (first | apply And.intro | intro _)
   all_goals first | rfl | trivial | omega | (exfalso; omega)
 have kx := fits_t.1 hfx
 have kp := fits_t.1 hfp
 have hrs : risesB xk xnk = true := risesB_iff.2 kx.2.2
 have kx2 : xnv = xnk + 1 := by have := kx.2.1; simpa using this
 by_cases h2 : 2 ≤ (xnv : Int)
 case neg =>
   rw [if_neg (fun h => by rw [hsp] at h; exact h2 (by omega))] at hL
   subst hL
   clear hsp
   have h2b : (xnv : Int) < 2 := by omega
   simp only [vS, forall_const, vT, F, G0, G1, E01, G2, E02, E12, hfp, hfx, h2, h2b]
   repeat' (first | apply And.intro | intro _)
   all_goals first | rfl | trivial | omega | (exfalso; omega)
 have h2c : 2 ≤ xnv := by omega
 have h2b := eq_false (show ¬ (xnv : Int) < 2 by omega)
 have hm := hv_bnd h2c
 have hkn : nilOk xkn xnk = true := nilOk_t.2 hx8.2.1
 have hvn : nilOk xvn xnv = true := nilOk_t.2 hx8.2.2
 have F2 := And.intro hfp (And.intro hfx (And.intro hrs (And.intro hkn (And.intro hvn (And.intro h2 (And.intro h2b h2c))))))
 by_cases a1 : at_ < 0
 case pos =>
   rw [if_neg (fun h => by rw [hsp] at h; omega)] at hL
   subst hL
   clear hsp
   simp only [vS, forall_const, vT, F, G0, G1, E01, G2, E02, E12, F2, eq_true a1, eq_false (show ¬ 0 ≤ at_ by omega)]
   repeat' (first | apply And.intro | intro _)
   all_goals first | rfl | trivial | omega | (exfalso; omega)
 by_cases a2 : (pnv : Int) ≤ at_
 case pos =>
   rw [if_neg (fun h => by rw [hsp] at h; omega)] at hL
   subst hL
   clear hsp
   simp only [vS, forall_const, vT, F, G0, G1, E01, G2, E02, E12, F2, eq_false a1, eq_true (show 0 ≤ at_ by omega), eq_true a2, eq_false (show ¬ at_ < pnv by omega)]
   repeat' (first | apply And.intro | intro _)
   all_goals first | rfl | trivial | omega | (exfalso; omega)
 by_cases a3 : cf ≤ (pnv : Int)
 case pos =>
   rw [if_neg (fun h => by rw [hsp] at h; omega)] at hL
   subst hL
   clear hsp
   simp only [vS, forall_const, vT, F, G0, G1, E01, G2, E02, E12, F2, eq_false a1, eq_true (show 0 ≤ at_ by omega), eq_false a2, eq_true (show at_ < pnv by omega), eq_true a3, eq_false (show ¬ (pnv : Int) < cf by omega)]
   repeat' (first | apply And.intro | intro _)
   all_goals first | rfl | trivial | omega | (exfalso; omega)
 have hat : 0 ≤ at_ ∧ at_ < pnv ∧ (pnv : Int) < cf := by omega
 have e0 : yWrap .i64 (at_ + 1) = at_ + 1 := wrap64 (by omega) (by omega)
 have F3 := And.intro (eq_false a1) (And.intro (eq_true hat.1) (And.intro (eq_false a2) (And.intro (eq_true hat.2.1) (And.intro (eq_false a3) (And.intro (eq_true hat.2.2) e0)))))
 have had : ∀ x, addOk pi pnk pk pnv (at_ + 1) x = (pi && rsnI pnk pk at_ x) := fun x => addOk_eq hfp hat.1 hat.2.1
 cases pi with
 | false =>
   rw [if_neg (fun h => by rw [hsp] at h; exact absurd h.2.2.2.1 (by simp))] at hL
   subst hL
   clear hsp
   simp only [vS, forall_const, vT, F, G0, G1, E01, G2, E02, E12, F2, F3, had, Bool.false_and]
   repeat' (first | apply And.intro | intro _)
   all_goals first | rfl | trivial | omega | (exfalso; omega)
 | true =>
   have kp2 : pnv = pnk + 1 := by have := kp.2.1; simpa using this
   have had2 : ∀ x, addOk true pnk pk pnv (at_ + 1) x = rsnI pnk pk at_ x := fun x => by rw [had x, Bool.true_and]
   clear had
   have hK : splK true xk xnv = xk (hvK true (hvM xnv)) := rfl
   cases hrr : rsnI pnk pk at_ (xk (hvK true (hvM xnv)))
   · rw [if_neg (fun h => by rw [hsp, hK, hrr] at h; exact absurd h.2.2.2.2.2.2.2.2 (by simp))] at hL
     subst hL
     clear hsp
     simp only [vS, forall_const, vT, F, G0, G1, E01, G2, E02, E12, F2, F3, had2, hrr]
     repeat' (first | apply And.intro | intro _)
     all_goals first | rfl | trivial | omega | (exfalso; omega)
   rw [if_pos (hsp.2 ⟨hap, hfp, hfx, rfl, hat.1, hat.2.1, hat.2.2, h2c, by rw [hK]; exact hrr⟩)] at hL
   clear hsp
   have hb := begL_len (i := true) (cs := cs) (ct := ct) (cf := cf) (s := fs) (v := fv) (k := shf (hvM xnv) xk) (w := shf (hvM xnv) xw) (l := hvLk true xl) (n0 := 0) (a0 := fun _ => 0) (b0 := fun _ => 0) (nv := xnv - hvM xnv)
   obtain ⟨B, hB⟩ : ∃ B, B = begL true cs ct cf fs fv (shf (hvM xnv) xk) (shf (hvM xnv) xw) (hvLk true xl) 0 (fun _ => 0) (fun _ => 0) (xnv - hvM xnv) := ⟨_, rfl⟩
   rw [← hB] at hb
   have hI : (rE B = yNeq (rN B) 0) = True := eq_true (by rw [hb.2.2]; unfold yNeq; rw [eq_comm, decide_eq_false_iff_not]; omega)
   obtain ⟨X, hX⟩ : ∃ X, X = opIL cs ct cf ps pk pw (rN B) (rA B) (rB B) pnv (yNat (at_ + 1)) (xk (hvK true (hvM xnv))) (freshC fs fv) := ⟨_, rfl⟩
   have hL2 : L = X ++ [(shapeC cs ct cf xs, packC true (hvM xnv : Nat))] ++ [(verC cs ct cf fs, bumpC (renewC fv))] ++ [(verC cs ct cf xs, bumpC xv)] ++ [(verC cs ct cf ps, bumpC pv)] := by
     rw [hL, hX, hK]
     have hBB : splB cs ct cf xs true xk xnv xw xl fs fv = B := by rw [hB]; simp [splB]
     rw [hBB]
   have hXn : rN X ≤ 400 := by
     rw [hX]; exact Nat.le_trans opIL_len (by omega)
   clear hL
   simp only [vS, forall_const, vT, F, G0, G1, E01, G2, E02, E12, F2, F3, had2, hrr, hT, hI, yNsub_e, ← hB]
   simp only [← hX]
   repeat' (first | apply And.intro | intro _)
   all_goals first
     | rfl
     | trivial
     | omega
     | (exfalso; omega)
     | (rw [hL2, rE_snoc, yAnd10]; done)
     | (rw [hL2]; exact rN_snoc4 _ _ _ _ _)
     | (rename_i hq; rw [hL2] at hq ⊢; rw [rN_snoc4] at hq; first | exact rA_snoc4 _ _ _ _ _ hq | exact rB_snoc4 _ _ _ _ _ hq)
     | (trace_state; fail)
theorem goalSplPI_tt : (goalSplPI) = True := goalSplPI_eq.trans (eq_true goalSplPI_vc)
theorem goalSplPI_ok : goalSplPI := @ft' goalSplPI goalSplPI_tt
def goalSplRL_2 (cs : Int) (ct : Int) (cf : Int) (fs : Int) (fv : Int) (xnv : Nat) (xk : Nat → Int) (xw : Nat → Int) (xl : Int) := begL false cs ct cf fs fv (fun (i : Nat) => shf (hvM xnv) (fun (i : Nat) => xk i) i) (fun (i : Nat) => shf (hvM xnv) (fun (i : Nat) => xw i) i) (hvLk false xl) 0 (fun (i : Nat) => (0 : Int)) (fun (i : Nat) => (0 : Int)) (yNsub xnv (hvM xnv))
def goalSplRL_4 (cs : Int) (ct : Int) (cf : Int) (fs : Int) (fv : Int) (xnv : Nat) (xk : Nat → Int) (xw : Nat → Int) (xl : Int) := yNadd (rN (goalSplRL_2 cs ct cf fs fv xnv xk xw xl)) 1
def goalSplRL_0 (cs : Int) (ct : Int) (cf : Int) (ps : Int) (pk : Nat → Int) (pw : Nat → Int) (fs : Int) (fv : Int) (xnv : Nat) (xk : Nat → Int) (xw : Nat → Int) (xl : Int) (xs : Int) (pnv : Nat) (at_ : Int) := opIL cs ct cf ps (fun (i : Nat) => pk i) (fun (i : Nat) => pw i) (goalSplRL_4 cs ct cf fs fv xnv xk xw xl) (fun (i : Nat) => ySel (yNlt i (rN (goalSplRL_2 cs ct cf fs fv xnv xk xw xl))) (rA (goalSplRL_2 cs ct cf fs fv xnv xk xw xl) i) (linkC cs ct cf xs)) (fun (i : Nat) => ySel (yNlt i (rN (goalSplRL_2 cs ct cf fs fv xnv xk xw xl))) (rB (goalSplRL_2 cs ct cf fs fv xnv xk xw xl) i) (freshC fs fv)) pnv (yNat (yWrap IntKind.i64 (yAdd at_ 1))) (xk (hvK false (hvM xnv))) (freshC fs fv)
def goalSplRL_3 (cs : Int) (ct : Int) (cf : Int) (ps : Int) (pk : Nat → Int) (pw : Nat → Int) (fs : Int) (fv : Int) (xnv : Nat) (xk : Nat → Int) (xw : Nat → Int) (xl : Int) (xs : Int) (pnv : Nat) (at_ : Int) := yNadd (yNadd (rN (goalSplRL_0 cs ct cf ps pk pw fs fv xnv xk xw xl xs pnv at_)) 1) 1
def goalSplRL_5 (pnk : Nat) (pk : Nat → Int) := yCol (CK.int IntKind.u64) pnk fun (i : Nat) => AV.y IntKind.u64 (pk i)
def goalSplRL_6 (fnk : Nat) (fk : Nat → Int) := yCol (CK.int IntKind.u64) fnk fun (i : Nat) => AV.y IntKind.u64 (fk i)
def goalSplRL_7 (fnv : Nat) (fw : Nat → Int) := yCol (CK.int IntKind.u64) fnv fun (i : Nat) => AV.y IntKind.u64 (fw i)
def goalSplRL_8 (fv : Int) (xnv : Nat) (xnk : Nat) (fs : Int) (cs : Int) (cf : Int) := yAnd (yAnd (yLe 0 fv) (yLt fv 18446744073709551616)) (yAnd (yNle (yNsub xnv (hvM xnv)) 80) (yAnd (yNle 0 1000) (yAnd (yIff true (yNeq 0 0)) (yAnd (yNeq (yNsub xnv (hvM xnv)) (yNadd (yNsub xnk (hvM xnv)) 0)) (yAnd (yAnd (yLe 0 fs) (yLe fs cs)) (yLe (yInt (yNsub xnv (hvM xnv))) cf))))))
def goalSplRL_9 (pnv : Nat) (cs : Int) (ct : Int) (cf : Int) (fs : Int) (fv : Int) (xnv : Nat) (xk : Nat → Int) (xw : Nat → Int) (xl : Int) (at_ : Int) (pi : Bool) (pnk : Nat) (ps : Int) := yAnd (yNle pnv 80) (yAnd (yNle (goalSplRL_4 cs ct cf fs fv xnv xk xw xl) 1000) (yAnd (yAnd (yLe 0 (yWrap IntKind.i64 (yAdd at_ 1))) (yLe (yWrap IntKind.i64 (yAdd at_ 1)) (yInt pnv))) (yAnd (yIff (yAnd (rE (goalSplRL_2 cs ct cf fs fv xnv xk xw xl)) (yNeq 1 0)) (yNeq (goalSplRL_4 cs ct cf fs fv xnv xk xw xl) 0)) (yAnd (yAnd pi (yNeq pnv (yNadd pnk 1))) (yAnd (yAnd (yLe 0 ps) (yLe ps cs)) (yLt (yInt pnv) cf))))))
def goalSplRL_1 (xs : Int) (cs : Int) (L : List (Int × Int)) (ps : Int) (fs : Int) (pnk : Nat) (pk : Nat → Int) (pnv : Nat) (pw : Nat → Int) (pi : Bool) (cf : Int) (xnk : Nat) (xk : Nat → Int) (xnv : Nat) (xw : Nat → Int) (at_ : Int) (xkn : Bool) (xvn : Bool) (fnk : Nat) (fk : Nat → Int) (fnv : Nat) (fw : Nat → Int) (ct : Int) (cl : Int) (cp : Int) (fv : Int) (xl : Int) (xv : Int) (pv : Int) := yLt xs (0 : Int) = false → (yLt cs xs = true → rE L = true ∧ rN L = nat_lit 0 ∧ rN L = nat_lit 0 ∧ true = true ∧ true = true) ∧ (yLt cs xs = false → (yEq xs (0 : Int) = true → rE L = true ∧ rN L = nat_lit 0 ∧ rN L = nat_lit 0 ∧ true = true ∧ true = true) ∧ (yEq xs (0 : Int) = false → (yEq ps xs = true → rE L = true ∧ rN L = nat_lit 0 ∧ rN L = nat_lit 0 ∧ true = true ∧ true = true) ∧ (yEq ps xs = false → (yLt fs (0 : Int) = true → rE L = true ∧ rN L = nat_lit 0 ∧ rN L = nat_lit 0 ∧ true = true ∧ true = true) ∧ (yLt fs (0 : Int) = false → (yLt cs fs = true → rE L = true ∧ rN L = nat_lit 0 ∧ rN L = nat_lit 0 ∧ true = true ∧ true = true) ∧ (yLt cs fs = false → (yEq fs (0 : Int) = true → rE L = true ∧ rN L = nat_lit 0 ∧ rN L = nat_lit 0 ∧ true = true ∧ true = true) ∧ (yEq fs (0 : Int) = false → (yEq ps fs = true → rE L = true ∧ rN L = nat_lit 0 ∧ rN L = nat_lit 0 ∧ true = true ∧ true = true) ∧ (yEq ps fs = false → (yEq xs fs = true → rE L = true ∧ rN L = nat_lit 0 ∧ rN L = nat_lit 0 ∧ true = true ∧ true = true) ∧ (yEq xs fs = false → mst (goalSplRL_5 pnk pk) (mst (yCol (CK.int IntKind.u64) pnv fun (i : Nat) => AV.y IntKind.u64 (pw i)) (mst (yAnd (yNle pnk 80) (yNle pnv 80)) ((yNot (fitsC pi pnk (fun (i : Nat) => pk i) pnv cf) = true → rE L = true ∧ rN L = nat_lit 0 ∧ rN L = nat_lit 0 ∧ true = true ∧ true = true) ∧ (yNot (fitsC pi pnk (fun (i : Nat) => pk i) pnv cf) = false → mst (yCol (CK.int IntKind.u64) xnk fun (i : Nat) => AV.y IntKind.u64 (xk i)) (mst (yCol (CK.int IntKind.u64) xnv fun (i : Nat) => AV.y IntKind.u64 (xw i)) (mst (yAnd (yNle xnk 80) (yNle xnv 80)) ((yNot (fitsC false xnk (fun (i : Nat) => xk i) xnv cf) = true → rE L = true ∧ rN L = nat_lit 0 ∧ rN L = nat_lit 0 ∧ true = true ∧ true = true) ∧ (yNot (fitsC false xnk (fun (i : Nat) => xk i) xnv cf) = false → (yNot pi = true → rE L = true ∧ rN L = nat_lit 0 ∧ rN L = nat_lit 0 ∧ true = true ∧ true = true) ∧ (yNot pi = false → (yLt at_ (0 : Int) = true → rE L = true ∧ rN L = nat_lit 0 ∧ rN L = nat_lit 0 ∧ true = true ∧ true = true) ∧ (yLt at_ (0 : Int) = false → (yLe (yInt pnv) at_ = true → rE L = true ∧ rN L = nat_lit 0 ∧ rN L = nat_lit 0 ∧ true = true ∧ true = true) ∧ (yLe (yInt pnv) at_ = false → (yLe cf (yInt pnv) = true → rE L = true ∧ rN L = nat_lit 0 ∧ rN L = nat_lit 0 ∧ true = true ∧ true = true) ∧ (yLe cf (yInt pnv) = false → (yLt (yInt xnv) (2 : Int) = true → rE L = true ∧ rN L = nat_lit 0 ∧ rN L = nat_lit 0 ∧ true = true ∧ true = true) ∧ (yLt (yInt xnv) (2 : Int) = false → mst (yCol (CK.int IntKind.u64) xnk fun (i : Nat) => AV.y IntKind.u64 (xk i)) (mst (yCol (CK.int IntKind.u64) xnv fun (i : Nat) => AV.y IntKind.u64 (xw i)) (mst (yAnd (yAnd (yNle 2 xnv) (yNle xnv 80)) (yAnd (yAnd (nilOk xkn xnk) (nilOk xvn xnv)) (yAnd (yNeq xnv (yNadd xnk 0)) (risesB (fun (i : Nat) => xk i) xnk)))) (mst (goalSplRL_5 pnk pk) (mst (yAnd (yNle pnk 80) (yAnd (yLe 0 at_) (yLe at_ (yInt pnk)))) ((yNot (rsnI pnk (fun (i : Nat) => pk i) at_ (xk (hvK false (hvM xnv)))) = true → rE L = true ∧ rN L = nat_lit 0 ∧ rN L = nat_lit 0 ∧ true = true ∧ true = true) ∧ (yNot (rsnI pnk (fun (i : Nat) => pk i) at_ (xk (hvK false (hvM xnv)))) = false → mst (goalSplRL_6 fnk fk) (mst (goalSplRL_7 fnv fw) (mst (yCol (CK.int IntKind.u64) (yNsub xnk (hvM xnv)) fun (i : Nat) => AV.y IntKind.u64 (shf (hvM xnv) (fun (i : Nat) => xk i) i)) (mst (yCol (CK.int IntKind.u64) (yNsub xnv (hvM xnv)) fun (i : Nat) => AV.y IntKind.u64 (shf (hvM xnv) (fun (i : Nat) => xw i) i)) (mst (yAnd (rightC cs ct cf cl cp) (goalSplRL_8 fv xnv xnk fs cs cf)) (mst (yAnd (rightC cs ct cf cl cp) (yAnd (yLe 0 xs) (yLe xs cs))) (mst (goalSplRL_6 fnk fk) (mst (goalSplRL_7 fnv fw) (mst (yAnd (yLe 0 fv) (yLt fv 18446744073709551616)) (mst (yNeq (rN (goalSplRL_2 cs ct cf fs fv xnv xk xw xl)) (rN (goalSplRL_2 cs ct cf fs fv xnv xk xw xl))) (mst (yGrow (goalSplRL_4 cs ct cf fs fv xnv xk xw xl) 16) (mst (goalSplRL_6 fnk fk) (mst (goalSplRL_7 fnv fw) (mst (yAnd (yLe 0 fv) (yLt fv 18446744073709551616)) (mst (yNeq 0 0) (mst (yNeq (goalSplRL_4 cs ct cf fs fv xnv xk xw xl) (goalSplRL_4 cs ct cf fs fv xnv xk xw xl)) (mst (yCol (CK.int IntKind.i64) (goalSplRL_4 cs ct cf fs fv xnv xk xw xl) fun (i : Nat) => AV.y IntKind.i64 (ySel (yNlt i (rN (goalSplRL_2 cs ct cf fs fv xnv xk xw xl))) (rA (goalSplRL_2 cs ct cf fs fv xnv xk xw xl) i) (linkC cs ct cf xs))) (mst (yCol (CK.int IntKind.u64) (goalSplRL_4 cs ct cf fs fv xnv xk xw xl) fun (i : Nat) => AV.y IntKind.u64 (ySel (yNlt i (rN (goalSplRL_2 cs ct cf fs fv xnv xk xw xl))) (rB (goalSplRL_2 cs ct cf fs fv xnv xk xw xl) i) (freshC fs fv))) (mst (goalSplRL_5 pnk pk) (mst (yCol (CK.int IntKind.u64) pnv fun (i : Nat) => AV.y IntKind.u64 (pw i)) (mst (yAnd (rightC cs ct cf cl cp) (goalSplRL_9 pnv cs ct cf fs fv xnv xk xw xl at_ pi pnk ps)) (mst (yAnd (rightC cs ct cf cl cp) (yAnd (yLe 0 xs) (yLe xs cs))) (mst (true) (mst (yNeq (rN (goalSplRL_0 cs ct cf ps pk pw fs fv xnv xk xw xl xs pnv at_)) (rN (goalSplRL_0 cs ct cf ps pk pw fs fv xnv xk xw xl xs pnv at_))) (mst (yGrow (yNadd (rN (goalSplRL_0 cs ct cf ps pk pw fs fv xnv xk xw xl xs pnv at_)) 1) 16) (mst (yAnd (yLe 0 fv) (yLt fv 18446744073709551616)) (mst (yAnd (rightC cs ct cf cl cp) (yAnd (yLe 0 fs) (yLe fs cs))) (mst (yAnd (yLe 0 (renewC fv)) (yLt (renewC fv) 18446744073709551616)) (mst (yNeq (yNadd (rN (goalSplRL_0 cs ct cf ps pk pw fs fv xnv xk xw xl xs pnv at_)) 1) (yNadd (rN (goalSplRL_0 cs ct cf ps pk pw fs fv xnv xk xw xl xs pnv at_)) 1)) (mst (yGrow (goalSplRL_3 cs ct cf ps pk pw fs fv xnv xk xw xl xs pnv at_) 16) (mst (yAnd (rightC cs ct cf cl cp) (yAnd (yLe 0 xs) (yLe xs cs))) (mst (yAnd (yLe 0 xv) (yLt xv 18446744073709551616)) (mst (yNeq (goalSplRL_3 cs ct cf ps pk pw fs fv xnv xk xw xl xs pnv at_) (goalSplRL_3 cs ct cf ps pk pw fs fv xnv xk xw xl xs pnv at_)) (mst (yGrow (yNadd (goalSplRL_3 cs ct cf ps pk pw fs fv xnv xk xw xl xs pnv at_) 1) 16) (mst (yAnd (rightC cs ct cf cl cp) (yAnd (yLe 0 ps) (yLe ps cs))) (mst (yAnd (yLe 0 pv) (yLt pv 18446744073709551616)) (mst (yNeq (yNadd (goalSplRL_3 cs ct cf ps pk pw fs fv xnv xk xw xl xs pnv at_) 1) (yNadd (goalSplRL_3 cs ct cf ps pk pw fs fv xnv xk xw xl xs pnv at_) 1)) (mst (yGrow (yNadd (yNadd (goalSplRL_3 cs ct cf ps pk pw fs fv xnv xk xw xl xs pnv at_) 1) 1) 16) (rE L = yAnd (yAnd (yAnd (yAnd (rE (goalSplRL_0 cs ct cf ps pk pw fs fv xnv xk xw xl xs pnv at_)) (yNeq 1 0)) (yNeq 1 0)) (yNeq 1 0)) (yNeq 1 0) ∧ nat_lit 0 = nat_lit 0 ∧ rN L = yNadd (yNadd (goalSplRL_3 cs ct cf ps pk pw fs fv xnv xk xw xl xs pnv at_) 1) 1 ∧ rN L = yNadd (yNadd (goalSplRL_3 cs ct cf ps pk pw fs fv xnv xk xw xl xs pnv at_) 1) 1 ∧ (∀ (i : Nat), Nat.succ i ≤ rN L → rA L i = ySel (yNlt i (yNadd (goalSplRL_3 cs ct cf ps pk pw fs fv xnv xk xw xl xs pnv at_) 1)) (ySel (yNlt i (goalSplRL_3 cs ct cf ps pk pw fs fv xnv xk xw xl xs pnv at_)) (ySel (yNlt i (yNadd (rN (goalSplRL_0 cs ct cf ps pk pw fs fv xnv xk xw xl xs pnv at_)) 1)) (ySel (yNlt i (rN (goalSplRL_0 cs ct cf ps pk pw fs fv xnv xk xw xl xs pnv at_))) (rA (goalSplRL_0 cs ct cf ps pk pw fs fv xnv xk xw xl xs pnv at_) i) (shapeC cs ct cf xs)) (verC cs ct cf fs)) (verC cs ct cf xs)) (verC cs ct cf ps) ∧ rB L i = ySel (yNlt i (yNadd (goalSplRL_3 cs ct cf ps pk pw fs fv xnv xk xw xl xs pnv at_) 1)) (ySel (yNlt i (goalSplRL_3 cs ct cf ps pk pw fs fv xnv xk xw xl xs pnv at_)) (ySel (yNlt i (yNadd (rN (goalSplRL_0 cs ct cf ps pk pw fs fv xnv xk xw xl xs pnv at_)) 1)) (ySel (yNlt i (rN (goalSplRL_0 cs ct cf ps pk pw fs fv xnv xk xw xl xs pnv at_))) (rB (goalSplRL_0 cs ct cf ps pk pw fs fv xnv xk xw xl xs pnv at_) i) (packC false (yInt (hvM xnv)))) (bumpC (renewC fv))) (bumpC xv)) (bumpC pv) ∧ True) ∧ true = true)))))))))))))))))))))))))))))))))))))))))))))))))))))))))))))))))
def goalSplRLV : Prop := (∀ (cs ct cf cl cp ps pv : Int) (pi pkn : Bool) (pnk : Nat) (pk : Nat → Int) (pvn : Bool) (pnv : Nat) (pw : Nat → Int) (pl at_ xs xv : Int) (xkn : Bool) (xnk : Nat) (xk : Nat → Int) (xvn : Bool) (xnv : Nat) (xw : Nat → Int) (xl fs fv : Int) (fi fkn : Bool) (fnk : Nat) (fk : Nat → Int) (fvn : Bool) (fnv : Nat) (fw : Nat → Int) (fl : Int) (L : List (Int × Int)), rightC cs ct cf cl cp = true → yAnd (yLe 0 pv) (yLt pv 18446744073709551616) = true → yAnd (yLe 0 xv) (yLt xv 18446744073709551616) = true → yAnd (yLe 0 fv) (yLt fv 18446744073709551616) = true → yAnd (yLe 0 (renewC fv)) (yLt (renewC fv) 18446744073709551616) = true → yAnd (yNle pnk 80) (yNle pnv 80) = true → yAnd (yAnd (yNle xnk 80) (yNle xnv 80)) (yAnd (nilOk xkn xnk) (nilOk xvn xnv)) = true → L = splL cs ct cf ps pv pi pnk pk pnv pw at_ xs xv false xnk xk xnv xw xl fs fv → (yLt ps (0 : Int) = true → rE L = true ∧ rN L = nat_lit 0 ∧ rN L = nat_lit 0 ∧ true = true ∧ true = true) ∧ (yLt ps (0 : Int) = false → (yLt cs ps = true → rE L = true ∧ rN L = nat_lit 0 ∧ rN L = nat_lit 0 ∧ true = true ∧ true = true) ∧ (yLt cs ps = false → (yEq ps (0 : Int) = true → (yLt xs (0 : Int) = true → rE L = true ∧ rN L = nat_lit 0 ∧ rN L = nat_lit 0 ∧ true = true ∧ true = true) ∧ (goalSplRL_1 xs cs L ps fs pnk pk pnv pw pi cf xnk xk xnv xw at_ xkn xvn fnk fk fnv fw ct cl cp fv xl xv pv)) ∧ (yEq ps (0 : Int) = false → (yLt xs (0 : Int) = true → rE L = true ∧ rN L = nat_lit 0 ∧ rN L = nat_lit 0 ∧ true = true ∧ true = true) ∧ (goalSplRL_1 xs cs L ps fs pnk pk pnv pw pi cf xnk xk xnv xw at_ xkn xvn fnk fk fnv fw ct cl cp fv xl xv pv)))))
theorem goalSplRL_eq : goalSplRL = goalSplRLV := by kernel_rfl
set_option maxHeartbeats 16000000 in
theorem goalSplRL_vc : goalSplRLV := by
 unfold goalSplRLV goalSplRL_1 goalSplRL_9 goalSplRL_8 goalSplRL_7 goalSplRL_6 goalSplRL_5 goalSplRL_3 goalSplRL_0 goalSplRL_4 goalSplRL_2
 intro cs ct cf cl cp ps pv pi pkn pnk pk pvn pnv pw pl at_ xs xv xkn xnk xk xvn xnv xw xl fs fv fi fkn fnk fk fvn fnv fw fl L hr hpv hxv hfv hrv hp8 hx8 hL
 have hv1 := verC_or (a := ps) hr
 have hv2 := verC_or (a := xs) hr
 have hv3 := verC_or (a := fs) hr
 have hc := rightC_iff.1 hr
 simp only [yAnd_t, yLe_t, yLt_t, yNle_t, nilOk_t] at hpv hxv hfv hrv hp8 hx8
 have hsp : splOk cs cf ps pi pnk pk pnv at_ xs false xnk xk xnv fs = true ↔ (apart3 cs ps xs fs = true ∧ fitsC pi pnk pk pnv cf = true ∧ fitsC false xnk xk xnv cf = true ∧ pi = true ∧ 0 ≤ at_ ∧ at_ < pnv ∧ (pnv : Int) < cf ∧ 2 ≤ xnv ∧ rsnI pnk pk at_ (splK false xk xnv) = true) := decide_eq_true_iff
 rw [apart3_t] at hsp
 unfold splL at hL
 have hT : (true = yNeq 0 0) = True := eq_true rfl
 have neg : ¬ ((0 ≤ ps ∧ ps ≤ cs) ∧ (1 ≤ xs ∧ xs ≤ cs) ∧ (1 ≤ fs ∧ fs ≤ cs) ∧ ps ≠ xs ∧ ps ≠ fs ∧ xs ≠ fs) → L = [] := fun hn => by rw [hL, if_neg (fun h => by rw [hsp] at h; exact hn h.1)]
 have F := And.intro hr (And.intro hp8 hx8)
 by_cases c0 : ps < 0
 case pos =>
   have B := slLo hv1 c0 hc.1
   obtain rfl := neg (by omega)
   clear hsp hL neg
   simp only [vS, forall_const, vT, F, B]
   repeat' (first | apply And.intro | intro _)
   all_goals first | rfl | trivial | (exfalso; omega)
 by_cases c1 : cs < ps
 case pos =>
   have B := slHi hv1 c1 hc.1
   obtain rfl := neg (by omega)
   clear hsp hL neg
   simp only [vS, forall_const, vT, F, B]
   repeat' (first | apply And.intro | intro _)
   all_goals first | rfl | trivial | (exfalso; omega)
 have G0 := slTo hv1 c0 c1
 by_cases c0 : xs < 0
 case pos =>
   have B := slLo hv2 c0 hc.1
   obtain rfl := neg (by omega)
   clear hsp hL neg
   simp only [vS, forall_const, vT, F, G0, B]
   repeat' (first | apply And.intro | intro _)
   all_goals first | rfl | trivial | (exfalso; omega)
 by_cases c1 : cs < xs
 case pos =>
   have B := slHi hv2 c1 hc.1
   obtain rfl := neg (by omega)
   clear hsp hL neg
   simp only [vS, forall_const, vT, F, G0, B]
   repeat' (first | apply And.intro | intro _)
   all_goals first | rfl | trivial | (exfalso; omega)
 by_cases c2 : xs = 0
 case pos =>
   have B := slZe hv2 c2 hc.1
   obtain rfl := neg (by omega)
   clear hsp hL neg
   simp only [vS, forall_const, vT, F, G0, B]
   repeat' (first | apply And.intro | intro _)
   all_goals first | rfl | trivial | (exfalso; omega)
 have G1 := slIn hv2 c0 c1 c2
 by_cases c3 : ps = xs
 case pos =>
   have B := eq_true c3
   obtain rfl := neg (by omega)
   clear hsp hL neg
   simp only [vS, forall_const, vT, F, G0, G1, B]
   repeat' (first | apply And.intro | intro _)
   all_goals first | rfl | trivial | (exfalso; omega)
 have E01 := eq_false c3
 by_cases c0 : fs < 0
 case pos =>
   have B := slLo hv3 c0 hc.1
   obtain rfl := neg (by omega)
   clear hsp hL neg
   simp only [vS, forall_const, vT, F, G0, G1, E01, B]
   repeat' (first | apply And.intro | intro _)
   all_goals first | rfl | trivial | (exfalso; omega)
 by_cases c1 : cs < fs
 case pos =>
   have B := slHi hv3 c1 hc.1
   obtain rfl := neg (by omega)
   clear hsp hL neg
   simp only [vS, forall_const, vT, F, G0, G1, E01, B]
   repeat' (first | apply And.intro | intro _)
   all_goals first | rfl | trivial | (exfalso; omega)
 by_cases c2 : fs = 0
 case pos =>
   have B := slZe hv3 c2 hc.1
   obtain rfl := neg (by omega)
   clear hsp hL neg
   simp only [vS, forall_const, vT, F, G0, G1, E01, B]
   repeat' (first | apply And.intro | intro _)
   all_goals first | rfl | trivial | (exfalso; omega)
 have G2 := slIn hv3 c0 c1 c2
 by_cases c3 : ps = fs
 case pos =>
   have B := eq_true c3
   obtain rfl := neg (by omega)
   clear hsp hL neg
   simp only [vS, forall_const, vT, F, G0, G1, E01, G2, B]
   repeat' (first | apply And.intro | intro _)
   all_goals first | rfl | trivial | (exfalso; omega)
 have E02 := eq_false c3
 by_cases c3 : xs = fs
 case pos =>
   have B := eq_true c3
   obtain rfl := neg (by omega)
   clear hsp hL neg
   simp only [vS, forall_const, vT, F, G0, G1, E01, G2, E02, B]
   repeat' (first | apply And.intro | intro _)
   all_goals first | rfl | trivial | (exfalso; omega)
 have E12 := eq_false c3
 clear neg
 have hap : (0 ≤ ps ∧ ps ≤ cs) ∧ (1 ≤ xs ∧ xs ≤ cs) ∧ (1 ≤ fs ∧ fs ≤ cs) ∧ ps ≠ xs ∧ ps ≠ fs ∧ xs ≠ fs := by omega
 cases hfp : fitsC pi pnk pk pnv cf
 · rw [if_neg (fun h => by rw [hsp, hfp] at h; exact absurd h.2.1 (by simp))] at hL
   subst hL
   clear hsp
   simp only [vS, forall_const, vT, F, G0, G1, E01, G2, E02, E12, hfp]
   repeat' (first | apply And.intro | intro _)
   all_goals first | rfl | trivial | omega | (exfalso; omega)
 cases hfx : fitsC false xnk xk xnv cf
 · rw [if_neg (fun h => by rw [hsp, hfx] at h; exact absurd h.2.2.1 (by simp))] at hL
   subst hL
   clear hsp
   simp only [vS, forall_const, vT, F, G0, G1, E01, G2, E02, E12, hfp, hfx]
   repeat' (first | apply And.intro | intro _)
   all_goals first | rfl | trivial | omega | (exfalso; omega)
 have kx := fits_t.1 hfx
 have kp := fits_t.1 hfp
 have hrs : risesB xk xnk = true := risesB_iff.2 kx.2.2
 have kx2 : xnv = xnk := by have := kx.2.1; simpa using this
 by_cases h2 : 2 ≤ (xnv : Int)
 case neg =>
   rw [if_neg (fun h => by rw [hsp] at h; exact h2 (by omega))] at hL
   subst hL
   clear hsp
   have h2b : (xnv : Int) < 2 := by omega
   simp only [vS, forall_const, vT, F, G0, G1, E01, G2, E02, E12, hfp, hfx, h2, h2b]
   repeat' (first | apply And.intro | intro _)
   all_goals first | rfl | trivial | omega | (exfalso; omega)
 have h2c : 2 ≤ xnv := by omega
 have h2b := eq_false (show ¬ (xnv : Int) < 2 by omega)
 have hm := hv_bnd h2c
 have hkn : nilOk xkn xnk = true := nilOk_t.2 hx8.2.1
 have hvn : nilOk xvn xnv = true := nilOk_t.2 hx8.2.2
 have F2 := And.intro hfp (And.intro hfx (And.intro hrs (And.intro hkn (And.intro hvn (And.intro h2 (And.intro h2b h2c))))))
 by_cases a1 : at_ < 0
 case pos =>
   rw [if_neg (fun h => by rw [hsp] at h; omega)] at hL
   subst hL
   clear hsp
   simp only [vS, forall_const, vT, F, G0, G1, E01, G2, E02, E12, F2, eq_true a1, eq_false (show ¬ 0 ≤ at_ by omega)]
   repeat' (first | apply And.intro | intro _)
   all_goals first | rfl | trivial | omega | (exfalso; omega)
 by_cases a2 : (pnv : Int) ≤ at_
 case pos =>
   rw [if_neg (fun h => by rw [hsp] at h; omega)] at hL
   subst hL
   clear hsp
   simp only [vS, forall_const, vT, F, G0, G1, E01, G2, E02, E12, F2, eq_false a1, eq_true (show 0 ≤ at_ by omega), eq_true a2, eq_false (show ¬ at_ < pnv by omega)]
   repeat' (first | apply And.intro | intro _)
   all_goals first | rfl | trivial | omega | (exfalso; omega)
 by_cases a3 : cf ≤ (pnv : Int)
 case pos =>
   rw [if_neg (fun h => by rw [hsp] at h; omega)] at hL
   subst hL
   clear hsp
   simp only [vS, forall_const, vT, F, G0, G1, E01, G2, E02, E12, F2, eq_false a1, eq_true (show 0 ≤ at_ by omega), eq_false a2, eq_true (show at_ < pnv by omega), eq_true a3, eq_false (show ¬ (pnv : Int) < cf by omega)]
   repeat' (first | apply And.intro | intro _)
   all_goals first | rfl | trivial | omega | (exfalso; omega)
 have hat : 0 ≤ at_ ∧ at_ < pnv ∧ (pnv : Int) < cf := by omega
 have e0 : yWrap .i64 (at_ + 1) = at_ + 1 := wrap64 (by omega) (by omega)
 have F3 := And.intro (eq_false a1) (And.intro (eq_true hat.1) (And.intro (eq_false a2) (And.intro (eq_true hat.2.1) (And.intro (eq_false a3) (And.intro (eq_true hat.2.2) e0)))))
 have had : ∀ x, addOk pi pnk pk pnv (at_ + 1) x = (pi && rsnI pnk pk at_ x) := fun x => addOk_eq hfp hat.1 hat.2.1
 cases pi with
 | false =>
   rw [if_neg (fun h => by rw [hsp] at h; exact absurd h.2.2.2.1 (by simp))] at hL
   subst hL
   clear hsp
   simp only [vS, forall_const, vT, F, G0, G1, E01, G2, E02, E12, F2, F3, had, Bool.false_and]
   repeat' (first | apply And.intro | intro _)
   all_goals first | rfl | trivial | omega | (exfalso; omega)
 | true =>
   have kp2 : pnv = pnk + 1 := by have := kp.2.1; simpa using this
   have had2 : ∀ x, addOk true pnk pk pnv (at_ + 1) x = rsnI pnk pk at_ x := fun x => by rw [had x, Bool.true_and]
   clear had
   have hK : splK false xk xnv = xk (hvK false (hvM xnv)) := rfl
   cases hrr : rsnI pnk pk at_ (xk (hvK false (hvM xnv)))
   · rw [if_neg (fun h => by rw [hsp, hK, hrr] at h; exact absurd h.2.2.2.2.2.2.2.2 (by simp))] at hL
     subst hL
     clear hsp
     simp only [vS, forall_const, vT, F, G0, G1, E01, G2, E02, E12, F2, F3, had2, hrr]
     repeat' (first | apply And.intro | intro _)
     all_goals first | rfl | trivial | omega | (exfalso; omega)
   rw [if_pos (hsp.2 ⟨hap, hfp, hfx, rfl, hat.1, hat.2.1, hat.2.2, h2c, by rw [hK]; exact hrr⟩)] at hL
   clear hsp
   have hb := begL_len (i := false) (cs := cs) (ct := ct) (cf := cf) (s := fs) (v := fv) (k := shf (hvM xnv) xk) (w := shf (hvM xnv) xw) (l := hvLk false xl) (n0 := 0) (a0 := fun _ => 0) (b0 := fun _ => 0) (nv := xnv - hvM xnv)
   obtain ⟨B, hB⟩ : ∃ B, B = begL false cs ct cf fs fv (shf (hvM xnv) xk) (shf (hvM xnv) xw) (hvLk false xl) 0 (fun _ => 0) (fun _ => 0) (xnv - hvM xnv) := ⟨_, rfl⟩
   rw [← hB] at hb
   have hI : (yAnd (rE B) (yNeq 1 0) = yNeq (rN B + 1) 0) = True := eq_true (by rw [yAnd10]; simp [yNeq])
   obtain ⟨X, hX⟩ : ∃ X, X = opIL cs ct cf ps pk pw (rN B + 1) (fun i => ySel (yNlt i (rN B)) (rA B i) (linkC cs ct cf xs)) (fun i => ySel (yNlt i (rN B)) (rB B i) (freshC fs fv)) pnv (yNat (at_ + 1)) (xk (hvK false (hvM xnv))) (freshC fs fv) := ⟨_, rfl⟩
   have hL2 : L = X ++ [(shapeC cs ct cf xs, packC false (hvM xnv : Nat))] ++ [(verC cs ct cf fs, bumpC (renewC fv))] ++ [(verC cs ct cf xs, bumpC xv)] ++ [(verC cs ct cf ps, bumpC pv)] := by
     rw [hL, hX, hK]
     have hBB : splB cs ct cf xs false xk xnv xw xl fs fv = B ++ [(linkC cs ct cf xs, freshC fs fv)] := by rw [hB]; rfl
     rw [hBB]
     have hO : opIL cs ct cf ps pk pw (rN (B ++ [(linkC cs ct cf xs, freshC fs fv)])) (rA (B ++ [(linkC cs ct cf xs, freshC fs fv)])) (rB (B ++ [(linkC cs ct cf xs, freshC fs fv)])) pnv (yNat (at_ + 1)) (xk (hvK false (hvM xnv))) (freshC fs fv) =
         opIL cs ct cf ps pk pw (rN B + 1) (fun i => ySel (yNlt i (rN B)) (rA B i) (linkC cs ct cf xs)) (fun i => ySel (yNlt i (rN B)) (rB B i) (freshC fs fv)) pnv (yNat (at_ + 1)) (xk (hvK false (hvM xnv))) (freshC fs fv) := by
       apply opIL_prw
       rw [rN_snoc]
       apply prw_congr
       intro j hj
       exact ⟨rA_snoc _ _ hj, rB_snoc _ _ hj⟩
     rw [hO]
   have hXn : rN X ≤ 400 := by
     rw [hX]; exact Nat.le_trans opIL_len (by omega)
   clear hL
   simp only [vS, forall_const, vT, F, G0, G1, E01, G2, E02, E12, F2, F3, had2, hrr, hT, hI, yNsub_e, ← hB]
   simp only [← hX]
   repeat' (first | apply And.intro | intro _)
   all_goals first
     | rfl
     | trivial
     | omega
     | (exfalso; omega)
     | (rw [hL2, rE_snoc, yAnd10]; done)
     | (rw [hL2]; exact rN_snoc4 _ _ _ _ _)
     | (rename_i hq; rw [hL2] at hq ⊢; rw [rN_snoc4] at hq; first | exact rA_snoc4 _ _ _ _ _ hq | exact rB_snoc4 _ _ _ _ _ hq)
     | (trace_state; fail)
theorem goalSplRL_tt : (goalSplRL) = True := goalSplRL_eq.trans (eq_true goalSplRL_vc)
theorem goalSplRL_ok : goalSplRL := @ft' goalSplRL goalSplRL_tt
def goalSplRI_2 (cs : Int) (ct : Int) (cf : Int) (fs : Int) (fv : Int) (xnv : Nat) (xk : Nat → Int) (xw : Nat → Int) (xl : Int) := begL true cs ct cf fs fv (fun (i : Nat) => shf (hvM xnv) (fun (i : Nat) => xk i) i) (fun (i : Nat) => shf (hvM xnv) (fun (i : Nat) => xw i) i) (hvLk true xl) 0 (fun (i : Nat) => (0 : Int)) (fun (i : Nat) => (0 : Int)) (yNsub xnv (hvM xnv))
def goalSplRI_0 (cs : Int) (ct : Int) (cf : Int) (ps : Int) (pk : Nat → Int) (pw : Nat → Int) (fs : Int) (fv : Int) (xnv : Nat) (xk : Nat → Int) (xw : Nat → Int) (xl : Int) (pnv : Nat) (at_ : Int) := opIL cs ct cf ps (fun (i : Nat) => pk i) (fun (i : Nat) => pw i) (rN (goalSplRI_2 cs ct cf fs fv xnv xk xw xl)) (fun (i : Nat) => rA (goalSplRI_2 cs ct cf fs fv xnv xk xw xl) i) (fun (i : Nat) => rB (goalSplRI_2 cs ct cf fs fv xnv xk xw xl) i) pnv (yNat (yWrap IntKind.i64 (yAdd at_ 1))) (xk (hvK true (hvM xnv))) (freshC fs fv)
def goalSplRI_3 (cs : Int) (ct : Int) (cf : Int) (ps : Int) (pk : Nat → Int) (pw : Nat → Int) (fs : Int) (fv : Int) (xnv : Nat) (xk : Nat → Int) (xw : Nat → Int) (xl : Int) (pnv : Nat) (at_ : Int) := yNadd (yNadd (rN (goalSplRI_0 cs ct cf ps pk pw fs fv xnv xk xw xl pnv at_)) 1) 1
def goalSplRI_4 (pnk : Nat) (pk : Nat → Int) := yCol (CK.int IntKind.u64) pnk fun (i : Nat) => AV.y IntKind.u64 (pk i)
def goalSplRI_5 (fv : Int) (xnv : Nat) (xnk : Nat) (fs : Int) (cs : Int) (cf : Int) := yAnd (yAnd (yLe 0 fv) (yLt fv 18446744073709551616)) (yAnd (yNle (yNsub xnv (hvM xnv)) 80) (yAnd (yNle 0 1000) (yAnd (yIff true (yNeq 0 0)) (yAnd (yNeq (yNsub xnv (hvM xnv)) (yNadd (yNsub xnk (hvM xnv)) 1)) (yAnd (yAnd (yLe 0 fs) (yLe fs cs)) (yLe (yInt (yNsub xnv (hvM xnv))) cf))))))
def goalSplRI_6 (pnv : Nat) (cs : Int) (ct : Int) (cf : Int) (fs : Int) (fv : Int) (xnv : Nat) (xk : Nat → Int) (xw : Nat → Int) (xl : Int) (at_ : Int) (pi : Bool) (pnk : Nat) (ps : Int) := yAnd (yNle pnv 80) (yAnd (yNle (rN (goalSplRI_2 cs ct cf fs fv xnv xk xw xl)) 1000) (yAnd (yAnd (yLe 0 (yWrap IntKind.i64 (yAdd at_ 1))) (yLe (yWrap IntKind.i64 (yAdd at_ 1)) (yInt pnv))) (yAnd (yIff (rE (goalSplRI_2 cs ct cf fs fv xnv xk xw xl)) (yNeq (rN (goalSplRI_2 cs ct cf fs fv xnv xk xw xl)) 0)) (yAnd (yAnd pi (yNeq pnv (yNadd pnk 1))) (yAnd (yAnd (yLe 0 ps) (yLe ps cs)) (yLt (yInt pnv) cf))))))
def goalSplRI_1 (xs : Int) (cs : Int) (L : List (Int × Int)) (ps : Int) (fs : Int) (pnk : Nat) (pk : Nat → Int) (pnv : Nat) (pw : Nat → Int) (pi : Bool) (cf : Int) (xnk : Nat) (xk : Nat → Int) (xnv : Nat) (xw : Nat → Int) (at_ : Int) (xkn : Bool) (xvn : Bool) (fnk : Nat) (fk : Nat → Int) (fnv : Nat) (fw : Nat → Int) (ct : Int) (cl : Int) (cp : Int) (fv : Int) (xl : Int) (xv : Int) (pv : Int) := yLt xs (0 : Int) = false → (yLt cs xs = true → rE L = true ∧ rN L = nat_lit 0 ∧ rN L = nat_lit 0 ∧ true = true ∧ true = true) ∧ (yLt cs xs = false → (yEq xs (0 : Int) = true → rE L = true ∧ rN L = nat_lit 0 ∧ rN L = nat_lit 0 ∧ true = true ∧ true = true) ∧ (yEq xs (0 : Int) = false → (yEq ps xs = true → rE L = true ∧ rN L = nat_lit 0 ∧ rN L = nat_lit 0 ∧ true = true ∧ true = true) ∧ (yEq ps xs = false → (yLt fs (0 : Int) = true → rE L = true ∧ rN L = nat_lit 0 ∧ rN L = nat_lit 0 ∧ true = true ∧ true = true) ∧ (yLt fs (0 : Int) = false → (yLt cs fs = true → rE L = true ∧ rN L = nat_lit 0 ∧ rN L = nat_lit 0 ∧ true = true ∧ true = true) ∧ (yLt cs fs = false → (yEq fs (0 : Int) = true → rE L = true ∧ rN L = nat_lit 0 ∧ rN L = nat_lit 0 ∧ true = true ∧ true = true) ∧ (yEq fs (0 : Int) = false → (yEq ps fs = true → rE L = true ∧ rN L = nat_lit 0 ∧ rN L = nat_lit 0 ∧ true = true ∧ true = true) ∧ (yEq ps fs = false → (yEq xs fs = true → rE L = true ∧ rN L = nat_lit 0 ∧ rN L = nat_lit 0 ∧ true = true ∧ true = true) ∧ (yEq xs fs = false → mst (goalSplRI_4 pnk pk) (mst (yCol (CK.int IntKind.u64) pnv fun (i : Nat) => AV.y IntKind.u64 (pw i)) (mst (yAnd (yNle pnk 80) (yNle pnv 80)) ((yNot (fitsC pi pnk (fun (i : Nat) => pk i) pnv cf) = true → rE L = true ∧ rN L = nat_lit 0 ∧ rN L = nat_lit 0 ∧ true = true ∧ true = true) ∧ (yNot (fitsC pi pnk (fun (i : Nat) => pk i) pnv cf) = false → mst (yCol (CK.int IntKind.u64) xnk fun (i : Nat) => AV.y IntKind.u64 (xk i)) (mst (yCol (CK.int IntKind.u64) xnv fun (i : Nat) => AV.y IntKind.u64 (xw i)) (mst (yAnd (yNle xnk 80) (yNle xnv 80)) ((yNot (fitsC true xnk (fun (i : Nat) => xk i) xnv cf) = true → rE L = true ∧ rN L = nat_lit 0 ∧ rN L = nat_lit 0 ∧ true = true ∧ true = true) ∧ (yNot (fitsC true xnk (fun (i : Nat) => xk i) xnv cf) = false → (yNot pi = true → rE L = true ∧ rN L = nat_lit 0 ∧ rN L = nat_lit 0 ∧ true = true ∧ true = true) ∧ (yNot pi = false → (yLt at_ (0 : Int) = true → rE L = true ∧ rN L = nat_lit 0 ∧ rN L = nat_lit 0 ∧ true = true ∧ true = true) ∧ (yLt at_ (0 : Int) = false → (yLe (yInt pnv) at_ = true → rE L = true ∧ rN L = nat_lit 0 ∧ rN L = nat_lit 0 ∧ true = true ∧ true = true) ∧ (yLe (yInt pnv) at_ = false → (yLe cf (yInt pnv) = true → rE L = true ∧ rN L = nat_lit 0 ∧ rN L = nat_lit 0 ∧ true = true ∧ true = true) ∧ (yLe cf (yInt pnv) = false → (yLt (yInt xnv) (2 : Int) = true → rE L = true ∧ rN L = nat_lit 0 ∧ rN L = nat_lit 0 ∧ true = true ∧ true = true) ∧ (yLt (yInt xnv) (2 : Int) = false → mst (yCol (CK.int IntKind.u64) xnk fun (i : Nat) => AV.y IntKind.u64 (xk i)) (mst (yCol (CK.int IntKind.u64) xnv fun (i : Nat) => AV.y IntKind.u64 (xw i)) (mst (yAnd (yAnd (yNle 2 xnv) (yNle xnv 80)) (yAnd (yAnd (nilOk xkn xnk) (nilOk xvn xnv)) (yAnd (yNeq xnv (yNadd xnk 1)) (risesB (fun (i : Nat) => xk i) xnk)))) (mst (goalSplRI_4 pnk pk) (mst (yAnd (yNle pnk 80) (yAnd (yLe 0 at_) (yLe at_ (yInt pnk)))) ((yNot (rsnI pnk (fun (i : Nat) => pk i) at_ (xk (hvK true (hvM xnv)))) = true → rE L = true ∧ rN L = nat_lit 0 ∧ rN L = nat_lit 0 ∧ true = true ∧ true = true) ∧ (yNot (rsnI pnk (fun (i : Nat) => pk i) at_ (xk (hvK true (hvM xnv)))) = false → mst (yCol (CK.int IntKind.u64) fnk fun (i : Nat) => AV.y IntKind.u64 (fk i)) (mst (yCol (CK.int IntKind.u64) fnv fun (i : Nat) => AV.y IntKind.u64 (fw i)) (mst (yCol (CK.int IntKind.u64) (yNsub xnk (hvM xnv)) fun (i : Nat) => AV.y IntKind.u64 (shf (hvM xnv) (fun (i : Nat) => xk i) i)) (mst (yCol (CK.int IntKind.u64) (yNsub xnv (hvM xnv)) fun (i : Nat) => AV.y IntKind.u64 (shf (hvM xnv) (fun (i : Nat) => xw i) i)) (mst (yAnd (rightC cs ct cf cl cp) (goalSplRI_5 fv xnv xnk fs cs cf)) (mst (yCol (CK.int IntKind.u64) fnk fun (i : Nat) => AV.y IntKind.u64 (fk i)) (mst (yCol (CK.int IntKind.u64) fnv fun (i : Nat) => AV.y IntKind.u64 (fw i)) (mst (yAnd (yLe 0 fv) (yLt fv 18446744073709551616)) (mst (yNeq 0 0) (mst (yNeq (rN (goalSplRI_2 cs ct cf fs fv xnv xk xw xl)) (rN (goalSplRI_2 cs ct cf fs fv xnv xk xw xl))) (mst (yCol (CK.int IntKind.i64) (rN (goalSplRI_2 cs ct cf fs fv xnv xk xw xl)) fun (i : Nat) => AV.y IntKind.i64 (rA (goalSplRI_2 cs ct cf fs fv xnv xk xw xl) i)) (mst (yCol (CK.int IntKind.u64) (rN (goalSplRI_2 cs ct cf fs fv xnv xk xw xl)) fun (i : Nat) => AV.y IntKind.u64 (rB (goalSplRI_2 cs ct cf fs fv xnv xk xw xl) i)) (mst (goalSplRI_4 pnk pk) (mst (yCol (CK.int IntKind.u64) pnv fun (i : Nat) => AV.y IntKind.u64 (pw i)) (mst (yAnd (rightC cs ct cf cl cp) (goalSplRI_6 pnv cs ct cf fs fv xnv xk xw xl at_ pi pnk ps)) (mst (yAnd (rightC cs ct cf cl cp) (yAnd (yLe 0 xs) (yLe xs cs))) (mst (true) (mst (yNeq (rN (goalSplRI_0 cs ct cf ps pk pw fs fv xnv xk xw xl pnv at_)) (rN (goalSplRI_0 cs ct cf ps pk pw fs fv xnv xk xw xl pnv at_))) (mst (yGrow (yNadd (rN (goalSplRI_0 cs ct cf ps pk pw fs fv xnv xk xw xl pnv at_)) 1) 16) (mst (yAnd (yLe 0 fv) (yLt fv 18446744073709551616)) (mst (yAnd (rightC cs ct cf cl cp) (yAnd (yLe 0 fs) (yLe fs cs))) (mst (yAnd (yLe 0 (renewC fv)) (yLt (renewC fv) 18446744073709551616)) (mst (yNeq (yNadd (rN (goalSplRI_0 cs ct cf ps pk pw fs fv xnv xk xw xl pnv at_)) 1) (yNadd (rN (goalSplRI_0 cs ct cf ps pk pw fs fv xnv xk xw xl pnv at_)) 1)) (mst (yGrow (goalSplRI_3 cs ct cf ps pk pw fs fv xnv xk xw xl pnv at_) 16) (mst (yAnd (rightC cs ct cf cl cp) (yAnd (yLe 0 xs) (yLe xs cs))) (mst (yAnd (yLe 0 xv) (yLt xv 18446744073709551616)) (mst (yNeq (goalSplRI_3 cs ct cf ps pk pw fs fv xnv xk xw xl pnv at_) (goalSplRI_3 cs ct cf ps pk pw fs fv xnv xk xw xl pnv at_)) (mst (yGrow (yNadd (goalSplRI_3 cs ct cf ps pk pw fs fv xnv xk xw xl pnv at_) 1) 16) (mst (yAnd (rightC cs ct cf cl cp) (yAnd (yLe 0 ps) (yLe ps cs))) (mst (yAnd (yLe 0 pv) (yLt pv 18446744073709551616)) (mst (yNeq (yNadd (goalSplRI_3 cs ct cf ps pk pw fs fv xnv xk xw xl pnv at_) 1) (yNadd (goalSplRI_3 cs ct cf ps pk pw fs fv xnv xk xw xl pnv at_) 1)) (mst (yGrow (yNadd (yNadd (goalSplRI_3 cs ct cf ps pk pw fs fv xnv xk xw xl pnv at_) 1) 1) 16) (rE L = yAnd (yAnd (yAnd (yAnd (rE (goalSplRI_0 cs ct cf ps pk pw fs fv xnv xk xw xl pnv at_)) (yNeq 1 0)) (yNeq 1 0)) (yNeq 1 0)) (yNeq 1 0) ∧ nat_lit 0 = nat_lit 0 ∧ rN L = yNadd (yNadd (goalSplRI_3 cs ct cf ps pk pw fs fv xnv xk xw xl pnv at_) 1) 1 ∧ rN L = yNadd (yNadd (goalSplRI_3 cs ct cf ps pk pw fs fv xnv xk xw xl pnv at_) 1) 1 ∧ (∀ (i : Nat), Nat.succ i ≤ rN L → rA L i = ySel (yNlt i (yNadd (goalSplRI_3 cs ct cf ps pk pw fs fv xnv xk xw xl pnv at_) 1)) (ySel (yNlt i (goalSplRI_3 cs ct cf ps pk pw fs fv xnv xk xw xl pnv at_)) (ySel (yNlt i (yNadd (rN (goalSplRI_0 cs ct cf ps pk pw fs fv xnv xk xw xl pnv at_)) 1)) (ySel (yNlt i (rN (goalSplRI_0 cs ct cf ps pk pw fs fv xnv xk xw xl pnv at_))) (rA (goalSplRI_0 cs ct cf ps pk pw fs fv xnv xk xw xl pnv at_) i) (shapeC cs ct cf xs)) (verC cs ct cf fs)) (verC cs ct cf xs)) (verC cs ct cf ps) ∧ rB L i = ySel (yNlt i (yNadd (goalSplRI_3 cs ct cf ps pk pw fs fv xnv xk xw xl pnv at_) 1)) (ySel (yNlt i (goalSplRI_3 cs ct cf ps pk pw fs fv xnv xk xw xl pnv at_)) (ySel (yNlt i (yNadd (rN (goalSplRI_0 cs ct cf ps pk pw fs fv xnv xk xw xl pnv at_)) 1)) (ySel (yNlt i (rN (goalSplRI_0 cs ct cf ps pk pw fs fv xnv xk xw xl pnv at_))) (rB (goalSplRI_0 cs ct cf ps pk pw fs fv xnv xk xw xl pnv at_) i) (packC true (yInt (hvM xnv)))) (bumpC (renewC fv))) (bumpC xv)) (bumpC pv) ∧ True) ∧ true = true)))))))))))))))))))))))))))))))))))))))))))))))))))))))))))
def goalSplRIV : Prop := (∀ (cs ct cf cl cp ps pv : Int) (pi pkn : Bool) (pnk : Nat) (pk : Nat → Int) (pvn : Bool) (pnv : Nat) (pw : Nat → Int) (pl at_ xs xv : Int) (xkn : Bool) (xnk : Nat) (xk : Nat → Int) (xvn : Bool) (xnv : Nat) (xw : Nat → Int) (xl fs fv : Int) (fi fkn : Bool) (fnk : Nat) (fk : Nat → Int) (fvn : Bool) (fnv : Nat) (fw : Nat → Int) (fl : Int) (L : List (Int × Int)), rightC cs ct cf cl cp = true → yAnd (yLe 0 pv) (yLt pv 18446744073709551616) = true → yAnd (yLe 0 xv) (yLt xv 18446744073709551616) = true → yAnd (yLe 0 fv) (yLt fv 18446744073709551616) = true → yAnd (yLe 0 (renewC fv)) (yLt (renewC fv) 18446744073709551616) = true → yAnd (yNle pnk 80) (yNle pnv 80) = true → yAnd (yAnd (yNle xnk 80) (yNle xnv 80)) (yAnd (nilOk xkn xnk) (nilOk xvn xnv)) = true → L = splL cs ct cf ps pv pi pnk pk pnv pw at_ xs xv true xnk xk xnv xw xl fs fv → (yLt ps (0 : Int) = true → rE L = true ∧ rN L = nat_lit 0 ∧ rN L = nat_lit 0 ∧ true = true ∧ true = true) ∧ (yLt ps (0 : Int) = false → (yLt cs ps = true → rE L = true ∧ rN L = nat_lit 0 ∧ rN L = nat_lit 0 ∧ true = true ∧ true = true) ∧ (yLt cs ps = false → (yEq ps (0 : Int) = true → (yLt xs (0 : Int) = true → rE L = true ∧ rN L = nat_lit 0 ∧ rN L = nat_lit 0 ∧ true = true ∧ true = true) ∧ (goalSplRI_1 xs cs L ps fs pnk pk pnv pw pi cf xnk xk xnv xw at_ xkn xvn fnk fk fnv fw ct cl cp fv xl xv pv)) ∧ (yEq ps (0 : Int) = false → (yLt xs (0 : Int) = true → rE L = true ∧ rN L = nat_lit 0 ∧ rN L = nat_lit 0 ∧ true = true ∧ true = true) ∧ (goalSplRI_1 xs cs L ps fs pnk pk pnv pw pi cf xnk xk xnv xw at_ xkn xvn fnk fk fnv fw ct cl cp fv xl xv pv)))))
theorem goalSplRI_eq : goalSplRI = goalSplRIV := by kernel_rfl
set_option maxHeartbeats 16000000 in
theorem goalSplRI_vc : goalSplRIV := by
 unfold goalSplRIV goalSplRI_1 goalSplRI_6 goalSplRI_5 goalSplRI_4 goalSplRI_3 goalSplRI_0 goalSplRI_2
 intro cs ct cf cl cp ps pv pi pkn pnk pk pvn pnv pw pl at_ xs xv xkn xnk xk xvn xnv xw xl fs fv fi fkn fnk fk fvn fnv fw fl L hr hpv hxv hfv hrv hp8 hx8 hL
 have hv1 := verC_or (a := ps) hr
 have hv2 := verC_or (a := xs) hr
 have hv3 := verC_or (a := fs) hr
 have hc := rightC_iff.1 hr
 simp only [yAnd_t, yLe_t, yLt_t, yNle_t, nilOk_t] at hpv hxv hfv hrv hp8 hx8
 have hsp : splOk cs cf ps pi pnk pk pnv at_ xs true xnk xk xnv fs = true ↔ (apart3 cs ps xs fs = true ∧ fitsC pi pnk pk pnv cf = true ∧ fitsC true xnk xk xnv cf = true ∧ pi = true ∧ 0 ≤ at_ ∧ at_ < pnv ∧ (pnv : Int) < cf ∧ 2 ≤ xnv ∧ rsnI pnk pk at_ (splK true xk xnv) = true) := decide_eq_true_iff
 rw [apart3_t] at hsp
 unfold splL at hL
 have hT : (true = yNeq 0 0) = True := eq_true rfl
 have neg : ¬ ((0 ≤ ps ∧ ps ≤ cs) ∧ (1 ≤ xs ∧ xs ≤ cs) ∧ (1 ≤ fs ∧ fs ≤ cs) ∧ ps ≠ xs ∧ ps ≠ fs ∧ xs ≠ fs) → L = [] := fun hn => by rw [hL, if_neg (fun h => by rw [hsp] at h; exact hn h.1)]
 have F := And.intro hr (And.intro hp8 hx8)
 by_cases c0 : ps < 0
 case pos =>
   have B := slLo hv1 c0 hc.1
   obtain rfl := neg (by omega)
   clear hsp hL neg
   simp only [vS, forall_const, vT, F, B]
   repeat' (first | apply And.intro | intro _)
   all_goals first | rfl | trivial | (exfalso; omega)
 by_cases c1 : cs < ps
 case pos =>
   have B := slHi hv1 c1 hc.1
   obtain rfl := neg (by omega)
   clear hsp hL neg
   simp only [vS, forall_const, vT, F, B]
   repeat' (first | apply And.intro | intro _)
   all_goals first | rfl | trivial | (exfalso; omega)
 have G0 := slTo hv1 c0 c1
 by_cases c0 : xs < 0
 case pos =>
   have B := slLo hv2 c0 hc.1
   obtain rfl := neg (by omega)
   clear hsp hL neg
   simp only [vS, forall_const, vT, F, G0, B]
   repeat' (first | apply And.intro | intro _)
   all_goals first | rfl | trivial | (exfalso; omega)
 by_cases c1 : cs < xs
 case pos =>
   have B := slHi hv2 c1 hc.1
   obtain rfl := neg (by omega)
   clear hsp hL neg
   simp only [vS, forall_const, vT, F, G0, B]
   repeat' (first | apply And.intro | intro _)
   all_goals first | rfl | trivial | (exfalso; omega)
 by_cases c2 : xs = 0
 case pos =>
   have B := slZe hv2 c2 hc.1
   obtain rfl := neg (by omega)
   clear hsp hL neg
   simp only [vS, forall_const, vT, F, G0, B]
   repeat' (first | apply And.intro | intro _)
   all_goals first | rfl | trivial | (exfalso; omega)
 have G1 := slIn hv2 c0 c1 c2
 by_cases c3 : ps = xs
 case pos =>
   have B := eq_true c3
   obtain rfl := neg (by omega)
   clear hsp hL neg
   simp only [vS, forall_const, vT, F, G0, G1, B]
   repeat' (first | apply And.intro | intro _)
   all_goals first | rfl | trivial | (exfalso; omega)
 have E01 := eq_false c3
 by_cases c0 : fs < 0
 case pos =>
   have B := slLo hv3 c0 hc.1
   obtain rfl := neg (by omega)
   clear hsp hL neg
   simp only [vS, forall_const, vT, F, G0, G1, E01, B]
   repeat' (first | apply And.intro | intro _)
   all_goals first | rfl | trivial | (exfalso; omega)
 by_cases c1 : cs < fs
 case pos =>
   have B := slHi hv3 c1 hc.1
   obtain rfl := neg (by omega)
   clear hsp hL neg
   simp only [vS, forall_const, vT, F, G0, G1, E01, B]
   repeat' (first | apply And.intro | intro _)
   all_goals first | rfl | trivial | (exfalso; omega)
 by_cases c2 : fs = 0
 case pos =>
   have B := slZe hv3 c2 hc.1
   obtain rfl := neg (by omega)
   clear hsp hL neg
   simp only [vS, forall_const, vT, F, G0, G1, E01, B]
   repeat' (first | apply And.intro | intro _)
   all_goals first | rfl | trivial | (exfalso; omega)
 have G2 := slIn hv3 c0 c1 c2
 by_cases c3 : ps = fs
 case pos =>
   have B := eq_true c3
   obtain rfl := neg (by omega)
   clear hsp hL neg
   simp only [vS, forall_const, vT, F, G0, G1, E01, G2, B]
   repeat' (first | apply And.intro | intro _)
   all_goals first | rfl | trivial | (exfalso; omega)
 have E02 := eq_false c3
 by_cases c3 : xs = fs
 case pos =>
   have B := eq_true c3
   obtain rfl := neg (by omega)
   clear hsp hL neg
   simp only [vS, forall_const, vT, F, G0, G1, E01, G2, E02, B]
   repeat' (first | apply And.intro | intro _)
   all_goals first | rfl | trivial | (exfalso; omega)
 have E12 := eq_false c3
 clear neg
 have hap : (0 ≤ ps ∧ ps ≤ cs) ∧ (1 ≤ xs ∧ xs ≤ cs) ∧ (1 ≤ fs ∧ fs ≤ cs) ∧ ps ≠ xs ∧ ps ≠ fs ∧ xs ≠ fs := by omega
 cases hfp : fitsC pi pnk pk pnv cf
 · rw [if_neg (fun h => by rw [hsp, hfp] at h; exact absurd h.2.1 (by simp))] at hL
   subst hL
   clear hsp
   simp only [vS, forall_const, vT, F, G0, G1, E01, G2, E02, E12, hfp]
   repeat' (first | apply And.intro | intro _)
   all_goals first | rfl | trivial | omega | (exfalso; omega)
 cases hfx : fitsC true xnk xk xnv cf
 · rw [if_neg (fun h => by rw [hsp, hfx] at h; exact absurd h.2.2.1 (by simp))] at hL
   subst hL
   clear hsp
   simp only [vS, forall_const, vT, F, G0, G1, E01, G2, E02, E12, hfp, hfx]
   repeat' (first | apply And.intro | intro _)
   all_goals first | rfl | trivial | omega | (exfalso; omega)
 have kx := fits_t.1 hfx
 have kp := fits_t.1 hfp
 have hrs : risesB xk xnk = true := risesB_iff.2 kx.2.2
 have kx2 : xnv = xnk + 1 := by have := kx.2.1; simpa using this
 by_cases h2 : 2 ≤ (xnv : Int)
 case neg =>
   rw [if_neg (fun h => by rw [hsp] at h; exact h2 (by omega))] at hL
   subst hL
   clear hsp
   have h2b : (xnv : Int) < 2 := by omega
   simp only [vS, forall_const, vT, F, G0, G1, E01, G2, E02, E12, hfp, hfx, h2, h2b]
   repeat' (first | apply And.intro | intro _)
   all_goals first | rfl | trivial | omega | (exfalso; omega)
 have h2c : 2 ≤ xnv := by omega
 have h2b := eq_false (show ¬ (xnv : Int) < 2 by omega)
 have hm := hv_bnd h2c
 have hkn : nilOk xkn xnk = true := nilOk_t.2 hx8.2.1
 have hvn : nilOk xvn xnv = true := nilOk_t.2 hx8.2.2
 have F2 := And.intro hfp (And.intro hfx (And.intro hrs (And.intro hkn (And.intro hvn (And.intro h2 (And.intro h2b h2c))))))
 by_cases a1 : at_ < 0
 case pos =>
   rw [if_neg (fun h => by rw [hsp] at h; omega)] at hL
   subst hL
   clear hsp
   simp only [vS, forall_const, vT, F, G0, G1, E01, G2, E02, E12, F2, eq_true a1, eq_false (show ¬ 0 ≤ at_ by omega)]
   repeat' (first | apply And.intro | intro _)
   all_goals first | rfl | trivial | omega | (exfalso; omega)
 by_cases a2 : (pnv : Int) ≤ at_
 case pos =>
   rw [if_neg (fun h => by rw [hsp] at h; omega)] at hL
   subst hL
   clear hsp
   simp only [vS, forall_const, vT, F, G0, G1, E01, G2, E02, E12, F2, eq_false a1, eq_true (show 0 ≤ at_ by omega), eq_true a2, eq_false (show ¬ at_ < pnv by omega)]
   repeat' (first | apply And.intro | intro _)
   all_goals first | rfl | trivial | omega | (exfalso; omega)
 by_cases a3 : cf ≤ (pnv : Int)
 case pos =>
   rw [if_neg (fun h => by rw [hsp] at h; omega)] at hL
   subst hL
   clear hsp
   simp only [vS, forall_const, vT, F, G0, G1, E01, G2, E02, E12, F2, eq_false a1, eq_true (show 0 ≤ at_ by omega), eq_false a2, eq_true (show at_ < pnv by omega), eq_true a3, eq_false (show ¬ (pnv : Int) < cf by omega)]
   repeat' (first | apply And.intro | intro _)
   all_goals first | rfl | trivial | omega | (exfalso; omega)
 have hat : 0 ≤ at_ ∧ at_ < pnv ∧ (pnv : Int) < cf := by omega
 have e0 : yWrap .i64 (at_ + 1) = at_ + 1 := wrap64 (by omega) (by omega)
 have F3 := And.intro (eq_false a1) (And.intro (eq_true hat.1) (And.intro (eq_false a2) (And.intro (eq_true hat.2.1) (And.intro (eq_false a3) (And.intro (eq_true hat.2.2) e0)))))
 have had : ∀ x, addOk pi pnk pk pnv (at_ + 1) x = (pi && rsnI pnk pk at_ x) := fun x => addOk_eq hfp hat.1 hat.2.1
 cases pi with
 | false =>
   rw [if_neg (fun h => by rw [hsp] at h; exact absurd h.2.2.2.1 (by simp))] at hL
   subst hL
   clear hsp
   simp only [vS, forall_const, vT, F, G0, G1, E01, G2, E02, E12, F2, F3, had, Bool.false_and]
   repeat' (first | apply And.intro | intro _)
   all_goals first | rfl | trivial | omega | (exfalso; omega)
 | true =>
   have kp2 : pnv = pnk + 1 := by have := kp.2.1; simpa using this
   have had2 : ∀ x, addOk true pnk pk pnv (at_ + 1) x = rsnI pnk pk at_ x := fun x => by rw [had x, Bool.true_and]
   clear had
   have hK : splK true xk xnv = xk (hvK true (hvM xnv)) := rfl
   cases hrr : rsnI pnk pk at_ (xk (hvK true (hvM xnv)))
   · rw [if_neg (fun h => by rw [hsp, hK, hrr] at h; exact absurd h.2.2.2.2.2.2.2.2 (by simp))] at hL
     subst hL
     clear hsp
     simp only [vS, forall_const, vT, F, G0, G1, E01, G2, E02, E12, F2, F3, had2, hrr]
     repeat' (first | apply And.intro | intro _)
     all_goals first | rfl | trivial | omega | (exfalso; omega)
   rw [if_pos (hsp.2 ⟨hap, hfp, hfx, rfl, hat.1, hat.2.1, hat.2.2, h2c, by rw [hK]; exact hrr⟩)] at hL
   clear hsp
   have hb := begL_len (i := true) (cs := cs) (ct := ct) (cf := cf) (s := fs) (v := fv) (k := shf (hvM xnv) xk) (w := shf (hvM xnv) xw) (l := hvLk true xl) (n0 := 0) (a0 := fun _ => 0) (b0 := fun _ => 0) (nv := xnv - hvM xnv)
   obtain ⟨B, hB⟩ : ∃ B, B = begL true cs ct cf fs fv (shf (hvM xnv) xk) (shf (hvM xnv) xw) (hvLk true xl) 0 (fun _ => 0) (fun _ => 0) (xnv - hvM xnv) := ⟨_, rfl⟩
   rw [← hB] at hb
   have hI : (rE B = yNeq (rN B) 0) = True := eq_true (by rw [hb.2.2]; unfold yNeq; rw [eq_comm, decide_eq_false_iff_not]; omega)
   obtain ⟨X, hX⟩ : ∃ X, X = opIL cs ct cf ps pk pw (rN B) (rA B) (rB B) pnv (yNat (at_ + 1)) (xk (hvK true (hvM xnv))) (freshC fs fv) := ⟨_, rfl⟩
   have hL2 : L = X ++ [(shapeC cs ct cf xs, packC true (hvM xnv : Nat))] ++ [(verC cs ct cf fs, bumpC (renewC fv))] ++ [(verC cs ct cf xs, bumpC xv)] ++ [(verC cs ct cf ps, bumpC pv)] := by
     rw [hL, hX, hK]
     have hBB : splB cs ct cf xs true xk xnv xw xl fs fv = B := by rw [hB]; simp [splB]
     rw [hBB]
   have hXn : rN X ≤ 400 := by
     rw [hX]; exact Nat.le_trans opIL_len (by omega)
   clear hL
   simp only [vS, forall_const, vT, F, G0, G1, E01, G2, E02, E12, F2, F3, had2, hrr, hT, hI, yNsub_e, ← hB]
   simp only [← hX]
   repeat' (first | apply And.intro | intro _)
   all_goals first
     | rfl
     | trivial
     | omega
     | (exfalso; omega)
     | (rw [hL2, rE_snoc, yAnd10]; done)
     | (rw [hL2]; exact rN_snoc4 _ _ _ _ _)
     | (rename_i hq; rw [hL2] at hq ⊢; rw [rN_snoc4] at hq; first | exact rA_snoc4 _ _ _ _ _ hq | exact rB_snoc4 _ _ _ _ _ hq)
     | (trace_state; fail)
theorem goalSplRI_tt : (goalSplRI) = True := goalSplRI_eq.trans (eq_true goalSplRI_vc)
theorem goalSplRI_ok : goalSplRI := @ft' goalSplRI goalSplRI_tt
end Go.Proofs.YtjhbimdaeofdlaaGreatDoor.Ex
end
section
namespace Go.Proofs.YtjhbimdaeofdlaaGreatDoor.Ex
open Go Go.RowKit
theorem begL_two {cs ct cf s v : Int} {k w k' w' : Nat → Int} {l : Int} {n0 n0' : Nat} {a0 b0 a0' b0' : Nat → Int} (h1 : k 0 = k' 0) (h2 : w 0 = w' 0) (h3 : w 1 = w' 1) (h : prw n0 a0 b0 = prw n0' a0' b0') : begL true cs ct cf s v k w l n0 a0 b0 2 = begL true cs ct cf s v k' w' l n0' a0' b0' 2 := by
 have e1 : kN true 0 k 1 = k 0 := kNI_pos (by omega)
 have e2 : kN true 0 k' 1 = k' 0 := kNI_pos (by omega)
 have e3 : kN true 0 k 0 = 0 := kNI_zero rfl
 have e4 : kN true 0 k' 0 = 0 := kNI_zero rfl
 unfold begL begO
 rw [h, show List.range 2 = [0, 1] from rfl]
 simp only [List.flatMap_cons, List.flatMap_nil, e1, e2, e3, e4, h1, h2, h3]
theorem rA_snoc6 (l : List (Int × Int)) (x y z u v w : Int × Int) {j : Nat} (h : j < rN l + 1 + 1 + 1 + 1 + 1 + 1) : rA (l ++ [x] ++ [y] ++ [z] ++ [u] ++ [v] ++ [w]) j = ySel (yNlt j (rN l + 1 + 1 + 1 + 1 + 1)) (ySel (yNlt j (rN l + 1 + 1 + 1 + 1)) (ySel (yNlt j (rN l + 1 + 1 + 1)) (ySel (yNlt j (rN l + 1 + 1)) (ySel (yNlt j (rN l + 1)) (ySel (yNlt j (rN l)) (rA l j) x.1) y.1) z.1) u.1) v.1) w.1 := by
 rw [rA_snoc _ w (by rw [rN_snoc, rN_snoc4]; exact h), rN_snoc, rN_snoc4]
 by_cases hj : j < rN l + 1 + 1 + 1 + 1 + 1
 · rw [rA_snoc _ v (by rw [rN_snoc4]; exact hj), rN_snoc4]
   by_cases hk : j < rN l + 1 + 1 + 1 + 1
   · rw [rA_snoc4 _ x y z u hk]
   · simp [ySel, yNlt, hk]
 · simp [ySel, yNlt, hj]
theorem rB_snoc6 (l : List (Int × Int)) (x y z u v w : Int × Int) {j : Nat} (h : j < rN l + 1 + 1 + 1 + 1 + 1 + 1) : rB (l ++ [x] ++ [y] ++ [z] ++ [u] ++ [v] ++ [w]) j = ySel (yNlt j (rN l + 1 + 1 + 1 + 1 + 1)) (ySel (yNlt j (rN l + 1 + 1 + 1 + 1)) (ySel (yNlt j (rN l + 1 + 1 + 1)) (ySel (yNlt j (rN l + 1 + 1)) (ySel (yNlt j (rN l + 1)) (ySel (yNlt j (rN l)) (rB l j) x.2) y.2) z.2) u.2) v.2) w.2 := by
 rw [rB_snoc _ w (by rw [rN_snoc, rN_snoc4]; exact h), rN_snoc, rN_snoc4]
 by_cases hj : j < rN l + 1 + 1 + 1 + 1 + 1
 · rw [rB_snoc _ v (by rw [rN_snoc4]; exact hj), rN_snoc4]
   by_cases hk : j < rN l + 1 + 1 + 1 + 1
   · rw [rB_snoc4 _ x y z u hk]
   · simp [ySel, yNlt, hk]
 · simp [ySel, yNlt, hj]
theorem rN_snoc6 (l : List (Int × Int)) (x y z u v w : Int × Int) : rN (l ++ [x] ++ [y] ++ [z] ++ [u] ++ [v] ++ [w]) = rN l + 1 + 1 + 1 + 1 + 1 + 1 := by rw [rN_snoc, rN_snoc, rN_snoc, rN_snoc, rN_snoc, rN_snoc]
def goalRotPL_2 (cs : Int) (ct : Int) (cf : Int) (fs : Int) (fv : Int) (xnv : Nat) (xk : Nat → Int) (xw : Nat → Int) (xl : Int) := begL false cs ct cf fs fv (fun (i : Nat) => shf (hvM xnv) (fun (i : Nat) => xk i) i) (fun (i : Nat) => shf (hvM xnv) (fun (i : Nat) => xw i) i) (hvLk false xl) 0 (fun (i : Nat) => (0 : Int)) (fun (i : Nat) => (0 : Int)) (yNsub xnv (hvM xnv))
def goalRotPL_6 (cs : Int) (ct : Int) (cf : Int) (fs : Int) (fv : Int) (xnv : Nat) (xk : Nat → Int) (xw : Nat → Int) (xl : Int) := yNadd (rN (goalRotPL_2 cs ct cf fs fv xnv xk xw xl)) 1
def goalRotPL_0 (cs : Int) (ct : Int) (cf : Int) (ts : Int) (tv : Int) (xk : Nat → Int) (xnv : Nat) (xs : Int) (xv : Int) (fs : Int) (fv : Int) (xw : Nat → Int) (xl : Int) := begL true cs ct cf ts tv (litI 1 [AV.y IntKind.u64 (xk (hvK false (hvM xnv)))] 0) (litI 1 [AV.y IntKind.u64 (handC xs xv), AV.y IntKind.u64 (freshC fs fv)] 0) 0 (goalRotPL_6 cs ct cf fs fv xnv xk xw xl) (fun (i : Nat) => ySel (yNlt i (rN (goalRotPL_2 cs ct cf fs fv xnv xk xw xl))) (rA (goalRotPL_2 cs ct cf fs fv xnv xk xw xl) i) (linkC cs ct cf xs)) (fun (i : Nat) => ySel (yNlt i (rN (goalRotPL_2 cs ct cf fs fv xnv xk xw xl))) (rB (goalRotPL_2 cs ct cf fs fv xnv xk xw xl) i) (freshC fs fv)) 2
def goalRotPL_10 (fnv : Nat) (fw : Nat → Int) := yCol (CK.int IntKind.u64) fnv fun (i : Nat) => AV.y IntKind.u64 (fw i)
def goalRotPL_11 (fv : Int) (xnv : Nat) (xnk : Nat) := yAnd (yAnd (yLe 0 fv) (yLt fv 18446744073709551616)) (yAnd (yNle (yNsub xnv (hvM xnv)) 80) (yAnd (yNle 0 1000) (yAnd (yIff true (yNeq 0 0)) (yNeq (yNsub xnv (hvM xnv)) (yNadd (yNsub xnk (hvM xnv)) 0)))))
def goalRotPL_12 (tv : Int) (cs : Int) (ct : Int) (cf : Int) (fs : Int) (fv : Int) (xnv : Nat) (xk : Nat → Int) (xw : Nat → Int) (xl : Int) := yAnd (yAnd (yLe 0 tv) (yLt tv 18446744073709551616)) (yAnd (yNle 2 80) (yAnd (yNle (goalRotPL_6 cs ct cf fs fv xnv xk xw xl) 1000) (yAnd (yIff (yAnd (rE (goalRotPL_2 cs ct cf fs fv xnv xk xw xl)) (yNeq 1 0)) (yNeq (goalRotPL_6 cs ct cf fs fv xnv xk xw xl) 0)) (yNeq 2 (yNadd 1 1)))))
def goalRotPL_5 (cs : Int) (ct : Int) (cf : Int) (ts : Int) (tv : Int) (xk : Nat → Int) (xnv : Nat) (xs : Int) (xv : Int) (fs : Int) (fv : Int) (xw : Nat → Int) (xl : Int) := yNadd (rN (goalRotPL_0 cs ct cf ts tv xk xnv xs xv fs fv xw xl)) 1
def goalRotPL_3 (cs : Int) (ct : Int) (cf : Int) (ts : Int) (tv : Int) (xk : Nat → Int) (xnv : Nat) (xs : Int) (xv : Int) (fs : Int) (fv : Int) (xw : Nat → Int) (xl : Int) := yNadd (yNadd (goalRotPL_5 cs ct cf ts tv xk xnv xs xv fs fv xw xl) 1) 1
def goalRotPL_4 (cs : Int) (ct : Int) (cf : Int) (ts : Int) (tv : Int) (xk : Nat → Int) (xnv : Nat) (xs : Int) (xv : Int) (fs : Int) (fv : Int) (xw : Nat → Int) (xl : Int) := yNadd (yNadd (goalRotPL_3 cs ct cf ts tv xk xnv xs xv fs fv xw xl) 1) 1
def goalRotPL_7 (xnk : Nat) (xk : Nat → Int) := yCol (CK.int IntKind.u64) xnk fun (i : Nat) => AV.y IntKind.u64 (xk i)
def goalRotPL_8 (xnv : Nat) (xw : Nat → Int) := yCol (CK.int IntKind.u64) xnv fun (i : Nat) => AV.y IntKind.u64 (xw i)
def goalRotPL_9 (fnk : Nat) (fk : Nat → Int) := yCol (CK.int IntKind.u64) fnk fun (i : Nat) => AV.y IntKind.u64 (fk i)
def goalRotPL_1 (cs : Int) (ct : Int) (cf : Int) (cl : Int) (cp : Int) (xs : Int) (L : List (Int × Int)) (ps : Int) (fs : Int) (ts : Int) (pnk : Nat) (pk : Nat → Int) (pnv : Nat) (pw : Nat → Int) (pi : Bool) (xnk : Nat) (xk : Nat → Int) (xnv : Nat) (xw : Nat → Int) (xkn : Bool) (xvn : Bool) (fnk : Nat) (fk : Nat → Int) (fnv : Nat) (fw : Nat → Int) (fv : Int) (xl : Int) (xv : Int) (tnk : Nat) (tk : Nat → Int) (tnv : Nat) (tw : Nat → Int) (tv : Int) (pv : Int) := rightC cs ct cf cl cp = true → (yLt (verC cs ct cf xs) (0 : Int) = true → rE L = true ∧ rN L = nat_lit 0 ∧ rN L = nat_lit 0 ∧ true = true ∧ true = true) ∧ (yLt (verC cs ct cf xs) (0 : Int) = false → (yEq xs (0 : Int) = true → rE L = true ∧ rN L = nat_lit 0 ∧ rN L = nat_lit 0 ∧ true = true ∧ true = true) ∧ (yEq xs (0 : Int) = false → (yEq ps xs = true → rE L = true ∧ rN L = nat_lit 0 ∧ rN L = nat_lit 0 ∧ true = true ∧ true = true) ∧ (yEq ps xs = false → mst (rightC cs ct cf cl cp) ((yLt (verC cs ct cf fs) (0 : Int) = true → rE L = true ∧ rN L = nat_lit 0 ∧ rN L = nat_lit 0 ∧ true = true ∧ true = true) ∧ (yLt (verC cs ct cf fs) (0 : Int) = false → (yEq fs (0 : Int) = true → rE L = true ∧ rN L = nat_lit 0 ∧ rN L = nat_lit 0 ∧ true = true ∧ true = true) ∧ (yEq fs (0 : Int) = false → (yEq ps fs = true → rE L = true ∧ rN L = nat_lit 0 ∧ rN L = nat_lit 0 ∧ true = true ∧ true = true) ∧ (yEq ps fs = false → (yEq xs fs = true → rE L = true ∧ rN L = nat_lit 0 ∧ rN L = nat_lit 0 ∧ true = true ∧ true = true) ∧ (yEq xs fs = false → mst (rightC cs ct cf cl cp) ((yLt (verC cs ct cf ts) (0 : Int) = true → rE L = true ∧ rN L = nat_lit 0 ∧ rN L = nat_lit 0 ∧ true = true ∧ true = true) ∧ (yLt (verC cs ct cf ts) (0 : Int) = false → (yEq ts (0 : Int) = true → rE L = true ∧ rN L = nat_lit 0 ∧ rN L = nat_lit 0 ∧ true = true ∧ true = true) ∧ (yEq ts (0 : Int) = false → (yEq ps ts = true → rE L = true ∧ rN L = nat_lit 0 ∧ rN L = nat_lit 0 ∧ true = true ∧ true = true) ∧ (yEq ps ts = false → (yEq xs ts = true → rE L = true ∧ rN L = nat_lit 0 ∧ rN L = nat_lit 0 ∧ true = true ∧ true = true) ∧ (yEq xs ts = false → (yEq fs ts = true → rE L = true ∧ rN L = nat_lit 0 ∧ rN L = nat_lit 0 ∧ true = true ∧ true = true) ∧ (yEq fs ts = false → mst (yCol (CK.int IntKind.u64) pnk fun (i : Nat) => AV.y IntKind.u64 (pk i)) (mst (yCol (CK.int IntKind.u64) pnv fun (i : Nat) => AV.y IntKind.u64 (pw i)) (mst (yAnd (yNle pnk 80) (yNle pnv 80)) ((yNot (fitsC pi pnk (fun (i : Nat) => pk i) pnv cf) = true → rE L = true ∧ rN L = nat_lit 0 ∧ rN L = nat_lit 0 ∧ true = true ∧ true = true) ∧ (yNot (fitsC pi pnk (fun (i : Nat) => pk i) pnv cf) = false → mst (goalRotPL_7 xnk xk) (mst (goalRotPL_8 xnv xw) (mst (yAnd (yNle xnk 80) (yNle xnv 80)) ((yNot (fitsC false xnk (fun (i : Nat) => xk i) xnv cf) = true → rE L = true ∧ rN L = nat_lit 0 ∧ rN L = nat_lit 0 ∧ true = true ∧ true = true) ∧ (yNot (fitsC false xnk (fun (i : Nat) => xk i) xnv cf) = false → (pi = true → (yEq (yInt pnv) (1 : Int) = true → (yNot (yLe 2 (yInt xnv)) = true → rE L = true ∧ rN L = nat_lit 0 ∧ rN L = nat_lit 0 ∧ true = true ∧ true = true) ∧ (yNot (yLe 2 (yInt xnv)) = false → mst (goalRotPL_7 xnk xk) (mst (goalRotPL_8 xnv xw) (mst (yAnd (yAnd (yNle 2 xnv) (yNle xnv 80)) (yAnd (yAnd (nilOk xkn xnk) (nilOk xvn xnv)) (yAnd (yNeq xnv (yNadd xnk 0)) (risesB (fun (i : Nat) => xk i) xnk)))) (mst (goalRotPL_9 fnk fk) (mst (goalRotPL_10 fnv fw) (mst (yCol (CK.int IntKind.u64) (yNsub xnk (hvM xnv)) fun (i : Nat) => AV.y IntKind.u64 (shf (hvM xnv) (fun (i : Nat) => xk i) i)) (mst (yCol (CK.int IntKind.u64) (yNsub xnv (hvM xnv)) fun (i : Nat) => AV.y IntKind.u64 (shf (hvM xnv) (fun (i : Nat) => xw i) i)) (mst (yAnd (rightC cs ct cf cl cp) (goalRotPL_11 fv xnv xnk)) (mst (rightC cs ct cf cl cp) (mst (goalRotPL_9 fnk fk) (mst (goalRotPL_10 fnv fw) (mst (yAnd (yLe 0 fv) (yLt fv 18446744073709551616)) (mst (yNeq (rN (goalRotPL_2 cs ct cf fs fv xnv xk xw xl)) (rN (goalRotPL_2 cs ct cf fs fv xnv xk xw xl))) (mst (yGrow (goalRotPL_6 cs ct cf fs fv xnv xk xw xl) 16) (mst (goalRotPL_7 xnk xk) (mst (goalRotPL_8 xnv xw) (mst (yAnd (yLe 0 xv) (yLt xv 18446744073709551616)) (mst (goalRotPL_9 fnk fk) (mst (goalRotPL_10 fnv fw) (mst (yAnd (yLe 0 fv) (yLt fv 18446744073709551616)) (mst (yNeq 0 0) (mst (yNeq (goalRotPL_6 cs ct cf fs fv xnv xk xw xl) (goalRotPL_6 cs ct cf fs fv xnv xk xw xl)) (mst (yCol (CK.int IntKind.i64) (goalRotPL_6 cs ct cf fs fv xnv xk xw xl) fun (i : Nat) => AV.y IntKind.i64 (ySel (yNlt i (rN (goalRotPL_2 cs ct cf fs fv xnv xk xw xl))) (rA (goalRotPL_2 cs ct cf fs fv xnv xk xw xl) i) (linkC cs ct cf xs))) (mst (yCol (CK.int IntKind.u64) (goalRotPL_6 cs ct cf fs fv xnv xk xw xl) fun (i : Nat) => AV.y IntKind.u64 (ySel (yNlt i (rN (goalRotPL_2 cs ct cf fs fv xnv xk xw xl))) (rB (goalRotPL_2 cs ct cf fs fv xnv xk xw xl) i) (freshC fs fv))) (mst (yCol (CK.int IntKind.u64) tnk fun (i : Nat) => AV.y IntKind.u64 (tk i)) (mst (yCol (CK.int IntKind.u64) tnv fun (i : Nat) => AV.y IntKind.u64 (tw i)) (mst (yAnd (rightC cs ct cf cl cp) (goalRotPL_12 tv cs ct cf fs fv xnv xk xw xl)) (mst (rightC cs ct cf cl cp) (mst (yCol (CK.int IntKind.u64) tnk fun (i : Nat) => AV.y IntKind.u64 (tk i)) (mst (yCol (CK.int IntKind.u64) tnv fun (i : Nat) => AV.y IntKind.u64 (tw i)) (mst (yAnd (yLe 0 tv) (yLt tv 18446744073709551616)) (mst (yNeq (rN (goalRotPL_0 cs ct cf ts tv xk xnv xs xv fs fv xw xl)) (rN (goalRotPL_0 cs ct cf ts tv xk xnv xs xv fs fv xw xl))) (mst (yGrow (goalRotPL_5 cs ct cf ts tv xk xnv xs xv fs fv xw xl) 16) (mst (rightC cs ct cf cl cp) (mst (true) (mst (yNeq (goalRotPL_5 cs ct cf ts tv xk xnv xs xv fs fv xw xl) (goalRotPL_5 cs ct cf ts tv xk xnv xs xv fs fv xw xl)) (mst (yGrow (yNadd (goalRotPL_5 cs ct cf ts tv xk xnv xs xv fs fv xw xl) 1) 16) (mst (rightC cs ct cf cl cp) (mst (yAnd (yLe 0 (renewC fv)) (yLt (renewC fv) 18446744073709551616)) (mst (yNeq (yNadd (goalRotPL_5 cs ct cf ts tv xk xnv xs xv fs fv xw xl) 1) (yNadd (goalRotPL_5 cs ct cf ts tv xk xnv xs xv fs fv xw xl) 1)) (mst (yGrow (goalRotPL_3 cs ct cf ts tv xk xnv xs xv fs fv xw xl) 16) (mst (rightC cs ct cf cl cp) (mst (yAnd (yLe 0 (renewC tv)) (yLt (renewC tv) 18446744073709551616)) (mst (yNeq (goalRotPL_3 cs ct cf ts tv xk xnv xs xv fs fv xw xl) (goalRotPL_3 cs ct cf ts tv xk xnv xs xv fs fv xw xl)) (mst (yGrow (yNadd (goalRotPL_3 cs ct cf ts tv xk xnv xs xv fs fv xw xl) 1) 16) (mst (rightC cs ct cf cl cp) (mst (yAnd (yLe 0 xv) (yLt xv 18446744073709551616)) (mst (yNeq (yNadd (goalRotPL_3 cs ct cf ts tv xk xnv xs xv fs fv xw xl) 1) (yNadd (goalRotPL_3 cs ct cf ts tv xk xnv xs xv fs fv xw xl) 1)) (mst (yGrow (goalRotPL_4 cs ct cf ts tv xk xnv xs xv fs fv xw xl) 16) (mst (rightC cs ct cf cl cp) (mst (yAnd (yLe 0 pv) (yLt pv 18446744073709551616)) (mst (yNeq (goalRotPL_4 cs ct cf ts tv xk xnv xs xv fs fv xw xl) (goalRotPL_4 cs ct cf ts tv xk xnv xs xv fs fv xw xl)) (mst (yGrow (yNadd (goalRotPL_4 cs ct cf ts tv xk xnv xs xv fs fv xw xl) 1) 16) (rE L = yAnd (yAnd (yAnd (yAnd (yAnd (yAnd (rE (goalRotPL_0 cs ct cf ts tv xk xnv xs xv fs fv xw xl)) (yNeq 1 0)) (yNeq 1 0)) (yNeq 1 0)) (yNeq 1 0)) (yNeq 1 0)) (yNeq 1 0) ∧ nat_lit 0 = nat_lit 0 ∧ rN L = yNadd (goalRotPL_4 cs ct cf ts tv xk xnv xs xv fs fv xw xl) 1 ∧ rN L = yNadd (goalRotPL_4 cs ct cf ts tv xk xnv xs xv fs fv xw xl) 1 ∧ (∀ (i : Nat), Nat.succ i ≤ rN L → rA L i = ySel (yNlt i (goalRotPL_4 cs ct cf ts tv xk xnv xs xv fs fv xw xl)) (ySel (yNlt i (yNadd (goalRotPL_3 cs ct cf ts tv xk xnv xs xv fs fv xw xl) 1)) (ySel (yNlt i (goalRotPL_3 cs ct cf ts tv xk xnv xs xv fs fv xw xl)) (ySel (yNlt i (yNadd (goalRotPL_5 cs ct cf ts tv xk xnv xs xv fs fv xw xl) 1)) (ySel (yNlt i (goalRotPL_5 cs ct cf ts tv xk xnv xs xv fs fv xw xl)) (ySel (yNlt i (rN (goalRotPL_0 cs ct cf ts tv xk xnv xs xv fs fv xw xl))) (rA (goalRotPL_0 cs ct cf ts tv xk xnv xs xv fs fv xw xl) i) (valC cs ct cf ps 0)) (shapeC cs ct cf xs)) (verC cs ct cf fs)) (verC cs ct cf ts)) (verC cs ct cf xs)) (verC cs ct cf ps) ∧ rB L i = ySel (yNlt i (goalRotPL_4 cs ct cf ts tv xk xnv xs xv fs fv xw xl)) (ySel (yNlt i (yNadd (goalRotPL_3 cs ct cf ts tv xk xnv xs xv fs fv xw xl) 1)) (ySel (yNlt i (goalRotPL_3 cs ct cf ts tv xk xnv xs xv fs fv xw xl)) (ySel (yNlt i (yNadd (goalRotPL_5 cs ct cf ts tv xk xnv xs xv fs fv xw xl) 1)) (ySel (yNlt i (goalRotPL_5 cs ct cf ts tv xk xnv xs xv fs fv xw xl)) (ySel (yNlt i (rN (goalRotPL_0 cs ct cf ts tv xk xnv xs xv fs fv xw xl))) (rB (goalRotPL_0 cs ct cf ts tv xk xnv xs xv fs fv xw xl) i) (freshC ts tv)) (packC false (yInt (hvM xnv)))) (bumpC (renewC fv))) (bumpC (renewC tv))) (bumpC xv)) (bumpC pv) ∧ True) ∧ true = true))))))))))))))))))))))))))))))))))))))))))))))))))))))) ∧ (yEq (yInt pnv) (1 : Int) = false → rE L = true ∧ rN L = nat_lit 0 ∧ rN L = nat_lit 0 ∧ true = true ∧ true = true)) ∧ (pi = false → rE L = true ∧ rN L = nat_lit 0 ∧ rN L = nat_lit 0 ∧ true = true ∧ true = true)))))))))))))))))))))))
def goalRotPLV : Prop := (∀ (cs ct cf cl cp ps pv : Int) (pi pkn : Bool) (pnk : Nat) (pk : Nat → Int) (pvn : Bool) (pnv : Nat) (pw : Nat → Int) (pl xs xv : Int) (xkn : Bool) (xnk : Nat) (xk : Nat → Int) (xvn : Bool) (xnv : Nat) (xw : Nat → Int) (xl fs fv : Int) (fi fkn : Bool) (fnk : Nat) (fk : Nat → Int) (fvn : Bool) (fnv : Nat) (fw : Nat → Int) (fl ts tv : Int) (ti tkn : Bool) (tnk : Nat) (tk : Nat → Int) (tvn : Bool) (tnv : Nat) (tw : Nat → Int) (tl : Int) (L : List (Int × Int)), rightC cs ct cf cl cp = true → yAnd (yLe 0 pv) (yLt pv 18446744073709551616) = true → yAnd (yLe 0 xv) (yLt xv 18446744073709551616) = true → yAnd (yLe 0 fv) (yLt fv 18446744073709551616) = true → yAnd (yLe 0 (renewC fv)) (yLt (renewC fv) 18446744073709551616) = true → yAnd (yLe 0 tv) (yLt tv 18446744073709551616) = true → yAnd (yLe 0 (renewC tv)) (yLt (renewC tv) 18446744073709551616) = true → yAnd (yNle pnk 80) (yNle pnv 80) = true → yAnd (yAnd (yNle xnk 80) (yNle xnv 80)) (yAnd (nilOk xkn xnk) (nilOk xvn xnv)) = true → L = rotL cs ct cf ps pv pi pnk pk pnv xs xv false xnk xk xnv xw xl fs fv ts tv → mst (rightC cs ct cf cl cp) ((yLt (verC cs ct cf ps) (0 : Int) = true → rE L = true ∧ rN L = nat_lit 0 ∧ rN L = nat_lit 0 ∧ true = true ∧ true = true) ∧ (yLt (verC cs ct cf ps) (0 : Int) = false → (yEq ps (0 : Int) = true → (goalRotPL_1 cs ct cf cl cp xs L ps fs ts pnk pk pnv pw pi xnk xk xnv xw xkn xvn fnk fk fnv fw fv xl xv tnk tk tnv tw tv pv) ∧ (rightC cs ct cf cl cp = false → False)) ∧ (yEq ps (0 : Int) = false → (goalRotPL_1 cs ct cf cl cp xs L ps fs ts pnk pk pnv pw pi xnk xk xnv xw xkn xvn fnk fk fnv fw fv xl xv tnk tk tnv tw tv pv) ∧ (rightC cs ct cf cl cp = false → False)))))
theorem goalRotPL_eq : goalRotPL = goalRotPLV := by kernel_rfl
set_option maxHeartbeats 16000000 in
theorem goalRotPL_vc : goalRotPLV := by
 unfold goalRotPLV goalRotPL_1 goalRotPL_9 goalRotPL_8 goalRotPL_7 goalRotPL_4 goalRotPL_3 goalRotPL_5 goalRotPL_12 goalRotPL_11 goalRotPL_10 goalRotPL_0 goalRotPL_6 goalRotPL_2
 intro cs ct cf cl cp ps pv pi pkn pnk pk pvn pnv pw pl xs xv xkn xnk xk xvn xnv xw xl fs fv fi fkn fnk fk fvn fnv fw fl ts tv ti tkn tnk tk tvn tnv tw tl L hr hpv hxv hfv hrv htv hrt hp8 hx8 hL
 have hv1 := verC_or (a := ps) hr
 have hv2 := verC_or (a := xs) hr
 have hv3 := verC_or (a := fs) hr
 have hv4 := verC_or (a := ts) hr
 have hc := rightC_iff.1 hr
 simp only [yAnd_t, yLe_t, yLt_t, yNle_t, nilOk_t] at hpv hxv hfv hrv hp8 hx8 htv hrt
 have hsp : rotOk cs cf ps pi pnk pk pnv xs false xnk xk xnv fs ts = true ↔ (apart4 cs ps xs fs ts = true ∧ fitsC pi pnk pk pnv cf = true ∧ fitsC false xnk xk xnv cf = true ∧ pi = true ∧ pnv = 1 ∧ 2 ≤ xnv) := decide_eq_true_iff
 rw [apart4_t] at hsp
 unfold rotL at hL
 have hT : (true = yNeq 0 0) = True := eq_true rfl
 cases hfp : fitsC pi pnk pk pnv cf
 · rw [if_neg (fun h => by rw [hsp, hfp] at h; exact absurd h.2.1 (by simp))] at hL
   subst hL
   simp only [vS, forall_const, hr, hfp, yCol_int, hp8, false_or, or_false, not_true_eq_false]
   repeat' (first | apply And.intro | intro _)
   all_goals first | rfl | trivial | omega | (exfalso; omega)
 cases hfx : fitsC false xnk xk xnv cf
 · rw [if_neg (fun h => by rw [hsp, hfx] at h; exact absurd h.2.2.1 (by simp))] at hL
   subst hL
   simp only [vS, forall_const, hr, hfp, hfx, yCol_int, hp8, hx8, false_or, or_false, not_true_eq_false]
   repeat' (first | apply And.intro | intro _)
   all_goals first | rfl | trivial | omega | (exfalso; omega)
 have kx := fits_t.1 hfx
 have hrs : risesB xk xnk = true := risesB_iff.2 kx.2.2
 have kx2 : xnv = xnk := by have := kx.2.1; simpa using this
 have neg : ¬ (pi = true ∧ pnv = 1 ∧ 2 ≤ xnv) → L = [] := fun hn => by rw [hL, if_neg (fun h => by rw [hsp] at h; exact hn h.2.2.2)]
 cases pi with
 | false =>
   obtain rfl := neg (fun h => by cases h.1)
   clear hsp hL neg
   simp only [vS, forall_const, hr, hfp, hfx, yCol_int, hp8, hx8, false_or, or_false, not_true_eq_false, Bool.false_eq_true, false_implies]
   repeat' (first | apply And.intro | intro _)
   all_goals first | rfl | trivial | omega | (exfalso; omega)
 | true =>
 by_cases hp1 : (pnv : Int) = 1
 case neg =>
   obtain rfl := neg (fun h => hp1 (by omega))
   clear hsp hL neg
   simp only [vS, forall_const, hr, hfp, hfx, hp1, yCol_int, hp8, hx8, false_or, or_false, not_true_eq_false, false_implies, not_false_eq_true]
   repeat' (first | apply And.intro | intro _)
   all_goals first | rfl | trivial | omega | (exfalso; omega)
 by_cases h2 : 2 ≤ (xnv : Int)
 case neg =>
   obtain rfl := neg (fun h => h2 (by omega))
   clear hsp hL neg
   have h2b : (xnv : Int) < 2 := by omega
   simp only [vS, forall_const, hr, hfp, hfx, h2, h2b, yCol_int, hp8, hx8, false_or, or_false, not_true_eq_false, false_implies, not_false_eq_true]
   repeat' (first | apply And.intro | intro _)
   all_goals first | rfl | trivial | omega | (exfalso; omega)
 clear neg
 have hp1 : pnv = 1 := by omega
 have h2 : 2 ≤ xnv := by omega
 have hm := hv_bnd h2
 have hkn : nilOk xkn xnk = true := nilOk_t.2 hx8.2.1
 have hvn : nilOk xvn xnv = true := nilOk_t.2 hx8.2.2
 have neg : ¬ ((0 ≤ ps ∧ ps ≤ cs) ∧ (1 ≤ xs ∧ xs ≤ cs) ∧ (1 ≤ fs ∧ fs ≤ cs) ∧ (1 ≤ ts ∧ ts ≤ cs) ∧ ps ≠ xs ∧ ps ≠ fs ∧ xs ≠ fs ∧ ps ≠ ts ∧ xs ≠ ts ∧ fs ≠ ts) → L = [] := fun hn => by rw [hL, if_neg (fun h => by rw [hsp] at h; exact hn h.1)]
 have F := And.intro hr (And.intro hfp (And.intro hfx (And.intro hrs (And.intro hkn (And.intro hvn (And.intro hp8 hx8))))))
 by_cases c0 : ps < 0
 case pos =>
   have B := slLo hv1 c0 hc.1
   obtain rfl := neg (by omega)
   clear hsp hL neg
   simp only [vS, forall_const, vT, F, B]
   repeat' (first | apply And.intro | intro _)
   all_goals first | rfl | trivial | (exfalso; omega)
 by_cases c1 : cs < ps
 case pos =>
   have B := slHi hv1 c1 hc.1
   obtain rfl := neg (by omega)
   clear hsp hL neg
   simp only [vS, forall_const, vT, F, B]
   repeat' (first | apply And.intro | intro _)
   all_goals first | rfl | trivial | (exfalso; omega)
 have G0 := slTo hv1 c0 c1
 by_cases c0 : xs < 0
 case pos =>
   have B := slLo hv2 c0 hc.1
   obtain rfl := neg (by omega)
   clear hsp hL neg
   simp only [vS, forall_const, vT, F, G0, B]
   repeat' (first | apply And.intro | intro _)
   all_goals first | rfl | trivial | (exfalso; omega)
 by_cases c1 : cs < xs
 case pos =>
   have B := slHi hv2 c1 hc.1
   obtain rfl := neg (by omega)
   clear hsp hL neg
   simp only [vS, forall_const, vT, F, G0, B]
   repeat' (first | apply And.intro | intro _)
   all_goals first | rfl | trivial | (exfalso; omega)
 by_cases c2 : xs = 0
 case pos =>
   have B := slZe hv2 c2 hc.1
   obtain rfl := neg (by omega)
   clear hsp hL neg
   simp only [vS, forall_const, vT, F, G0, B]
   repeat' (first | apply And.intro | intro _)
   all_goals first | rfl | trivial | (exfalso; omega)
 have G1 := slIn hv2 c0 c1 c2
 by_cases c3 : ps = xs
 case pos =>
   have B := eq_true c3
   obtain rfl := neg (by omega)
   clear hsp hL neg
   simp only [vS, forall_const, vT, F, G0, G1, B]
   repeat' (first | apply And.intro | intro _)
   all_goals first | rfl | trivial | (exfalso; omega)
 have E01 := eq_false c3
 by_cases c0 : fs < 0
 case pos =>
   have B := slLo hv3 c0 hc.1
   obtain rfl := neg (by omega)
   clear hsp hL neg
   simp only [vS, forall_const, vT, F, G0, G1, E01, B]
   repeat' (first | apply And.intro | intro _)
   all_goals first | rfl | trivial | (exfalso; omega)
 by_cases c1 : cs < fs
 case pos =>
   have B := slHi hv3 c1 hc.1
   obtain rfl := neg (by omega)
   clear hsp hL neg
   simp only [vS, forall_const, vT, F, G0, G1, E01, B]
   repeat' (first | apply And.intro | intro _)
   all_goals first | rfl | trivial | (exfalso; omega)
 by_cases c2 : fs = 0
 case pos =>
   have B := slZe hv3 c2 hc.1
   obtain rfl := neg (by omega)
   clear hsp hL neg
   simp only [vS, forall_const, vT, F, G0, G1, E01, B]
   repeat' (first | apply And.intro | intro _)
   all_goals first | rfl | trivial | (exfalso; omega)
 have G2 := slIn hv3 c0 c1 c2
 by_cases c3 : ps = fs
 case pos =>
   have B := eq_true c3
   obtain rfl := neg (by omega)
   clear hsp hL neg
   simp only [vS, forall_const, vT, F, G0, G1, E01, G2, B]
   repeat' (first | apply And.intro | intro _)
   all_goals first | rfl | trivial | (exfalso; omega)
 have E02 := eq_false c3
 by_cases c3 : xs = fs
 case pos =>
   have B := eq_true c3
   obtain rfl := neg (by omega)
   clear hsp hL neg
   simp only [vS, forall_const, vT, F, G0, G1, E01, G2, E02, B]
   repeat' (first | apply And.intro | intro _)
   all_goals first | rfl | trivial | (exfalso; omega)
 have E12 := eq_false c3
 by_cases c0 : ts < 0
 case pos =>
   have B := slLo hv4 c0 hc.1
   obtain rfl := neg (by omega)
   clear hsp hL neg
   simp only [vS, forall_const, vT, F, G0, G1, E01, G2, E02, E12, B]
   repeat' (first | apply And.intro | intro _)
   all_goals first | rfl | trivial | (exfalso; omega)
 by_cases c1 : cs < ts
 case pos =>
   have B := slHi hv4 c1 hc.1
   obtain rfl := neg (by omega)
   clear hsp hL neg
   simp only [vS, forall_const, vT, F, G0, G1, E01, G2, E02, E12, B]
   repeat' (first | apply And.intro | intro _)
   all_goals first | rfl | trivial | (exfalso; omega)
 by_cases c2 : ts = 0
 case pos =>
   have B := slZe hv4 c2 hc.1
   obtain rfl := neg (by omega)
   clear hsp hL neg
   simp only [vS, forall_const, vT, F, G0, G1, E01, G2, E02, E12, B]
   repeat' (first | apply And.intro | intro _)
   all_goals first | rfl | trivial | (exfalso; omega)
 have G3 := slIn hv4 c0 c1 c2
 by_cases c3 : ps = ts
 case pos =>
   have B := eq_true c3
   obtain rfl := neg (by omega)
   clear hsp hL neg
   simp only [vS, forall_const, vT, F, G0, G1, E01, G2, E02, E12, G3, B]
   repeat' (first | apply And.intro | intro _)
   all_goals first | rfl | trivial | (exfalso; omega)
 have E03 := eq_false c3
 by_cases c3 : xs = ts
 case pos =>
   have B := eq_true c3
   obtain rfl := neg (by omega)
   clear hsp hL neg
   simp only [vS, forall_const, vT, F, G0, G1, E01, G2, E02, E12, G3, E03, B]
   repeat' (first | apply And.intro | intro _)
   all_goals first | rfl | trivial | (exfalso; omega)
 have E13 := eq_false c3
 by_cases c3 : fs = ts
 case pos =>
   have B := eq_true c3
   obtain rfl := neg (by omega)
   clear hsp hL neg
   simp only [vS, forall_const, vT, F, G0, G1, E01, G2, E02, E12, G3, E03, E13, B]
   repeat' (first | apply And.intro | intro _)
   all_goals first | rfl | trivial | (exfalso; omega)
 have E23 := eq_false c3
 clear neg
 have hap : (0 ≤ ps ∧ ps ≤ cs) ∧ (1 ≤ xs ∧ xs ≤ cs) ∧ (1 ≤ fs ∧ fs ≤ cs) ∧ (1 ≤ ts ∧ ts ≤ cs) ∧ ps ≠ xs ∧ ps ≠ fs ∧ xs ≠ fs ∧ ps ≠ ts ∧ xs ≠ ts ∧ fs ≠ ts := by omega
 rw [if_pos (hsp.2 ⟨hap, hfp, hfx, rfl, hp1, h2⟩)] at hL
 clear hsp
 have hK : splK false xk xnv = xk (hvK false (hvM xnv)) := rfl
 have hb := begL_len (i := false) (cs := cs) (ct := ct) (cf := cf) (s := fs) (v := fv) (k := shf (hvM xnv) xk) (w := shf (hvM xnv) xw) (l := hvLk false xl) (n0 := 0) (a0 := fun _ => 0) (b0 := fun _ => 0) (nv := xnv - hvM xnv)
 obtain ⟨B, hB⟩ : ∃ B, B = begL false cs ct cf fs fv (shf (hvM xnv) xk) (shf (hvM xnv) xw) (hvLk false xl) 0 (fun _ => 0) (fun _ => 0) (xnv - hvM xnv) := ⟨_, rfl⟩
 rw [← hB] at hb
 have hI : (yAnd (rE B) (yNeq 1 0) = yNeq (rN B + 1) 0) = True := eq_true (by rw [yAnd10]; simp [yNeq])
 obtain ⟨X, hX⟩ : ∃ X, X = begL true cs ct cf ts tv (litI 1 [AV.y IntKind.u64 (xk (hvK false (hvM xnv)))] 0) (litI 1 [AV.y IntKind.u64 (handC xs xv), AV.y IntKind.u64 (freshC fs fv)] 0) 0 (rN B + 1) (fun i => ySel (yNlt i (rN B)) (rA B i) (linkC cs ct cf xs)) (fun i => ySel (yNlt i (rN B)) (rB B i) (freshC fs fv)) 2 := ⟨_, rfl⟩
 have hL2 : L = X ++ [(valC cs ct cf ps 0, freshC ts tv)] ++ [(shapeC cs ct cf xs, packC false (hvM xnv : Nat))] ++ [(verC cs ct cf fs, bumpC (renewC fv))] ++ [(verC cs ct cf ts, bumpC (renewC tv))] ++ [(verC cs ct cf xs, bumpC xv)] ++ [(verC cs ct cf ps, bumpC pv)] := by
   rw [hL, hX, hK]
   have hBB : splB cs ct cf xs false xk xnv xw xl fs fv = B ++ [(linkC cs ct cf xs, freshC fs fv)] := by rw [hB]; rfl
   rw [hBB, begL_two (k := fun _ => xk (hvK false (hvM xnv))) (k' := litI 1 [AV.y IntKind.u64 (xk (hvK false (hvM xnv)))] 0) (w := rotW xs xv fs fv) (w' := litI 1 [AV.y IntKind.u64 (handC xs xv), AV.y IntKind.u64 (freshC fs fv)] 0) (n0' := rN B + 1) (a0' := fun i => ySel (yNlt i (rN B)) (rA B i) (linkC cs ct cf xs)) (b0' := fun i => ySel (yNlt i (rN B)) (rB B i) (freshC fs fv)) rfl rfl rfl (by
     rw [rN_snoc]
     apply prw_congr
     intro j hj
     exact ⟨rA_snoc _ _ hj, rB_snoc _ _ hj⟩)]
 have hXn : rN X ≤ 400 ∧ 1 ≤ rN X ∧ rE X = false := by
   have := begL_len (i := true) (cs := cs) (ct := ct) (cf := cf) (s := ts) (v := tv) (k := litI 1 [AV.y IntKind.u64 (xk (hvK false (hvM xnv)))] 0) (w := litI 1 [AV.y IntKind.u64 (handC xs xv), AV.y IntKind.u64 (freshC fs fv)] 0) (l := 0) (n0 := rN B + 1) (a0 := fun i => ySel (yNlt i (rN B)) (rA B i) (linkC cs ct cf xs)) (b0 := fun i => ySel (yNlt i (rN B)) (rB B i) (freshC fs fv)) (nv := 2)
   rw [← hX] at this
   exact ⟨by omega, by omega, this.2.2⟩
 clear hL
 simp only [vS, forall_const, vT, hT, hI, yNsub_e, ← hB, F, G0, G1, E01, G2, E02, E12, G3, E03, E13, E23]
 simp only [← hX]
 repeat' (first | apply And.intro | intro _)
 all_goals first
   | rfl
   | trivial
   | omega
   | (exfalso; omega)
   | (simp only [hb.2.2, hXn.2.2, yAnd, yNeq] at *; omega)
   | (rw [hL2, rE_snoc, yAnd10]; done)
   | (rw [hL2]; exact rN_snoc6 _ _ _ _ _ _ _)
   | (rename_i hq; rw [hL2] at hq ⊢; rw [rN_snoc6] at hq; first | exact rA_snoc6 _ _ _ _ _ _ _ hq | exact rB_snoc6 _ _ _ _ _ _ _ hq)
theorem goalRotPL_tt : (goalRotPL) = True := goalRotPL_eq.trans (eq_true goalRotPL_vc)
theorem goalRotPL_ok : goalRotPL := @ft' goalRotPL goalRotPL_tt
end Go.Proofs.YtjhbimdaeofdlaaGreatDoor.Ex
end
