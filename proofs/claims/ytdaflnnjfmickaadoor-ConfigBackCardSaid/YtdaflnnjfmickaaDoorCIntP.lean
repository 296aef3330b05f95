/- Contract: num.Int is an int's text. -/
import Derived.Test.YtdaflnnjfmickaaDoorCNumP
import Derived.Test.YtdaflnnjfmickaaDoorCJoin
import Derived.Test.YtdaflnnjfmickaaDoorWo
namespace Go.Proofs.YtdaflnnjfmickaaDoor.Ex
open Go

-- OPEN inI fmI
def inI (n : Int) : Bool := yAnd (yLe (-9223372036854775808) n) (yLt n 9223372036854775808)
/-- A whole number's text. -/
def fmI (n : Int) : List UInt8 := bif yLt n 0 then 45 :: fm (0 - n) else fm n
abbrev gI1 : List Ag := [.cell none]
abbrev dI1 (n : Int) : List Da := [.cell (.v (.y .i64 n))]
def fInt (ds : List Da) : Option (Bool × AV) :=
  match ds with
  | [.cell (.v (.y .i64 n))] => some (inI n, .ys (fmI n))
  | _ => none
def lFm : List (Nat × Sm) := [(38, .ct (ctS gForm fForm))]
def gIntg (P : Program) (f : FuncId) : Prop := ∀ (n : Int), inI n = true → wxF P (smL lFm) (fun _ => none) 1000 f (canA gI1 (dI1 n) []).1 (heapOf (canA gI1 (dI1 n) []).2) (fun v _ => cmpC (.ys (fmI n)) v)
def goalInt : Prop := gIntg Tryd.prog 14
set_option maxRecDepth 100000 in
theorem goalInt_eq : goalInt = (∀ (n : Int), inI n = true → (yLt n (0 : Int) = true → (yAnd (yEq (10 : Int) (10 : Int)) (inU (yWrap IntKind.u64 (yAdd (yWrap IntKind.u64 (yWrap IntKind.i64 (ySub (0 : Int) (yWrap IntKind.i64 (yAdd n (1 : Int)))))) (1 : Int)))) = true → (yNle (yNadd (yLen [(45 : UInt8)]) (yLen (fm (yWrap IntKind.u64 (yAdd (yWrap IntKind.u64 (yWrap IntKind.i64 (ySub (0 : Int) (yWrap IntKind.i64 (yAdd n (1 : Int)))))) (1 : Int)))))) (nat_lit 9223372036854775807) = true → fmI n = yCat [(45 : UInt8)] (fm (yWrap IntKind.u64 (yAdd (yWrap IntKind.u64 (yWrap IntKind.i64 (ySub (0 : Int) (yWrap IntKind.i64 (yAdd n (1 : Int)))))) (1 : Int))))) ∧ (yNle (yNadd (yLen [(45 : UInt8)]) (yLen (fm (yWrap IntKind.u64 (yAdd (yWrap IntKind.u64 (yWrap IntKind.i64 (ySub (0 : Int) (yWrap IntKind.i64 (yAdd n (1 : Int)))))) (1 : Int)))))) (nat_lit 9223372036854775807) = false → False)) ∧ (yAnd (yEq (10 : Int) (10 : Int)) (inU (yWrap IntKind.u64 (yAdd (yWrap IntKind.u64 (yWrap IntKind.i64 (ySub (0 : Int) (yWrap IntKind.i64 (yAdd n (1 : Int)))))) (1 : Int)))) = false → False)) ∧ (yLt n (0 : Int) = false → (yAnd (yEq (10 : Int) (10 : Int)) (inU (yWrap IntKind.u64 n)) = true → fmI n = fm (yWrap IntKind.u64 n)) ∧ (yAnd (yEq (10 : Int) (10 : Int)) (inU (yWrap IntKind.u64 n)) = false → False))) := by kernel_rfl
theorem fmF_len : ∀ (k : Nat) (n : Int) (acc : List UInt8), (fmF k n acc).length ≤ k + acc.length
  | 0, _, acc => by simp [fmF]
  | k + 1, n, acc => by
    unfold fmF
    cases decide (n / 10 = 0) with
    | true => simp; omega
    | false =>
      have := fmF_len k (n / 10) (dgU (n % 10) :: acc)
      simp only [List.length_cons] at this
      simp only [cond_false]; omega
theorem fm_len (n : Int) : yLen (fm n) ≤ 20 := by
  have := fmF_len 20 n []
  simpa [yLen, fm] using this
theorem cat1 (x : UInt8) (l : List UInt8) : yCat [x] l = x :: l := rfl
theorem fmI_neg {n : Int} (h : n < 0) : fmI n = 45 :: fm (0 - n) := by unfold fmI yLt; rw [decide_eq_true h]; rfl
theorem fmI_pos {n : Int} (h : 0 ≤ n) : fmI n = fm n := by unfold fmI yLt; rw [decide_eq_false (by omega)]; rfl
theorem inI_t {n : Int} (h : inI n = true) : -9223372036854775808 ≤ n ∧ n < 9223372036854775808 := by
  simpa only [inI, yAnd_t, yLe_t, yLt_t] using h
theorem inU_t {n : Int} : inU n = true ↔ 0 ≤ n ∧ n < 18446744073709551616 := by
  simp only [inU, yAnd_t, yLe_t, yLt_t]
theorem inU_f {n : Int} : inU n = false ↔ ¬ (0 ≤ n ∧ n < 18446744073709551616) := by
  rw [← inU_t]; simp
set_option maxRecDepth 100000 in
theorem goalInt_ok : goalInt := by
  refine kernel_go goalInt_eq ?_
  intro n hn
  have hr := inI_t hn
  have hL : ∀ m, yLen (fm m) ≤ 20 := fm_len
  have h1 : ∀ x : UInt8, yLen [x] = 1 := fun _ => rfl
  refine ⟨fun hneg => ?_, fun hpos => ?_⟩
  · simp only [yLt_t] at hneg
    have e : yWrap .u64 (yAdd (yWrap .u64 (yWrap .i64 (ySub 0 (yWrap .i64 (yAdd n 1))))) 1) = 0 - n := by
      have e1 : yWrap .i64 (yAdd n 1) = n + 1 := wrap64 (by unfold yAdd; omega) (by unfold yAdd; omega)
      rw [e1]
      have e2 : yWrap .i64 (ySub 0 (n + 1)) = 0 - (n + 1) := wrap64 (by unfold ySub; omega) (by unfold ySub; omega)
      rw [e2]
      have e3 : yWrap .u64 (0 - (n + 1)) = 0 - (n + 1) := wrapU64 (by omega) (by omega)
      rw [e3]
      have e4 : yWrap .u64 (yAdd (0 - (n + 1)) 1) = 0 - (n + 1) + 1 := wrapU64 (by unfold yAdd; omega) (by unfold yAdd; omega)
      rw [e4]; omega
    simp only [e, h1, cat1, fmI_neg hneg]
    have := hL (0 - n)
    simp only [yNot_t, yNot_f, yEq_t, yEq_f, yAnd_t, yAnd_f, yOr_t, yOr_f, yIff_t, yIff_f, yLt_t, yLt_f, yLe_t, yLe_f, yIn_t, yIn_f, yNlt_t, yNlt_f, yNle_t, yNle_f, yNeq_t, yNeq_f, yGrow_t, yGrow_f, yInt_e, yNat_e, yNadd_e, yNsub_e, yAdd_e, ySub_e, yMul_e, yCol_int, yCol_bool, true_and, and_true, Nat.zero_add, Nat.add_zero, Nat.le_refl, forall_const, true_implies, Bool.true_eq_false, Bool.false_eq_true, false_implies, inU_t, inU_f]
    repeat' (first | apply And.intro | intro _)
    all_goals first | omega | trivial
  · simp only [yLt_f] at hpos
    have e : yWrap .u64 n = n := wrapU64 (by omega) (by omega)
    simp only [e, fmI_pos (show 0 ≤ n by omega)]
    simp only [yNot_t, yNot_f, yEq_t, yEq_f, yAnd_t, yAnd_f, yOr_t, yOr_f, yIff_t, yIff_f, yLt_t, yLt_f, yLe_t, yLe_f, yIn_t, yIn_f, yNlt_t, yNlt_f, yNle_t, yNle_f, yNeq_t, yNeq_f, yGrow_t, yGrow_f, yInt_e, yNat_e, yNadd_e, yNsub_e, yAdd_e, ySub_e, yMul_e, yCol_int, yCol_bool, true_and, and_true, Nat.zero_add, Nat.add_zero, Nat.le_refl, forall_const, true_implies, Bool.true_eq_false, Bool.false_eq_true, false_implies, inU_t, inU_f]
    repeat' (first | apply And.intro | intro _)
    all_goals first | omega | trivial
theorem smInt {f : FuncId} (hm : Tryd.prog.follows .mixedOrders = true) (hs : SmOK Tryd.prog (smL lFm)) (h : gIntg Tryd.prog f) : SmCall Tryd.prog f (fun args h => (ctS gI1 fInt args h).sel) :=
  ctS_ok hm hs (by decide) (fun ds a e => by
    unfold fInt at e
    split at e
    · rename_i n
      simp only [Option.some.injEq, Prod.mk.injEq] at e
      obtain ⟨h1, rfl⟩ := e
      exact ⟨_, 1000, h n h1⟩
    · cases e)
end Go.Proofs.YtdaflnnjfmickaaDoor.Ex
