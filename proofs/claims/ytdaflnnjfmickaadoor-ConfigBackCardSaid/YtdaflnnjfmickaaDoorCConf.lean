/- Contracts: config.Right and gleaningref07.Wrong tell which configurations may be, and which number is out of its bounds. -/
import Derived.Test.YtdaflnnjfmickaaDoorSl
import Derived.Test.YtdaflnnjfmickaaDoorWi
import Derived.Test.YtdaflnnjfmickaaDoorProg
namespace Go.Proofs.YtdaflnnjfmickaaDoor.Ex
open Go

-- OPEN rightC wrongC
def rightC (s t f l p : Int) : Bool := decide (1 ≤ s ∧ s ≤ 1000 ∧ 1 ≤ t ∧ t ≤ 64 ∧ 4 ≤ f ∧ f ≤ 64 ∧ 1 ≤ l ∧ l ≤ 64 ∧ 1 ≤ p ∧ p ≤ 1048576)
def wrongC (s t f l p : Int) : Int := if s < 1 ∨ 1000 < s then 0 else if t < 1 ∨ 64 < t then 1 else if f < 4 ∨ 64 < f then 2 else if l < 1 ∨ 64 < l then 3 else if p < 1 ∨ 1048576 < p then 4 else -1
theorem rightC_iff {s t f l p : Int} : rightC s t f l p = true ↔ (1 ≤ s ∧ s ≤ 1000 ∧ 1 ≤ t ∧ t ≤ 64 ∧ 4 ≤ f ∧ f ≤ 64 ∧ 1 ≤ l ∧ l ≤ 64 ∧ 1 ≤ p ∧ p ≤ 1048576) := decide_eq_true_iff
theorem rightC_off {s t f l p : Int} : rightC s t f l p = false ↔ ¬ (1 ≤ s ∧ s ≤ 1000 ∧ 1 ≤ t ∧ t ≤ 64 ∧ 4 ≤ f ∧ f ≤ 64 ∧ 1 ≤ l ∧ l ≤ 64 ∧ 1 ≤ p ∧ p ≤ 1048576) := decide_eq_false_iff_not
abbrev gConf : List Ag := [.agg [none, none, none, none, none]]
abbrev dConf (s t f l p : Int) : List Da := [.agg [.v (.y .i64 s), .v (.y .i64 t), .v (.y .i64 f), .v (.y .i64 l), .v (.y .i64 p)]]
def fRight (ds : List Da) : Option (Bool × AV) :=
  match ds with
  | [.agg [.v (.y .i64 s), .v (.y .i64 t), .v (.y .i64 f), .v (.y .i64 l), .v (.y .i64 p)]] => some (true, .yb (rightC s t f l p))
  | _ => none
def fWrong (ds : List Da) : Option (Bool × AV) :=
  match ds with
  | [.agg [.v (.y .i64 s), .v (.y .i64 t), .v (.y .i64 f), .v (.y .i64 l), .v (.y .i64 p)]] => some (true, .y .i64 (wrongC s t f l p))
  | _ => none
def goalRight : Prop := ∀ (s t f l p : Int), wxF Tryd.prog noSm (fun _ => none) 1000 12 (canA gConf (dConf s t f l p) []).1 (heapOf (canA gConf (dConf s t f l p) []).2) (fun v _ => cmpC (.yb (rightC s t f l p)) v)
def goalWrong : Prop := ∀ (s t f l p : Int), wxF Tryd.prog noSm (fun _ => none) 1000 6 (canA gConf (dConf s t f l p) []).1 (heapOf (canA gConf (dConf s t f l p) []).2) (fun v _ => cmpC (.y .i64 (wrongC s t f l p)) v)
set_option maxRecDepth 100000 in
theorem goalRight_eq : goalRight = (∀ (s t f l p : Int),
  (yLt s (1 : Int) = true → rightC s t f l p = false) ∧
    (yLt s (1 : Int) = false →
      (yLt (1000 : Int) s = true → rightC s t f l p = false) ∧
        (yLt (1000 : Int) s = false →
          (yLt t (1 : Int) = true → rightC s t f l p = false) ∧
            (yLt t (1 : Int) = false →
              (yLt (64 : Int) t = true → rightC s t f l p = false) ∧
                (yLt (64 : Int) t = false →
                  (yLt f (4 : Int) = true → rightC s t f l p = false) ∧
                    (yLt f (4 : Int) = false →
                      (yLt (64 : Int) f = true → rightC s t f l p = false) ∧
                        (yLt (64 : Int) f = false →
                          (yLt l (1 : Int) = true → rightC s t f l p = false) ∧
                            (yLt l (1 : Int) = false →
                              (yLt (64 : Int) l = true → rightC s t f l p = false) ∧
                                (yLt (64 : Int) l = false →
                                  (yLt p (1 : Int) = true → rightC s t f l p = false) ∧
                                    (yLt p (1 : Int) = false →
                                      (yLt (1048576 : Int) p = true → rightC s t f l p = false) ∧
                                        (yLt (1048576 : Int) p = false → rightC s t f l p = true))))))))))) := by kernel_rfl
set_option maxRecDepth 100000 in
theorem goalRight_ok : goalRight := by
  refine kernel_go goalRight_eq ?_
  intro s t f l p
  simp only [yNot_t, yNot_f, yEq_t, yEq_f, yAnd_t, yAnd_f, yOr_t, yOr_f, yIff_t, yIff_f, yLt_t, yLt_f, yLe_t, yLe_f, yIn_t, yIn_f, yNlt_t, yNlt_f, yNle_t, yNle_f, yNeq_t, yNeq_f, yGrow_t, yGrow_f, yInt_e, yNat_e, yNadd_e, yNsub_e, yAdd_e, ySub_e, yMul_e, yCol_int, yCol_bool, true_and, and_true, Nat.zero_add, Nat.add_zero, Nat.le_refl, forall_const, true_implies, Bool.true_eq_false, Bool.false_eq_true, false_implies, rightC_iff, rightC_off]
  omega
set_option maxRecDepth 100000 in
theorem goalWrong_eq : goalWrong = (∀ (s t f l p : Int),
  (yLt s (1 : Int) = true → wrongC s t f l p = (0 : Int)) ∧
    (yLt s (1 : Int) = false →
      (yLt (1000 : Int) s = true → wrongC s t f l p = (0 : Int)) ∧
        (yLt (1000 : Int) s = false →
          (yLt t (1 : Int) = true → wrongC s t f l p = (1 : Int)) ∧
            (yLt t (1 : Int) = false →
              (yLt (64 : Int) t = true → wrongC s t f l p = (1 : Int)) ∧
                (yLt (64 : Int) t = false →
                  (yLt f (4 : Int) = true → wrongC s t f l p = (2 : Int)) ∧
                    (yLt f (4 : Int) = false →
                      (yLt (64 : Int) f = true → wrongC s t f l p = (2 : Int)) ∧
                        (yLt (64 : Int) f = false →
                          (yLt l (1 : Int) = true → wrongC s t f l p = (3 : Int)) ∧
                            (yLt l (1 : Int) = false →
                              (yLt (64 : Int) l = true → wrongC s t f l p = (3 : Int)) ∧
                                (yLt (64 : Int) l = false →
                                  (yLt p (1 : Int) = true → wrongC s t f l p = (4 : Int)) ∧
                                    (yLt p (1 : Int) = false →
                                      (yLt (1048576 : Int) p = true → wrongC s t f l p = (4 : Int)) ∧
                                        (yLt (1048576 : Int) p = false → wrongC s t f l p = (-1 : Int)))))))))))) := by kernel_rfl
set_option maxRecDepth 100000 in
theorem goalWrong_ok : goalWrong := by
  refine kernel_go goalWrong_eq ?_
  intro s t f l p
  simp only [yNot_t, yNot_f, yEq_t, yEq_f, yAnd_t, yAnd_f, yOr_t, yOr_f, yIff_t, yIff_f, yLt_t, yLt_f, yLe_t, yLe_f, yIn_t, yIn_f, yNlt_t, yNlt_f, yNle_t, yNle_f, yNeq_t, yNeq_f, yGrow_t, yGrow_f, yInt_e, yNat_e, yNadd_e, yNsub_e, yAdd_e, ySub_e, yMul_e, yCol_int, yCol_bool, true_and, and_true, Nat.zero_add, Nat.add_zero, Nat.le_refl, forall_const, true_implies, Bool.true_eq_false, Bool.false_eq_true, false_implies]
  unfold wrongC
  repeat' (first | apply And.intro | intro _)
  all_goals (repeat' split)
  all_goals omega
set_option maxRecDepth 100000 in
theorem smRight (hm : Tryd.prog.follows .mixedOrders = true) : SmCall Tryd.prog 12 (fun args h => (ctS gConf fRight args h).sel) :=
  ctS_ok hm noSm_ok (by decide) (fun ds a h => by
    unfold fRight at h
    split at h
    · simp only [Option.some.injEq, Prod.mk.injEq, true_and] at h
      subst h
      exact ⟨_, 1000, goalRight_ok _ _ _ _ _⟩
    · cases h)
set_option maxRecDepth 100000 in
theorem smWrong (hm : Tryd.prog.follows .mixedOrders = true) : SmCall Tryd.prog 6 (fun args h => (ctS gConf fWrong args h).sel) :=
  ctS_ok hm noSm_ok (by decide) (fun ds a h => by
    unfold fWrong at h
    split at h
    · simp only [Option.some.injEq, Prod.mk.injEq, true_and] at h
      subst h
      exact ⟨_, 1000, goalWrong_ok _ _ _ _ _⟩
    · cases h)
end Go.Proofs.YtdaflnnjfmickaaDoor.Ex
