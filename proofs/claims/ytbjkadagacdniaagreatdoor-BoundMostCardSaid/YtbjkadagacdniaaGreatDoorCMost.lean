/- Contracts: bound.Most and the document's Most. -/
import Derived.Test.YtbjkadagacdniaaGreatDoorCConf
import Derived.Test.YtbjkadagacdniaaGreatDoorSl
namespace Go.Proofs.YtbjkadagacdniaaGreatDoor.Ex
open Go

-- OPEN mostC
def mostC (s t f l p : Int) : Int := if rightC s t f l p then 32 * (s + 16) * (s + f + 16) + 32 * (s + t) else 0
def lConf : List (Nat × Sm) := [(11, .ct (ctS gConf fRight)), (12, .ct (ctS gConf fWrong))]
theorem lConf_ok (hm : Tryz.prog.follows .mixedOrders = true) : SmAll Tryz.prog lConf := ⟨smRight hm, smWrong hm, trivial⟩
def fMost (ds : List Da) : Option (Bool × AV) :=
  match ds with
  | [.agg [.v (.y .i64 s), .v (.y .i64 t), .v (.y .i64 f), .v (.y .i64 l), .v (.y .i64 p)]] => some (true, .y .i64 (mostC s t f l p))
  | _ => none
def goalMost1 : Prop := ∀ (s t f l p : Int), wxF Tryz.prog (smL lConf) (fun _ => none) 1000 5 (canA gConf (dConf s t f l p) []).1 (heapOf (canA gConf (dConf s t f l p) []).2) (fun v _ => cmpC (.y .i64 (mostC s t f l p)) v)
def goalMost2 : Prop := ∀ (s t f l p : Int), wxF Tryz.prog (smL lConf) (fun _ => none) 1000 6 (canA gConf (dConf s t f l p) []).1 (heapOf (canA gConf (dConf s t f l p) []).2) (fun v _ => cmpC (.y .i64 (mostC s t f l p)) v)
set_option maxRecDepth 100000 in
theorem goalMost1_eq : goalMost1 = (∀ (s t f l p : Int),
  (true = true →
      (yNot (rightC s t f l p) = true → mostC s t f l p = (0 : Int)) ∧
        (yNot (rightC s t f l p) = false →
          mostC s t f l p =
            yWrap IntKind.i64
              (yAdd
                (yWrap IntKind.i64
                  (yMul (yWrap IntKind.i64 (yMul (32 : Int) (yWrap IntKind.i64 (yAdd s (16 : Int)))))
                    (yWrap IntKind.i64 (yAdd (yWrap IntKind.i64 (yAdd s f)) (16 : Int)))))
                (yWrap IntKind.i64 (yMul (32 : Int) (yWrap IntKind.i64 (yAdd s t))))))) ∧
    (true = false → False)) := by kernel_rfl
set_option maxRecDepth 100000 in
theorem goalMost2_eq : goalMost2 = (∀ (s t f l p : Int),
  (true = true →
      (yLe (0 : Int) (wrongC s t f l p) = true → mostC s t f l p = (0 : Int)) ∧
        (yLe (0 : Int) (wrongC s t f l p) = false →
          mostC s t f l p =
            yWrap IntKind.i64
              (yAdd
                (yWrap IntKind.i64
                  (yAdd
                    (yWrap IntKind.i64
                      (yMul (yWrap IntKind.i64 (yMul (32 : Int) (yWrap IntKind.i64 (yAdd s (16 : Int)))))
                        (yWrap IntKind.i64 (yAdd (yWrap IntKind.i64 (yAdd s (16 : Int))) f))))
                    (yWrap IntKind.i64 (yMul (32 : Int) s))))
                (yWrap IntKind.i64 (yMul (32 : Int) t))))) ∧
    (true = false → False)) := by kernel_rfl
/-- The bound is one number, however it is told, and none that wraps. -/
theorem most_eq {s t f l p : Int} (h : rightC s t f l p = true) : 32 * (s + 16) * (s + 16 + f) + 32 * s + 32 * t = 32 * (s + 16) * (s + f + 16) + 32 * (s + t) := by
  have : s + 16 + f = s + f + 16 := by omega
  rw [this, Int.mul_add 32 s t]; omega
theorem prod_le {a b A B : Int} (ha : 0 ≤ a) (hb : 0 ≤ b) (h1 : a ≤ A) (h2 : b ≤ B) : 0 ≤ a * b ∧ a * b ≤ A * B :=
  ⟨Int.mul_nonneg ha hb, Int.mul_le_mul h1 h2 hb (by omega)⟩
theorem most_ge {s t f l p : Int} : 0 ≤ mostC s t f l p ∧ mostC s t f l p ≤ 100000000 := by
  unfold mostC
  split
  · rename_i h
    rw [rightC_iff] at h
    have := prod_le (a := 32 * (s + 16)) (b := s + f + 16) (A := 32512) (B := 1080) (by omega) (by omega) (by omega) (by omega)
    omega
  · omega
set_option maxRecDepth 100000 in
theorem goalMost1_ok : goalMost1 := by
  refine kernel_go goalMost1_eq ?_
  intro s t f l p
  simp only [yNot_t, yNot_f, yEq_t, yEq_f, yAnd_t, yAnd_f, yOr_t, yOr_f, yIff_t, yIff_f, yLt_t, yLt_f, yLe_t, yLe_f, yIn_t, yIn_f, yNlt_t, yNlt_f, yNle_t, yNle_f, yNeq_t, yNeq_f, yGrow_t, yGrow_f, yInt_e, yNat_e, yNadd_e, yNsub_e, yAdd_e, ySub_e, yMul_e, yCol_int, yCol_bool, true_and, and_true, Nat.zero_add, Nat.add_zero, Nat.le_refl, forall_const, true_implies, Bool.true_eq_false, Bool.false_eq_true, false_implies]
  refine ⟨fun h => ?_, fun h => ?_⟩
  · unfold mostC; rw [h]; rfl
  · have hb := most_ge (s := s) (t := t) (f := f) (l := l) (p := p)
    have h2 := rightC_iff.1 h
    have hp := prod_le (a := 32 * (s + 16)) (b := s + f + 16) (A := 32512) (B := 1080) (by omega) (by omega) (by omega) (by omega)
    rw [wrap64 (n := s + 16) (by omega) (by omega), wrap64 (n := 32 * (s + 16)) (by omega) (by omega), wrap64 (n := s + f) (by omega) (by omega), wrap64 (n := s + f + 16) (by omega) (by omega), wrap64 (n := s + t) (by omega) (by omega), wrap64 (n := 32 * (s + t)) (by omega) (by omega)]
    rw [wrap64 (n := 32 * (s + 16) * (s + f + 16)) (by omega) (by omega), wrap64 (by omega) (by omega)]
    unfold mostC; rw [if_pos h]
theorem wrong_right {s t f l p : Int} : 0 ≤ wrongC s t f l p ↔ rightC s t f l p = false := by
  rw [rightC_off]
  unfold wrongC
  repeat' split
  all_goals omega
set_option maxRecDepth 100000 in
theorem goalMost2_ok : goalMost2 := by
  refine kernel_go goalMost2_eq ?_
  intro s t f l p
  simp only [yNot_t, yNot_f, yEq_t, yEq_f, yAnd_t, yAnd_f, yOr_t, yOr_f, yIff_t, yIff_f, yLt_t, yLt_f, yLe_t, yLe_f, yIn_t, yIn_f, yNlt_t, yNlt_f, yNle_t, yNle_f, yNeq_t, yNeq_f, yGrow_t, yGrow_f, yInt_e, yNat_e, yNadd_e, yNsub_e, yAdd_e, ySub_e, yMul_e, yCol_int, yCol_bool, true_and, and_true, Nat.zero_add, Nat.add_zero, Nat.le_refl, forall_const, true_implies, Bool.true_eq_false, Bool.false_eq_true, false_implies]
  refine ⟨fun h => ?_, fun h => ?_⟩
  · unfold mostC; rw [wrong_right.1 h]; rfl
  · have h : rightC s t f l p = true := by
      cases hr : rightC s t f l p with
      | true => rfl
      | false => have := wrong_right.2 hr; omega
    have hb := most_ge (s := s) (t := t) (f := f) (l := l) (p := p)
    have h2 := rightC_iff.1 h
    have hp := prod_le (a := 32 * (s + 16)) (b := s + 16 + f) (A := 32512) (B := 1080) (by omega) (by omega) (by omega) (by omega)
    rw [wrap64 (n := s + 16) (by omega) (by omega), wrap64 (n := 32 * (s + 16)) (by omega) (by omega), wrap64 (n := s + 16 + f) (by omega) (by omega), wrap64 (n := 32 * s) (by omega) (by omega), wrap64 (n := 32 * t) (by omega) (by omega)]
    rw [wrap64 (n := 32 * (s + 16) * (s + 16 + f)) (by omega) (by omega), wrap64 (n := 32 * (s + 16) * (s + 16 + f) + 32 * s) (by omega) (by omega), wrap64 (by omega) (by omega), most_eq h]
    unfold mostC; rw [if_pos h]
set_option maxRecDepth 100000 in
theorem smMost {f : FuncId} (hm : Tryz.prog.follows .mixedOrders = true) (h : ∀ (s t f1 l p : Int), wxF Tryz.prog (smL lConf) (fun _ => none) 1000 f (canA gConf (dConf s t f1 l p) []).1 (heapOf (canA gConf (dConf s t f1 l p) []).2) (fun v _ => cmpC (.y .i64 (mostC s t f1 l p)) v)) :
    SmCall Tryz.prog f (fun args h => (ctS gConf fMost args h).sel) :=
  ctS_ok hm (smL_ok (lConf_ok hm)) (by decide) (fun ds a hd => by
    unfold fMost at hd
    split at hd
    · simp only [Option.some.injEq, Prod.mk.injEq, true_and] at hd
      subst hd
      exact ⟨_, 1000, h _ _ _ _ _⟩
    · cases hd)
end Go.Proofs.YtbjkadagacdniaaGreatDoor.Ex
