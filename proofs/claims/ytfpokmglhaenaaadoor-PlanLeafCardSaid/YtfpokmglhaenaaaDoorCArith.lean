/- Contracts: version words' turns, by bits and by numbers. -/
import Derived.Test.YtfpokmglhaenaaaDoorBf
import Derived.Test.YtfpokmglhaenaaaDoorSlC
import Derived.Test.YtfpokmglhaenaaaDoorProg
namespace Go.Proofs.YtfpokmglhaenaaaDoor.Ex
open Go

-- OPEN bumpC killC renewC genC
abbrev gW : List Ag := [.cell none]
abbrev dW (w : Int) : List Da := [.cell (.v (.y .u64 w))]
def bumpC (w : Int) : Int := w / 1099511627776 * 1099511627776 + (w / 4 + 1) % 274877906944 * 4 + w / 2 % 2 * 2
def killC (w : Int) : Int := w / 1099511627776 * 1099511627776 + (w / 4 + 1) % 274877906944 * 4 + 2
def inU (w : Int) : Bool := yAnd (yLe 0 w) (yLt w 18446744073709551616)
def fW (F : Int → Int) (ds : List Da) : Option (Bool × AV) :=
  match ds with
  | [.cell (.v (.y .u64 w))] => some (inU w, .y .u64 (F w))
  | _ => none
def gWgoal (P : Program) (f : FuncId) (F : Int → Int) : Prop := ∀ (w : Int), inU w = true → wxF P noSm (fun _ => none) 1000 f (canA gW (dW w) []).1 (heapOf (canA gW (dW w) []).2) (fun v _ => cmpC (.y .u64 (F w)) v)
def goalBump : Prop := gWgoal Tryd.prog 90 bumpC
def goalKill : Prop := gWgoal Tryd.prog 54 killC
def goalBumpR : Prop := gWgoal Tryd.prog 100 bumpC
def goalKillR : Prop := gWgoal Tryd.prog 99 killC
def goalBumpV : Prop := (∀ (w : Int),
  yAnd (yLe (0 : Int) w) (yLt w (18446744073709551616 : Int)) = true →
    (yLe (0 : Int) (2 : Int) = true →
        (yLe (0 : Int) (2 : Int) = true →
            bumpC w =
              yBits BinOp.or IntKind.u64
                (yBits BinOp.andNot IntKind.u64
                  (yBits BinOp.or IntKind.u64 (yBits BinOp.andNot IntKind.u64 w (1099511627772 : Int))
                    (yBits BinOp.and IntKind.u64
                      (yShl IntKind.u64
                        (yWrap IntKind.u64
                          (yAdd (yBits BinOp.and IntKind.u64 (yShr IntKind.u64 w (2 : Int)) (274877906943 : Int))
                            (1 : Int)))
                        (2 : Int))
                      (1099511627772 : Int)))
                  (1 : Int))
                (0 : Int)) ∧
          (yLe (0 : Int) (2 : Int) = false → False)) ∧
      (yLe (0 : Int) (2 : Int) = false → False))
set_option maxRecDepth 100000 in
theorem goalBump_eq : goalBump = goalBumpV := by kernel_rfl
def goalKillV : Prop := (∀ (w : Int),
  yAnd (yLe (0 : Int) w) (yLt w (18446744073709551616 : Int)) = true →
    (yLe (0 : Int) (2 : Int) = true →
        (yLe (0 : Int) (2 : Int) = true →
            killC w =
              yBits BinOp.or IntKind.u64
                (yBits BinOp.andNot IntKind.u64
                  (yBits BinOp.or IntKind.u64
                    (yBits BinOp.andNot IntKind.u64
                      (yBits BinOp.or IntKind.u64 (yBits BinOp.andNot IntKind.u64 w (1099511627772 : Int))
                        (yBits BinOp.and IntKind.u64
                          (yShl IntKind.u64
                            (yWrap IntKind.u64
                              (yAdd (yBits BinOp.and IntKind.u64 (yShr IntKind.u64 w (2 : Int)) (274877906943 : Int))
                                (1 : Int)))
                            (2 : Int))
                          (1099511627772 : Int)))
                      (1 : Int))
                    (0 : Int))
                  (2 : Int))
                (2 : Int)) ∧
          (yLe (0 : Int) (2 : Int) = false → False)) ∧
      (yLe (0 : Int) (2 : Int) = false → False))
set_option maxRecDepth 100000 in
theorem goalKill_eq : goalKill = goalKillV := by kernel_rfl
def goalBumpRV : Prop := (∀ (w : Int),
  yAnd (yLe (0 : Int) w) (yLt w (18446744073709551616 : Int)) = true →
    (yEq (2 : Int) (0 : Int) = true → False) ∧
      (yEq (2 : Int) (0 : Int) = false →
        (yEq (2 : Int) (0 : Int) = true → False) ∧
          (yEq (2 : Int) (0 : Int) = false →
            (yEq (2 : Int) (0 : Int) = true → False) ∧
              (yEq (2 : Int) (0 : Int) = false →
                (yEq (4 : Int) (0 : Int) = true → False) ∧
                  (yEq (4 : Int) (0 : Int) = false →
                    (yEq (274877906944 : Int) (0 : Int) = true → False) ∧
                      (yEq (274877906944 : Int) (0 : Int) = false →
                        (yEq (1099511627776 : Int) (0 : Int) = true → False) ∧
                          (yEq (1099511627776 : Int) (0 : Int) = false →
                            (yEq (16777216 : Int) (0 : Int) = true → False) ∧
                              (yEq (16777216 : Int) (0 : Int) = false →
                                (yEq (274877906944 : Int) (0 : Int) = true → False) ∧
                                  (yEq (274877906944 : Int) (0 : Int) = false →
                                    (yEq (yRem (yQuo IntKind.u64 w (2 : Int)) (2 : Int)) (1 : Int) = true →
                                        bumpC w =
                                          yWrap IntKind.u64
                                            (yAdd
                                              (yWrap IntKind.u64
                                                (yAdd
                                                  (yWrap IntKind.u64
                                                    (yMul
                                                      (yRem (yQuo IntKind.u64 w (1099511627776 : Int)) (16777216 : Int))
                                                      (1099511627776 : Int)))
                                                  (yWrap IntKind.u64
                                                    (yMul
                                                      (yRem
                                                        (yWrap IntKind.u64
                                                          (yAdd
                                                            (yRem (yQuo IntKind.u64 w (4 : Int)) (274877906944 : Int))
                                                            (1 : Int)))
                                                        (274877906944 : Int))
                                                      (4 : Int)))))
                                              (2 : Int))) ∧
                                      (yEq (yRem (yQuo IntKind.u64 w (2 : Int)) (2 : Int)) (1 : Int) = false →
                                        bumpC w =
                                          yWrap IntKind.u64
                                            (yAdd
                                              (yWrap IntKind.u64
                                                (yMul (yRem (yQuo IntKind.u64 w (1099511627776 : Int)) (16777216 : Int))
                                                  (1099511627776 : Int)))
                                              (yWrap IntKind.u64
                                                (yMul
                                                  (yRem
                                                    (yWrap IntKind.u64
                                                      (yAdd (yRem (yQuo IntKind.u64 w (4 : Int)) (274877906944 : Int))
                                                        (1 : Int)))
                                                    (274877906944 : Int))
                                                  (4 : Int))))))))))))))
set_option maxRecDepth 100000 in
theorem goalBumpR_eq : goalBumpR = goalBumpRV := by kernel_rfl
def goalKillRV : Prop := (∀ (w : Int),
  yAnd (yLe (0 : Int) w) (yLt w (18446744073709551616 : Int)) = true →
    (yEq (2 : Int) (0 : Int) = true → False) ∧
      (yEq (2 : Int) (0 : Int) = false →
        (yEq (2 : Int) (0 : Int) = true → False) ∧
          (yEq (2 : Int) (0 : Int) = false →
            (yEq (2 : Int) (0 : Int) = true → False) ∧
              (yEq (2 : Int) (0 : Int) = false →
                (yEq (4 : Int) (0 : Int) = true → False) ∧
                  (yEq (4 : Int) (0 : Int) = false →
                    (yEq (274877906944 : Int) (0 : Int) = true → False) ∧
                      (yEq (274877906944 : Int) (0 : Int) = false →
                        (yEq (1099511627776 : Int) (0 : Int) = true → False) ∧
                          (yEq (1099511627776 : Int) (0 : Int) = false →
                            (yEq (16777216 : Int) (0 : Int) = true → False) ∧
                              (yEq (16777216 : Int) (0 : Int) = false →
                                (yEq (274877906944 : Int) (0 : Int) = true → False) ∧
                                  (yEq (274877906944 : Int) (0 : Int) = false →
                                    killC w =
                                      yWrap IntKind.u64
                                        (yAdd
                                          (yWrap IntKind.u64
                                            (yAdd
                                              (yWrap IntKind.u64
                                                (yMul (yRem (yQuo IntKind.u64 w (1099511627776 : Int)) (16777216 : Int))
                                                  (1099511627776 : Int)))
                                              (yWrap IntKind.u64
                                                (yMul
                                                  (yRem
                                                    (yWrap IntKind.u64
                                                      (yAdd (yRem (yQuo IntKind.u64 w (4 : Int)) (274877906944 : Int))
                                                        (1 : Int)))
                                                    (274877906944 : Int))
                                                  (4 : Int)))))
                                          (2 : Int)))))))))))
set_option maxRecDepth 100000 in
theorem goalKillR_eq : goalKillR = goalKillRV := by kernel_rfl
theorem inU_nat {w : Int} (h : inU w = true) : ∃ n : Nat, w = (n : Int) ∧ n < 18446744073709551616 := by
  simp only [inU, yAnd_t, yLe_t, yLt_t] at h
  exact ⟨w.toNat, by omega, by omega⟩
theorem yWrapN {n : Nat} (h : n < 18446744073709551616) : yWrap .u64 (n : Int) = (n : Int) := wrapU h
theorem counted {w : Nat} (hw : w < 18446744073709551616) : yBits .or .u64 (yBits .andNot .u64 (w : Int) 1099511627772)
    (yBits .and .u64 (yShl .u64 (yWrap .u64 (yAdd (yBits .and .u64 (yShr .u64 (w : Int) 2) 274877906943) 1)) 2) 1099511627772) =
    ((1099511627776 * (w / 1099511627776) + (4 * ((w / 4 % 274877906944 + 1) % 274877906944) + w % 4) : Nat) : Int) := by
  have e0 : yBits .and .u64 (yShr .u64 (w : Int) 2) 274877906943 = ((w / 4 % 274877906944 : Nat) : Int) := field_get (at_ := 2) (n := 38) hw (by omega) (by omega) rfl
  have e : yAdd ((w / 4 % 274877906944 : Nat) : Int) 1 = ((w / 4 % 274877906944 + 1 : Nat) : Int) := rfl
  have hv : w / 4 % 274877906944 + 1 < 18446744073709551616 := by omega
  have e2 : yShl .u64 ((w / 4 % 274877906944 + 1 : Nat) : Int) 2 = (((w / 4 % 274877906944 + 1) * 4 % 18446744073709551616 : Nat) : Int) := shl_u (n := 2) (by omega)
  rw [e0, e, yWrapN hv, e2]
  exact field_put (at_ := 2) (n := 38) hw hv (by omega) rfl rfl
theorem undo {w : Nat} (hw : w < 18446744073709551616) : yBits .or .u64 (yBits .andNot .u64 (w : Int) 1) 0 = ((w / 2 * 2 : Nat) : Int) := by
  have := field_put' (at_ := 0) (n := 1) (v := 0) (M := 1) (S := 0) (R := 0) hw (by omega) (by omega) rfl rfl (by decide +kernel)
  rw [this]; congr 1; omega
theorem dead {w : Nat} (hw : w < 18446744073709551616) : yBits .or .u64 (yBits .andNot .u64 (w : Int) 2) 2 = ((w / 4 * 4 + 2 + w % 2 : Nat) : Int) := by
  have := field_put' (at_ := 1) (n := 1) (v := 1) (M := 2) (S := 2) (R := 2) hw (by omega) (by omega) rfl rfl (by decide +kernel)
  rw [this]; congr 1
  show 4 * (w / 4) + (2 * 1 + w % 2) = _
  omega
theorem ft {p : Prop} (h : p = True) : p := of_eq_true h
set_option maxRecDepth 100000 in
theorem goalBump_vc : goalBumpV := by
  unfold goalBumpV
  intro w h
  obtain ⟨n, rfl, hn⟩ := inU_nat h
  have e1 := counted hn
  have e2 := undo (w := 1099511627776 * (n / 1099511627776) + (4 * ((n / 4 % 274877906944 + 1) % 274877906944) + n % 4)) (by omega)
  rw [e1, e2]
  have hf : bumpC (n : Int) = (((1099511627776 * (n / 1099511627776) + (4 * ((n / 4 % 274877906944 + 1) % 274877906944) + n % 4)) / 2 * 2 : Nat) : Int) := by unfold bumpC; omega
  exact ⟨fun _ => ⟨fun _ => hf, fun e => by cases e⟩, fun e => by cases e⟩
set_option maxRecDepth 100000 in
theorem goalBump_tt : (goalBump) = True := goalBump_eq.trans (eq_true goalBump_vc)
theorem goalBump_ok : goalBump := @ft goalBump goalBump_tt
set_option maxRecDepth 100000 in
theorem goalKill_vc : goalKillV := by
  unfold goalKillV
  intro w h
  obtain ⟨n, rfl, hn⟩ := inU_nat h
  have e1 := counted hn
  have e2 := undo (w := 1099511627776 * (n / 1099511627776) + (4 * ((n / 4 % 274877906944 + 1) % 274877906944) + n % 4)) (by omega)
  have e3 := dead (w := (1099511627776 * (n / 1099511627776) + (4 * ((n / 4 % 274877906944 + 1) % 274877906944) + n % 4)) / 2 * 2) (by omega)
  rw [e1, e2, e3]
  have hf : killC (n : Int) = (((1099511627776 * (n / 1099511627776) + (4 * ((n / 4 % 274877906944 + 1) % 274877906944) + n % 4)) / 2 * 2 / 4 * 4 + 2 + (1099511627776 * (n / 1099511627776) + (4 * ((n / 4 % 274877906944 + 1) % 274877906944) + n % 4)) / 2 * 2 % 2 : Nat) : Int) := by unfold killC; omega
  exact ⟨fun _ => ⟨fun _ => hf, fun e => by cases e⟩, fun e => by cases e⟩
set_option maxRecDepth 100000 in
theorem goalKill_tt : (goalKill) = True := goalKill_eq.trans (eq_true goalKill_vc)
theorem goalKill_ok : goalKill := @ft goalKill goalKill_tt
set_option maxRecDepth 100000 in
theorem goalBumpR_vc : goalBumpRV := by
  unfold goalBumpRV
  intro w h
  obtain ⟨n, rfl, hn⟩ := inU_nat h
  have a1 : yQuo .u64 (n : Int) 2 = ((n / 2 : Nat) : Int) := quo_u (c := 2) hn
  have a2 : yQuo .u64 (n : Int) 4 = ((n / 4 : Nat) : Int) := quo_u (c := 4) hn
  have a3 : yQuo .u64 (n : Int) 1099511627776 = ((n / 1099511627776 : Nat) : Int) := quo_u (c := 1099511627776) hn
  have a4 : yRem ((n / 2 : Nat) : Int) 2 = ((n / 2 % 2 : Nat) : Int) := rem_u (c := 2)
  have a5 : yRem ((n / 4 : Nat) : Int) 274877906944 = ((n / 4 % 274877906944 : Nat) : Int) := rem_u (c := 274877906944)
  have a6 : yRem ((n / 1099511627776 : Nat) : Int) 16777216 = ((n / 1099511627776 % 16777216 : Nat) : Int) := rem_u (c := 16777216)
  have a7 : yWrap .u64 (yAdd ((n / 4 % 274877906944 : Nat) : Int) 1) = ((n / 4 % 274877906944 + 1 : Nat) : Int) := yWrapN (n := n / 4 % 274877906944 + 1) (by omega)
  have a8 : yRem ((n / 4 % 274877906944 + 1 : Nat) : Int) 274877906944 = (((n / 4 % 274877906944 + 1) % 274877906944 : Nat) : Int) := rem_u (c := 274877906944)
  simp only [a1, a2, a3, a4, a5, a6, a7, a8]
  have b1 : yWrap .u64 (yMul ((n / 1099511627776 % 16777216 : Nat) : Int) 1099511627776) = ((n / 1099511627776 % 16777216 * 1099511627776 : Nat) : Int) := yWrapN (n := n / 1099511627776 % 16777216 * 1099511627776) (by omega)
  have b2 : yWrap .u64 (yMul (((n / 4 % 274877906944 + 1) % 274877906944 : Nat) : Int) 4) = (((n / 4 % 274877906944 + 1) % 274877906944 * 4 : Nat) : Int) := yWrapN (n := (n / 4 % 274877906944 + 1) % 274877906944 * 4) (by omega)
  have b3 : yWrap .u64 (yAdd ((n / 1099511627776 % 16777216 * 1099511627776 : Nat) : Int) (((n / 4 % 274877906944 + 1) % 274877906944 * 4 : Nat) : Int)) = ((n / 1099511627776 % 16777216 * 1099511627776 + (n / 4 % 274877906944 + 1) % 274877906944 * 4 : Nat) : Int) := yWrapN (n := n / 1099511627776 % 16777216 * 1099511627776 + (n / 4 % 274877906944 + 1) % 274877906944 * 4) (by omega)
  have b4 : yWrap .u64 (yAdd ((n / 1099511627776 % 16777216 * 1099511627776 + (n / 4 % 274877906944 + 1) % 274877906944 * 4 : Nat) : Int) 2) = ((n / 1099511627776 % 16777216 * 1099511627776 + (n / 4 % 274877906944 + 1) % 274877906944 * 4 + 2 : Nat) : Int) := yWrapN (n := n / 1099511627776 % 16777216 * 1099511627776 + (n / 4 % 274877906944 + 1) % 274877906944 * 4 + 2) (by omega)
  simp only [b1, b2, b3, b4]
  have c1 : (((n / 2 % 2 : Nat) : Int) = 1) → bumpC (n : Int) = ((n / 1099511627776 % 16777216 * 1099511627776 + (n / 4 % 274877906944 + 1) % 274877906944 * 4 + 2 : Nat) : Int) := by unfold bumpC; omega
  have c2 : (((n / 2 % 2 : Nat) : Int) ≠ 1) → bumpC (n : Int) = ((n / 1099511627776 % 16777216 * 1099511627776 + (n / 4 % 274877906944 + 1) % 274877906944 * 4 : Nat) : Int) := by unfold bumpC; omega
  simp only [yNot_t, yNot_f, yEq_t, yEq_f, yAnd_t, yAnd_f, yOr_t, yOr_f, yIff_t, yIff_f, yLt_t, yLt_f, yLe_t, yLe_f, yIn_t, yIn_f, yNlt_t, yNlt_f, yNle_t, yNle_f, yNeq_t, yNeq_f, yGrow_t, yGrow_f, yInt_e, yNat_e, yNadd_e, yNsub_e, yAdd_e, ySub_e, yMul_e, yCol_int, yCol_bool, true_and, and_true, Nat.zero_add, Nat.add_zero, Nat.le_refl, forall_const, true_implies, Bool.true_eq_false, Bool.false_eq_true, false_implies]
  repeat' (first | apply And.intro | intro _)
  all_goals first
    | (exfalso; omega)
    | (clear c1 c2; unfold bumpC; omega)
set_option maxRecDepth 100000 in
theorem goalBumpR_ok : goalBumpR := by
  have h := goalBumpR_eq.trans (eq_true goalBumpR_vc)
  exact of_eq_true h
set_option maxRecDepth 100000 in
theorem goalKillR_vc : goalKillRV := by
  unfold goalKillRV
  intro w h
  obtain ⟨n, rfl, hn⟩ := inU_nat h
  have a1 : yQuo .u64 (n : Int) 2 = ((n / 2 : Nat) : Int) := quo_u (c := 2) hn
  have a2 : yQuo .u64 (n : Int) 4 = ((n / 4 : Nat) : Int) := quo_u (c := 4) hn
  have a3 : yQuo .u64 (n : Int) 1099511627776 = ((n / 1099511627776 : Nat) : Int) := quo_u (c := 1099511627776) hn
  have a4 : yRem ((n / 2 : Nat) : Int) 2 = ((n / 2 % 2 : Nat) : Int) := rem_u (c := 2)
  have a5 : yRem ((n / 4 : Nat) : Int) 274877906944 = ((n / 4 % 274877906944 : Nat) : Int) := rem_u (c := 274877906944)
  have a6 : yRem ((n / 1099511627776 : Nat) : Int) 16777216 = ((n / 1099511627776 % 16777216 : Nat) : Int) := rem_u (c := 16777216)
  have a7 : yWrap .u64 (yAdd ((n / 4 % 274877906944 : Nat) : Int) 1) = ((n / 4 % 274877906944 + 1 : Nat) : Int) := yWrapN (n := n / 4 % 274877906944 + 1) (by omega)
  have a8 : yRem ((n / 4 % 274877906944 + 1 : Nat) : Int) 274877906944 = (((n / 4 % 274877906944 + 1) % 274877906944 : Nat) : Int) := rem_u (c := 274877906944)
  simp only [a1, a2, a3, a4, a5, a6, a7, a8]
  have b1 : yWrap .u64 (yMul ((n / 1099511627776 % 16777216 : Nat) : Int) 1099511627776) = ((n / 1099511627776 % 16777216 * 1099511627776 : Nat) : Int) := yWrapN (n := n / 1099511627776 % 16777216 * 1099511627776) (by omega)
  have b2 : yWrap .u64 (yMul (((n / 4 % 274877906944 + 1) % 274877906944 : Nat) : Int) 4) = (((n / 4 % 274877906944 + 1) % 274877906944 * 4 : Nat) : Int) := yWrapN (n := (n / 4 % 274877906944 + 1) % 274877906944 * 4) (by omega)
  have b3 : yWrap .u64 (yAdd ((n / 1099511627776 % 16777216 * 1099511627776 : Nat) : Int) (((n / 4 % 274877906944 + 1) % 274877906944 * 4 : Nat) : Int)) = ((n / 1099511627776 % 16777216 * 1099511627776 + (n / 4 % 274877906944 + 1) % 274877906944 * 4 : Nat) : Int) := yWrapN (n := n / 1099511627776 % 16777216 * 1099511627776 + (n / 4 % 274877906944 + 1) % 274877906944 * 4) (by omega)
  have b4 : yWrap .u64 (yAdd ((n / 1099511627776 % 16777216 * 1099511627776 + (n / 4 % 274877906944 + 1) % 274877906944 * 4 : Nat) : Int) 2) = ((n / 1099511627776 % 16777216 * 1099511627776 + (n / 4 % 274877906944 + 1) % 274877906944 * 4 + 2 : Nat) : Int) := yWrapN (n := n / 1099511627776 % 16777216 * 1099511627776 + (n / 4 % 274877906944 + 1) % 274877906944 * 4 + 2) (by omega)
  simp only [b1, b2, b3, b4]
  have c1 : killC (n : Int) = ((n / 1099511627776 % 16777216 * 1099511627776 + (n / 4 % 274877906944 + 1) % 274877906944 * 4 + 2 : Nat) : Int) := by unfold killC; omega
  simp only [yNot_t, yNot_f, yEq_t, yEq_f, yAnd_t, yAnd_f, yOr_t, yOr_f, yIff_t, yIff_f, yLt_t, yLt_f, yLe_t, yLe_f, yIn_t, yIn_f, yNlt_t, yNlt_f, yNle_t, yNle_f, yNeq_t, yNeq_f, yGrow_t, yGrow_f, yInt_e, yNat_e, yNadd_e, yNsub_e, yAdd_e, ySub_e, yMul_e, yCol_int, yCol_bool, true_and, and_true, Nat.zero_add, Nat.add_zero, Nat.le_refl, forall_const, true_implies, Bool.true_eq_false, Bool.false_eq_true, false_implies]
  repeat' (first | apply And.intro | intro _)
  all_goals first
    | (exfalso; omega)
    | (clear c1; unfold killC; omega)
set_option maxRecDepth 100000 in
theorem goalKillR_ok : goalKillR := by
  have h := goalKillR_eq.trans (eq_true goalKillR_vc)
  exact of_eq_true h
set_option maxRecDepth 100000 in
theorem smW {f : FuncId} {F : Int → Int} (hm : Tryd.prog.follows .mixedOrders = true) (h : gWgoal Tryd.prog f F) : SmCall Tryd.prog f (fun args h => (ctS gW (fW F) args h).sel) :=
  ctS_ok hm noSm_ok (by decide) (fun ds a hd => by
    unfold fW at hd
    split at hd
    · simp only [Option.some.injEq, Prod.mk.injEq] at hd
      obtain ⟨h1, rfl⟩ := hd
      exact ⟨_, 1000, h _ h1⟩
    · cases hd)
end Go.Proofs.YtfpokmglhaenaaaDoor.Ex
