/- The law ExploreSchedules, walked. -/
import Derived.Test.YtiikiphkhfmlcaaGreatDoorSl
import Derived.Test.YtiikiphkhfmlcaaGreatDoorProg
import Derived.Test.YtiikiphkhfmlcaaGreatDoorWi
noncomputable section
namespace Go.Proofs.YtiikiphkhfmlcaaGreatDoor.Ex
open Go

-- OPEN prSo mSo prSi mSi fI gI gJ
def fI (L S : Int) (a : Int) : Int := if a ≤ L / S then a * S else L + 1
def gI (L W S : Int) (a : Int) (b : Nat) : Int := if (b : Int) ≤ W / S then a * S else fI L S (a + 1)
def gJ (W S : Int) (b : Nat) : Int := if (b : Int) ≤ W / S then b * S else 0
def prSo (L W S : Int) (a : Nat) : Prop := 1 ≤ S ∧ 0 ≤ L ∧ L ≤ 100 ∧ 0 ≤ W ∧ W ≤ 100 ∧ (a : Int) ≤ L / S + 1
def mSo (L S : Int) (a : Nat) : Nat := (L / S + 1 - a).toNat
def prSi (L W S x : Int) (b : Nat) : Prop := 1 ≤ S ∧ 0 ≤ L ∧ L ≤ 100 ∧ 0 ≤ W ∧ W ≤ 100 ∧ 0 ≤ x ∧ x ≤ L / S ∧ (b : Int) ≤ W / S + 1
def mSi (W S : Int) (b : Nat) : Nat := (W / S + 1 - b).toNat
def yOf (s : St) (t : Nat) : Int := match s.tm.get (t + 1) with | some (.y _ n) => n | _ => 0
def annSc (L W S : Int) (b : Nat) : Option (St → LoopA) :=
  match b with
  | 1000 => some fun _ => { ι := Nat, tms := [21], tmU := fun a => [.y .i64 (yInt a)], ids := [4, 5], hpU := fun a => [.cells [.y .i64 (fI L S (yInt a))] 3 none, .cells [.y .i64 0] 3 none], del := [], ex := 0, pre := prSo L W S, ms := mSo L S }
  | 1001 => some fun z => { ι := Nat, tms := [28], tmU := fun a => [.y .i64 (yInt a)], ids := [4, 5], hpU := fun a => [.cells [.y .i64 (gI L W S (yOf z 21) a)] 3 none, .cells [.y .i64 (gJ W S a)] 3 none], del := [], ex := 0, pre := prSi L W S (yOf z 21), ms := mSi W S }
  | _ => none
def lSch : List (Nat × Sm) := [(4, .call (smB true))]
def goalSch : Prop := ∀ (L W S : Int), wxF Tryz.prog (smL lSch) (annSc L W S) 1000 3 [.y .i64 L, .y .i64 W, .y .i64 S] ⟨.lf, 0, 0, []⟩ (fun r _ => cmpC (.yb true) r)
theorem quoN {L S : Int} (h1 : 1 ≤ S) (h2 : 0 ≤ L) (h3 : L ≤ 100) : yQuo .i64 L S = L / S ∧ 0 ≤ L / S ∧ L / S ≤ 100 ∧ L / S * S ≤ L ∧ L < L / S * S + S := by
  have a : 0 ≤ L / S := Int.ediv_nonneg h2 (by omega)
  have b : L / S * S ≤ L := Int.ediv_mul_le L (by omega)
  have c : L < L / S * S + S := by have := Int.lt_ediv_add_one_mul_self L (show 0 < S by omega); rw [Int.add_mul, Int.one_mul] at this; exact this
  have d : L / S ≤ 100 := Int.le_trans (Int.ediv_le_self S h2) h3
  refine ⟨?_, a, d, b, c⟩
  unfold yQuo
  rw [Int.tdiv_eq_ediv_of_nonneg h2]
  exact wrap64 (by omega) (by omega)
theorem mulQ {q S a : Int} (h1 : 1 ≤ S) (h2 : 0 ≤ a) (h3 : a ≤ q) : 0 ≤ a * S ∧ a * S ≤ q * S ∧ (a < q → a * S + S ≤ q * S) := by
  refine ⟨Int.mul_nonneg h2 (by omega), Int.mul_le_mul_of_nonneg_right h3 (by omega), fun h => ?_⟩
  have := Int.mul_le_mul_of_nonneg_right (show a + 1 ≤ q by omega) (show 0 ≤ S by omega)
  rw [Int.add_mul, Int.one_mul] at this; exact this
theorem ft' {p : Prop} (h : p = True) : p := of_eq_true h
def goalSchV : Prop := (∀ (L W S : Int), (yLt (100 : Int) L = true → true = true) ∧ (yLt (100 : Int) L = false → (yLt (100 : Int) W = true → true = true) ∧ (yLt (100 : Int) W = false → (yLt S (1 : Int) = true → (yLt S (1 : Int) = true → true = true) ∧ (yLt S (1 : Int) = false → (yLt L (0 : Int) = true → true = true) ∧ (yLt L (0 : Int) = false → (yLt W (0 : Int) = true → true = true) ∧ (yLt W (0 : Int) = false → (yEq (0 : Int) (yWrap IntKind.i64 (yAdd L (1 : Int))) = true → true = true) ∧ (yEq (0 : Int) (yWrap IntKind.i64 (yAdd L (1 : Int))) = false → true = false))))) ∧ (yLt S (1 : Int) = false → (yLt L (0 : Int) = true → (yLt S (1 : Int) = true → true = true) ∧ (yLt S (1 : Int) = false → (yLt L (0 : Int) = true → true = true) ∧ (yLt L (0 : Int) = false → (yLt W (0 : Int) = true → true = true) ∧ (yLt W (0 : Int) = false → (yEq (0 : Int) (yWrap IntKind.i64 (yAdd L (1 : Int))) = true → true = true) ∧ (yEq (0 : Int) (yWrap IntKind.i64 (yAdd L (1 : Int))) = false → true = false))))) ∧ (yLt L (0 : Int) = false → (yLt W (0 : Int) = true → (yLt S (1 : Int) = true → true = true) ∧ (yLt S (1 : Int) = false → (yLt L (0 : Int) = true → true = true) ∧ (yLt L (0 : Int) = false → (yLt W (0 : Int) = true → true = true) ∧ (yLt W (0 : Int) = false → (yEq (0 : Int) (yWrap IntKind.i64 (yAdd L (1 : Int))) = true → true = true) ∧ (yEq (0 : Int) (yWrap IntKind.i64 (yAdd L (1 : Int))) = false → true = false))))) ∧ (yLt W (0 : Int) = false → (yEq S (0 : Int) = true → False) ∧ (yEq S (0 : Int) = false → true = true ∧ (∃ (i0 : Nat), prSo L W S i0 ∧ true = true ∧ yInt i0 = (0 : Int) ∧ fI L S (yInt i0) = (0 : Int) ∧ (0 : Int) = (0 : Int) ∧ true = true) ∧ ∀ (g : Nat → AV) (i : Nat), prSo L W S i → (yLt (yInt i) (yWrap IntKind.i64 (yAdd (yQuo IntKind.i64 L S) (1 : Int))) = true → (yEq S (0 : Int) = true → False) ∧ (yEq S (0 : Int) = false → true = true ∧ (∃ (i0 : Nat), prSi L W S (yInt i) i0 ∧ true = true ∧ yInt i0 = (0 : Int) ∧ gI L W S (yInt i) i0 = fI L S (yInt i) ∧ gJ W S i0 = (0 : Int) ∧ true = true) ∧ ∀ (g : Nat → AV) (i_1 : Nat), prSi L W S (yInt i) i_1 → (yLt (yInt i_1) (yWrap IntKind.i64 (yAdd (yQuo IntKind.i64 W S) (1 : Int))) = true → (yLt S (1 : Int) = true → true = false) ∧ (yLt S (1 : Int) = false → (yNot (yEq (yWrap IntKind.i64 (yMul (yInt i) S)) (gI L W S (yInt i) i_1)) = true → true = false) ∧ (yNot (yEq (yWrap IntKind.i64 (yMul (yInt i) S)) (gI L W S (yInt i) i_1)) = false → (yNot (yEq (yWrap IntKind.i64 (yMul (yInt i_1) S)) (gJ W S i_1)) = true → true = false) ∧ (yNot (yEq (yWrap IntKind.i64 (yMul (yInt i_1) S)) (gJ W S i_1)) = false → (yLt L (gI L W S (yInt i) i_1) = true → true = false) ∧ (yLt L (gI L W S (yInt i) i_1) = false → (yLt W (gJ W S i_1) = true → true = false) ∧ (yLt W (gJ W S i_1) = false → (yLt (yWrap IntKind.i64 (ySub W (gJ W S i_1))) S = true → (yLt (yWrap IntKind.i64 (ySub L (gI L W S (yInt i) i_1))) S = true → true = true ∧ ∃ (i' : Nat), prSi L W S (yInt i) i' ∧ Nat.succ (mSi W S i') ≤ mSi W S i_1 ∧ true = true ∧ yInt i' = yWrap IntKind.i64 (yAdd (yInt i_1) (1 : Int)) ∧ gI L W S (yInt i) i' = yWrap IntKind.i64 (yAdd L (1 : Int)) ∧ gJ W S i' = (0 : Int) ∧ true = true) ∧ (yLt (yWrap IntKind.i64 (ySub L (gI L W S (yInt i) i_1))) S = false → true = true ∧ ∃ (i' : Nat), prSi L W S (yInt i) i' ∧ Nat.succ (mSi W S i') ≤ mSi W S i_1 ∧ true = true ∧ yInt i' = yWrap IntKind.i64 (yAdd (yInt i_1) (1 : Int)) ∧ gI L W S (yInt i) i' = yWrap IntKind.i64 (yAdd (gI L W S (yInt i) i_1) S) ∧ gJ W S i' = (0 : Int) ∧ true = true)) ∧ (yLt (yWrap IntKind.i64 (ySub W (gJ W S i_1))) S = false → true = true ∧ ∃ (i' : Nat), prSi L W S (yInt i) i' ∧ Nat.succ (mSi W S i') ≤ mSi W S i_1 ∧ true = true ∧ yInt i' = yWrap IntKind.i64 (yAdd (yInt i_1) (1 : Int)) ∧ gI L W S (yInt i) i' = gI L W S (yInt i) i_1 ∧ gJ W S i' = yWrap IntKind.i64 (yAdd (gJ W S i_1) S) ∧ true = true))))))) ∧ (yLt (yInt i_1) (yWrap IntKind.i64 (yAdd (yQuo IntKind.i64 W S) (1 : Int))) = false → true = true ∧ ∃ (i' : Nat), prSo L W S i' ∧ Nat.succ (mSo L S i') ≤ mSo L S i ∧ true = true ∧ yInt i' = yWrap IntKind.i64 (yAdd (yInt i) (1 : Int)) ∧ fI L S (yInt i') = gI L W S (yInt i) i_1 ∧ (0 : Int) = gJ W S i_1 ∧ true = true))) ∧ (yLt (yInt i) (yWrap IntKind.i64 (yAdd (yQuo IntKind.i64 L S) (1 : Int))) = false → (yLt S (1 : Int) = true → (yEq (fI L S (yInt i)) (0 : Int) = true → (yEq (0 : Int) (0 : Int) = true → true = true) ∧ (yEq (0 : Int) (0 : Int) = false → true = false)) ∧ (yEq (fI L S (yInt i)) (0 : Int) = false → true = false)) ∧ (yLt S (1 : Int) = false → (yLt L (0 : Int) = true → (yEq (fI L S (yInt i)) (0 : Int) = true → (yEq (0 : Int) (0 : Int) = true → true = true) ∧ (yEq (0 : Int) (0 : Int) = false → true = false)) ∧ (yEq (fI L S (yInt i)) (0 : Int) = false → true = false)) ∧ (yLt L (0 : Int) = false → (yLt W (0 : Int) = true → (yEq (fI L S (yInt i)) (0 : Int) = true → (yEq (0 : Int) (0 : Int) = true → true = true) ∧ (yEq (0 : Int) (0 : Int) = false → true = false)) ∧ (yEq (fI L S (yInt i)) (0 : Int) = false → true = false)) ∧ (yLt W (0 : Int) = false → (yEq (fI L S (yInt i)) (yWrap IntKind.i64 (yAdd L (1 : Int))) = true → (yEq (0 : Int) (0 : Int) = true → true = true) ∧ (yEq (0 : Int) (0 : Int) = false → true = false)) ∧ (yEq (fI L S (yInt i)) (yWrap IntKind.i64 (yAdd L (1 : Int))) = false → true = false))))))))))))
set_option maxRecDepth 100000 in
theorem goalSch_eq : goalSch = goalSchV := by kernel_rfl
set_option maxRecDepth 100000 in
set_option maxHeartbeats 8000000 in
theorem goalSch_vc : goalSchV := by
  unfold goalSchV
  intro L W S
  simp only [vS, forall_const, forall_const]
  refine ⟨fun _ => trivial, fun hL => ⟨fun _ => trivial, fun hW => ⟨fun h1 => ⟨fun _ => trivial, fun h => by omega⟩, fun hS => ⟨fun h2 => ⟨fun h => by omega, fun _ => ⟨fun _ => trivial, fun h => by omega⟩⟩, fun hL0 => ⟨fun h3 => ⟨fun h => by omega, fun _ => ⟨fun h => by omega, fun _ => ⟨fun _ => trivial, fun h => by omega⟩⟩⟩, fun hW0 => ⟨fun h => by omega, fun _ => ?_⟩⟩⟩⟩⟩⟩
  obtain ⟨l1, l2, l3, l4, l5⟩ := quoN hS hL0 hL
  obtain ⟨w1, w2, w3, w4, w5⟩ := quoN hS hW0 hW
  rw [l1, w1, wrap64 (n := L / S + 1) (by omega) (by omega), wrap64 (n := W / S + 1) (by omega) (by omega), wrap64 (n := L + 1) (by omega) (by omega)]
  have eF : ∀ a : Int, fI L S a = if a ≤ L / S then a * S else L + 1 := fun _ => rfl
  have eG : ∀ (a : Int) (b : Nat), gI L W S a b = if (b : Int) ≤ W / S then a * S else fI L S (a + 1) := fun _ _ => rfl
  have eJ : ∀ (b : Nat), gJ W S b = if (b : Int) ≤ W / S then b * S else 0 := fun _ => rfl
  refine ⟨⟨0, ⟨hS, hL0, hL, hW0, hW, by omega⟩, rfl, by rw [eF, if_pos (by omega)]; simp⟩, fun _ i hi => ⟨fun hlt => ⟨fun h => by omega, fun _ => ⟨⟨0, ⟨hS, hL0, hL, hW0, hW, by omega, by omega, by omega⟩, rfl, ?_, ?_⟩, fun _ b hb => ⟨fun hbl => ?_, fun hbl => ?_⟩⟩⟩, fun hge => ?_⟩⟩
  · rw [eG, if_pos (by omega), eF, if_pos (by omega)]
  · rw [eJ, if_pos (by omega)]; simp
  · obtain ⟨a1, a2, a3⟩ := mulQ (a := (i : Int)) hS (by omega) (show (i : Int) ≤ L / S by omega)
    obtain ⟨b1, b2, b3⟩ := mulQ (a := (b : Int)) hS (by omega) (show (b : Int) ≤ W / S by omega)
    have e1 : gI L W S i b = i * S := by rw [eG, if_pos (by omega)]
    have e2 : gJ W S b = b * S := by rw [eJ, if_pos (by omega)]
    have hm : (mSi W S (b + 1)).succ ≤ mSi W S b := by unfold mSi; omega
    have hp : prSi L W S i (b + 1) := ⟨hS, hL0, hL, hW0, hW, by omega, by omega, by omega⟩
    have hw : (((b + 1 : Nat) : Int)) = yWrap .i64 ((b : Int) + 1) := by rw [wrap64 (by omega) (by omega)]; omega
    rw [e1, e2, wrap64 (n := (i : Int) * S) (by omega) (by omega), wrap64 (n := (b : Int) * S) (by omega) (by omega), wrap64 (n := W - (b : Int) * S) (by omega) (by omega), wrap64 (n := L - (i : Int) * S) (by omega) (by omega)]
    refine ⟨fun h => by omega, fun _ => ⟨fun h => h rfl, fun _ => ⟨fun h => h rfl, fun _ => ⟨fun h => by omega, fun _ => ⟨fun h => by omega, fun _ => ⟨fun h5 => ⟨fun h6 => ?_, fun h6 => ?_⟩, fun h5 => ?_⟩⟩⟩⟩⟩⟩
    · refine ⟨b + 1, hp, hm, hw, ?_, ?_⟩
      · rw [eG, if_neg (fun h => by have := b3 (by omega); omega), eF, if_neg (fun h => by have := a3 (by omega); omega)]
      · rw [eJ, if_neg (fun h => by have := b3 (by omega); omega)]
    · refine ⟨b + 1, hp, hm, hw, ?_, ?_⟩
      · have hlt2 : (i : Int) < L / S := Classical.byContradiction fun h => by
          have : (i : Int) = L / S := by omega
          rw [this] at h6; omega
        rw [eG, if_neg (fun h => by have := b3 (by omega); omega), eF, if_pos (by omega), wrap64 (by have := a3 hlt2; omega) (by have := a3 hlt2; omega), Int.add_mul, Int.one_mul]
      · rw [eJ, if_neg (fun h => by have := b3 (by omega); omega)]
    · have hlt2 : (b : Int) < W / S := Classical.byContradiction fun h => by
        have : (b : Int) = W / S := by omega
        rw [this] at h5; omega
      refine ⟨b + 1, hp, hm, hw, ?_, ?_⟩
      · rw [eG, if_pos (by omega)]
      · rw [eJ, if_pos (by omega), wrap64 (by have := b3 hlt2; omega) (by have := b3 hlt2; omega)]
        show ((b + 1 : Nat) : Int) * S = _
        rw [Int.natCast_add, Int.add_mul]; simp
  · refine ⟨i + 1, ⟨hS, hL0, hL, hW0, hW, by omega⟩, by unfold mSo; omega, by rw [wrap64 (by omega) (by omega)]; omega, ?_, ?_⟩
    · rw [eG, if_neg (by omega)]; congr 1
    · rw [eJ, if_neg (by omega)]
  · have h8 : (i : Int) = L / S + 1 := by have := hi.2.2.2.2.2; omega
    have e3 : fI L S i = L + 1 := by rw [eF, if_neg (by omega)]
    rw [e3]
    refine ⟨fun h => by omega, fun _ => ⟨fun h => by omega, fun _ => ⟨fun h => by omega, fun _ => ?_⟩⟩⟩
    simp
set_option maxRecDepth 100000 in
theorem goalSch_tt : (goalSch) = True := goalSch_eq.trans (eq_true goalSch_vc)
theorem goalSch_ok : goalSch := @ft' goalSch goalSch_tt
end Go.Proofs.YtiikiphkhfmlcaaGreatDoor.Ex
