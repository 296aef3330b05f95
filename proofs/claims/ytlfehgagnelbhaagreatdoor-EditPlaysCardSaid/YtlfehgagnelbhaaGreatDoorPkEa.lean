/- Contracts: config.Right and gleaningref07.Wrong tell which configurations may be, and which number is out of its bounds. Fields of bits, as arithmetic. Contracts: version words' turns, by bits and by numbers. Contracts: where in memory the words of a slot stand. Contracts: arena.Fits and gleaningref10.Fits tell whether a node fits a fan. Contracts: plan.Shrink and gleaningref14.Shrink. Contracts: gleaninglaw14.small, gleaningref14.Same. And the law PlanShrinks, walked. -/
import Derived.Test.YtlfehgagnelbhaaGreatDoorSl
import Derived.Test.YtlfehgagnelbhaaGreatDoorWi
import Derived.Test.YtlfehgagnelbhaaGreatDoorProg
import Derived.Test.YtlfehgagnelbhaaGreatDoorWo
namespace Go.Proofs.YtlfehgagnelbhaaGreatDoor.Ex
open Go

-- OPEN rightC wrongC
def rightC (s t f l p : Int) : Bool := decide (1 ≤ s ∧ s ≤ 1000 ∧ 1 ≤ t ∧ t ≤ 64 ∧ 4 ≤ f ∧ f ≤ 64 ∧ 1 ≤ l ∧ l ≤ 64 ∧ 1 ≤ p ∧ p ≤ 1048576)
def wrongC (s t f l p : Int) : Int := if s < 1 ∨ 1000 < s then 0 else if t < 1 ∨ 64 < t then 1 else if f < 4 ∨ 64 < f then 2 else if l < 1 ∨ 64 < l then 3 else if p < 1 ∨ 1048576 < p then 4 else -1
theorem rightC_iff {s t f l p : Int} : rightC s t f l p = true ↔ (1 ≤ s ∧ s ≤ 1000 ∧ 1 ≤ t ∧ t ≤ 64 ∧ 4 ≤ f ∧ f ≤ 64 ∧ 1 ≤ l ∧ l ≤ 64 ∧ 1 ≤ p ∧ p ≤ 1048576) := decide_eq_true_iff
theorem rightC_off {s t f l p : Int} : rightC s t f l p = false ↔ ¬ (1 ≤ s ∧ s ≤ 1000 ∧ 1 ≤ t ∧ t ≤ 64 ∧ 4 ≤ f ∧ f ≤ 64 ∧ 1 ≤ l ∧ l ≤ 64 ∧ 1 ≤ p ∧ p ≤ 1048576) := decide_eq_false_iff_not
abbrev gConf : List Ag := [.agg [none, none, none, none, none]]
abbrev dConf (s t f l p : Int) : List Da := [.agg [.v (.y .i64 s), .v (.y .i64 t), .v (.y .i64 f), .v (.y .i64 l), .v (.y .i64 p)]]
def fRight (ds : List Da) : Option (Bool × AV) :=
  match ds with
  | [.agg [.v (.y .i64 s), .v (.y .i64 t), .v (.y .i64 f), .v (.y .i64 l), .v (.y .i64 p)]] => some (true, .yb (rightC s t f l p))
  | _ => none
def fWrong (ds : List Da) : Option (Bool × AV) :=
  match ds with
  | [.agg [.v (.y .i64 s), .v (.y .i64 t), .v (.y .i64 f), .v (.y .i64 l), .v (.y .i64 p)]] => some (true, .y .i64 (wrongC s t f l p))
  | _ => none
def goalRight : Prop := ∀ (s t f l p : Int), wxF Tryz.prog noSm (fun _ => none) 1000 41 (canA gConf (dConf s t f l p) []).1 (heapOf (canA gConf (dConf s t f l p) []).2) (fun v _ => cmpC (.yb (rightC s t f l p)) v)
def goalWrong : Prop := ∀ (s t f l p : Int), wxF Tryz.prog noSm (fun _ => none) 1000 10 (canA gConf (dConf s t f l p) []).1 (heapOf (canA gConf (dConf s t f l p) []).2) (fun v _ => cmpC (.y .i64 (wrongC s t f l p)) v)
set_option maxRecDepth 100000 in
theorem goalRight_eq : goalRight = (∀ (s t f l p : Int),
  (yLt s (1 : Int) = true → rightC s t f l p = false) ∧
    (yLt s (1 : Int) = false →
      (yLt (1000 : Int) s = true → rightC s t f l p = false) ∧
        (yLt (1000 : Int) s = false →
          (yLt t (1 : Int) = true → rightC s t f l p = false) ∧
            (yLt t (1 : Int) = false →
              (yLt (64 : Int) t = true → rightC s t f l p = false) ∧
                (yLt (64 : Int) t = false →
                  (yLt f (4 : Int) = true → rightC s t f l p = false) ∧
                    (yLt f (4 : Int) = false →
                      (yLt (64 : Int) f = true → rightC s t f l p = false) ∧
                        (yLt (64 : Int) f = false →
                          (yLt l (1 : Int) = true → rightC s t f l p = false) ∧
                            (yLt l (1 : Int) = false →
                              (yLt (64 : Int) l = true → rightC s t f l p = false) ∧
                                (yLt (64 : Int) l = false →
                                  (yLt p (1 : Int) = true → rightC s t f l p = false) ∧
                                    (yLt p (1 : Int) = false →
                                      (yLt (1048576 : Int) p = true → rightC s t f l p = false) ∧
                                        (yLt (1048576 : Int) p = false → rightC s t f l p = true))))))))))) := by kernel_rfl
set_option maxRecDepth 100000 in
theorem goalRight_ok : goalRight := by
  refine kernel_go goalRight_eq ?_
  intro s t f l p
  simp only [yLt_t, yLt_f, rightC_iff, rightC_off]
  omega
set_option maxRecDepth 100000 in
theorem goalWrong_eq : goalWrong = (∀ (s t f l p : Int),
  (yLt s (1 : Int) = true → wrongC s t f l p = (0 : Int)) ∧
    (yLt s (1 : Int) = false →
      (yLt (1000 : Int) s = true → wrongC s t f l p = (0 : Int)) ∧
        (yLt (1000 : Int) s = false →
          (yLt t (1 : Int) = true → wrongC s t f l p = (1 : Int)) ∧
            (yLt t (1 : Int) = false →
              (yLt (64 : Int) t = true → wrongC s t f l p = (1 : Int)) ∧
                (yLt (64 : Int) t = false →
                  (yLt f (4 : Int) = true → wrongC s t f l p = (2 : Int)) ∧
                    (yLt f (4 : Int) = false →
                      (yLt (64 : Int) f = true → wrongC s t f l p = (2 : Int)) ∧
                        (yLt (64 : Int) f = false →
                          (yLt l (1 : Int) = true → wrongC s t f l p = (3 : Int)) ∧
                            (yLt l (1 : Int) = false →
                              (yLt (64 : Int) l = true → wrongC s t f l p = (3 : Int)) ∧
                                (yLt (64 : Int) l = false →
                                  (yLt p (1 : Int) = true → wrongC s t f l p = (4 : Int)) ∧
                                    (yLt p (1 : Int) = false →
                                      (yLt (1048576 : Int) p = true → wrongC s t f l p = (4 : Int)) ∧
                                        (yLt (1048576 : Int) p = false → wrongC s t f l p = (-1 : Int)))))))))))) := by kernel_rfl
set_option maxRecDepth 100000 in
theorem goalWrong_ok : goalWrong := by
  refine kernel_go goalWrong_eq ?_
  intro s t f l p
  simp only [yLt_t, yLt_f]
  unfold wrongC
  repeat' (first | apply And.intro | intro _)
  all_goals (repeat' split)
  all_goals omega
set_option maxRecDepth 100000 in
theorem smRight (hm : Tryz.prog.follows .mixedOrders = true) : SmCall Tryz.prog 41 (fun args h => (ctS gConf fRight args h).sel) :=
  ctS_ok hm noSm_ok (by decide) (fun ds a h => by
    unfold fRight at h
    split at h
    · simp only [Option.some.injEq, Prod.mk.injEq, true_and] at h
      subst h
      exact ⟨_, 1000, goalRight_ok _ _ _ _ _⟩
    · cases h)
set_option maxRecDepth 100000 in
theorem smWrong (hm : Tryz.prog.follows .mixedOrders = true) : SmCall Tryz.prog 10 (fun args h => (ctS gConf fWrong args h).sel) :=
  ctS_ok hm noSm_ok (by decide) (fun ds a h => by
    unfold fWrong at h
    split at h
    · simp only [Option.some.injEq, Prod.mk.injEq, true_and] at h
      subst h
      exact ⟨_, 1000, goalWrong_ok _ _ _ _ _⟩
    · cases h)
end Go.Proofs.YtlfehgagnelbhaaGreatDoor.Ex
namespace Go.Proofs.YtlfehgagnelbhaaGreatDoor.Ex
open Go

theorem wrapU {n : Nat} (h : n < 18446744073709551616) : IntKind.wrap .u64 (n : Int) = n := wrapU64 (n := (n : Int)) (by omega) (by omega)
theorem bits_and {a b : Nat} (ha : a < 18446744073709551616) (hb : b < 18446744073709551616) : yBits .and .u64 (a : Int) (b : Int) = ((a &&& b : Nat) : Int) := by
  have h : (BitVec.ofNat 64 a &&& BitVec.ofNat 64 b).toNat = a &&& b := by
    rw [BitVec.toNat_and, BitVec.toNat_ofNat, BitVec.toNat_ofNat, Nat.mod_eq_of_lt ha, Nat.mod_eq_of_lt hb]
  show IntKind.wrap .u64 ((BitVec.ofInt 64 (a : Int) &&& BitVec.ofInt 64 (b : Int)).toNat : Int) = _
  rw [BitVec.ofInt_natCast, BitVec.ofInt_natCast, h]
  exact wrapU (Nat.lt_of_le_of_lt Nat.and_le_left ha)
theorem bits_or {a b : Nat} (ha : a < 18446744073709551616) (hb : b < 18446744073709551616) : yBits .or .u64 (a : Int) (b : Int) = ((a ||| b : Nat) : Int) := by
  have h : (BitVec.ofNat 64 a ||| BitVec.ofNat 64 b).toNat = a ||| b := by
    rw [BitVec.toNat_or, BitVec.toNat_ofNat, BitVec.toNat_ofNat, Nat.mod_eq_of_lt ha, Nat.mod_eq_of_lt hb]
  show IntKind.wrap .u64 ((BitVec.ofInt 64 (a : Int) ||| BitVec.ofInt 64 (b : Int)).toNat : Int) = _
  rw [BitVec.ofInt_natCast, BitVec.ofInt_natCast, h]
  exact wrapU (Nat.or_lt_two_pow (n := 64) ha hb)
/-- w with the bits of m struck. -/
theorem bits_not {a b : Nat} (ha : a < 18446744073709551616) (hb : b < 18446744073709551616) : ∃ c : Nat, yBits .andNot .u64 (a : Int) (b : Int) = (c : Int) ∧ c < 18446744073709551616 ∧ ∀ j, c.testBit j = (a.testBit j && !b.testBit j) := by
  refine ⟨(BitVec.ofNat 64 a &&& ~~~BitVec.ofNat 64 b).toNat, ?_, BitVec.isLt _, fun j => ?_⟩
  · show IntKind.wrap .u64 ((BitVec.ofInt 64 (a : Int) &&& ~~~BitVec.ofInt 64 (b : Int)).toNat : Int) = _
    rw [BitVec.ofInt_natCast, BitVec.ofInt_natCast]
    exact wrapU (BitVec.isLt _)
  · rw [BitVec.testBit_toNat]
    by_cases hj : j < 64
    · simp [hj, ← BitVec.getLsbD_eq_getElem, BitVec.getLsbD_ofNat]
    · have hp : 18446744073709551616 ≤ 2 ^ j := Nat.pow_le_pow_right (n := 2) (by omega) (show 64 ≤ j by omega)
      have h1 : a.testBit j = false := Nat.testBit_lt_two_pow (Nat.lt_of_lt_of_le ha hp)
      simp [hj, h1]
theorem mask_bit (at_ n j : Nat) : ((2 ^ n - 1) * 2 ^ at_).testBit j = (decide (at_ ≤ j) && decide (j - at_ < n)) := by
  rw [Nat.mul_comm, Nat.testBit_two_pow_mul, Nat.testBit_two_pow_sub_one]
/-- A field is put. -/
theorem field_put {w v at_ n : Nat} (hw : w < 18446744073709551616) (hv : v < 18446744073709551616) (hn : at_ + n ≤ 64) {M S : Int} (hM : M = (((2 ^ n - 1) * 2 ^ at_ : Nat) : Int)) (hS : S = ((v * 2 ^ at_ % 18446744073709551616 : Nat) : Int)) :
    yBits .or .u64 (yBits .andNot .u64 (w : Int) M) (yBits .and .u64 S M) = ((2 ^ (at_ + n) * (w / 2 ^ (at_ + n)) + (2 ^ at_ * (v % 2 ^ n) + w % 2 ^ at_) : Nat) : Int) := by
  subst hM hS
  have p1 : 2 ^ (at_ + n) ≤ 18446744073709551616 := Nat.pow_le_pow_right (n := 2) (by omega) hn
  have p0 : 0 < 2 ^ at_ := Nat.two_pow_pos _
  have p2 : (2 ^ n - 1) * 2 ^ at_ < 18446744073709551616 := by
    rw [Nat.sub_mul, ← Nat.pow_add, Nat.add_comm n at_]; omega
  obtain ⟨c, e1, e2, e3⟩ := bits_not hw p2
  rw [e1, bits_and (Nat.mod_lt _ (by decide)) p2, bits_or e2 (Nat.lt_of_le_of_lt Nat.and_le_right p2)]
  congr 1
  apply Nat.eq_of_testBit_eq
  intro j
  have q1 : w % 2 ^ at_ < 2 ^ at_ := Nat.mod_lt _ p0
  have q2 : v % 2 ^ n < 2 ^ n := Nat.mod_lt _ (Nat.two_pow_pos _)
  have q3 : 2 ^ at_ * (v % 2 ^ n) + w % 2 ^ at_ < 2 ^ (at_ + n) := by
    rw [Nat.pow_add]
    calc 2 ^ at_ * (v % 2 ^ n) + w % 2 ^ at_ < 2 ^ at_ * (v % 2 ^ n) + 2 ^ at_ := by omega
      _ = 2 ^ at_ * (v % 2 ^ n + 1) := by rw [Nat.mul_add, Nat.mul_one]
      _ ≤ 2 ^ at_ * 2 ^ n := Nat.mul_le_mul_left _ q2
  rw [Nat.testBit_two_pow_mul_add _ q3, Nat.testBit_two_pow_mul_add _ q1, Nat.testBit_or, Nat.testBit_and, e3, mask_bit]
  rw [show (18446744073709551616 : Nat) = 2 ^ 64 from rfl, Nat.testBit_mod_two_pow, Nat.mul_comm v, Nat.testBit_two_pow_mul, Nat.testBit_mod_two_pow, Nat.testBit_mod_two_pow, Nat.testBit_div_two_pow]
  by_cases h1 : j < at_
  · simp [h1, show j < at_ + n by omega, show ¬ at_ ≤ j by omega]
  · by_cases h2 : j < at_ + n
    · simp [h1, h2, show at_ ≤ j by omega, show j - at_ < n by omega, show j < 64 by omega]
    · simp [h1, h2, show at_ ≤ j by omega, show ¬ j - at_ < n by omega, show j - (at_ + n) + (at_ + n) = j by omega]
/-- A field is read. -/
theorem field_get {w at_ n : Nat} (hw : w < 18446744073709551616) (hn : n ≤ 64) (ha : at_ ≤ 64) {M : Int} (hM : M = ((2 ^ n - 1 : Nat) : Int)) : yBits .and .u64 (yShr .u64 (w : Int) (at_ : Int)) M = ((w / 2 ^ at_ % 2 ^ n : Nat) : Int) := by
  subst hM
  have e : yShr .u64 (w : Int) (at_ : Int) = ((w / 2 ^ at_ : Nat) : Int) := by
    unfold yShr
    have : min (Int.toNat (at_ : Int)) (IntKind.bits .u64) = at_ := by
      show min (Int.toNat (at_ : Int)) 64 = at_
      simp; omega
    rw [this]
    have : ((2 : Int) ^ at_) = ((2 ^ at_ : Nat) : Int) := by simp
    rw [this]
    rw [Int.fdiv_eq_ediv_of_nonneg _ (Int.natCast_nonneg _)]
    rfl
  have p1 : 2 ^ n ≤ 18446744073709551616 := Nat.pow_le_pow_right (n := 2) (by omega) hn
  have p3 : 0 < 2 ^ n := Nat.two_pow_pos _
  rw [e, bits_and (Nat.lt_of_le_of_lt (Nat.div_le_self _ _) hw) (by omega), Nat.and_two_pow_sub_one_eq_mod]
theorem field_put' {w v at_ n : Nat} (hw : w < 18446744073709551616) (hv : v < 18446744073709551616) (hn : at_ + n ≤ 64) {M S R : Int} (hM : M = (((2 ^ n - 1) * 2 ^ at_ : Nat) : Int)) (hS : S = ((v * 2 ^ at_ % 18446744073709551616 : Nat) : Int)) (hR : R = yBits .and .u64 S M) :
    yBits .or .u64 (yBits .andNot .u64 (w : Int) M) R = ((2 ^ (at_ + n) * (w / 2 ^ (at_ + n)) + (2 ^ at_ * (v % 2 ^ n) + w % 2 ^ at_) : Nat) : Int) := by
  rw [hR]; exact field_put hw hv hn hM hS
theorem wrap_u64 (x : Int) : IntKind.wrap .u64 x = x % 18446744073709551616 := by
  unfold IntKind.wrap
  have : ((2 : Int) ^ IntKind.bits .u64) = 18446744073709551616 := by decide
  rw [this]; rfl
theorem shl_u {v n : Nat} (hn : n ≤ 64) : yShl .u64 (v : Int) (n : Int) = ((v * 2 ^ n % 18446744073709551616 : Nat) : Int) := by
  unfold yShl
  have h1 : min (Int.toNat (n : Int)) (IntKind.bits .u64) = n := by
    show min (Int.toNat (n : Int)) 64 = n
    simp; omega
  rw [h1]
  have h2 : ((2 : Int) ^ n) = ((2 ^ n : Nat) : Int) := by simp
  rw [h2]
  rw [wrap_u64]
  rfl
theorem quo_u {w c : Nat} (hw : w < 18446744073709551616) : yQuo .u64 (w : Int) (c : Int) = ((w / c : Nat) : Int) := by
  unfold yQuo
  rw [Int.tdiv_eq_ediv_of_nonneg (Int.natCast_nonneg _), ← Int.natCast_ediv]
  exact wrapU (Nat.lt_of_le_of_lt (Nat.div_le_self _ _) hw)
theorem rem_u {w c : Nat} : yRem (w : Int) (c : Int) = ((w % c : Nat) : Int) := by
  unfold yRem
  rw [Int.tmod_eq_emod_of_nonneg (Int.natCast_nonneg _)]; rfl
end Go.Proofs.YtlfehgagnelbhaaGreatDoor.Ex
namespace Go.Proofs.YtlfehgagnelbhaaGreatDoor.Ex
open Go

-- OPEN bumpC killC renewC genC
abbrev gW : List Ag := [.cell none]
abbrev dW (w : Int) : List Da := [.cell (.v (.y .u64 w))]
def bumpC (w : Int) : Int := w / 1099511627776 * 1099511627776 + (w / 4 + 1) % 274877906944 * 4 + w / 2 % 2 * 2
def killC (w : Int) : Int := w / 1099511627776 * 1099511627776 + (w / 4 + 1) % 274877906944 * 4 + 2
def inU (w : Int) : Bool := yAnd (yLe 0 w) (yLt w 18446744073709551616)
def fW (F : Int → Int) (ds : List Da) : Option (Bool × AV) :=
  match ds with
  | [.cell (.v (.y .u64 w))] => some (inU w, .y .u64 (F w))
  | _ => none
def gWgoal (P : Program) (f : FuncId) (F : Int → Int) : Prop := ∀ (w : Int), inU w = true → wxF P noSm (fun _ => none) 1000 f (canA gW (dW w) []).1 (heapOf (canA gW (dW w) []).2) (fun v _ => cmpC (.y .u64 (F w)) v)
def goalBump : Prop := gWgoal Tryz.prog 109 bumpC
def goalBumpR : Prop := gWgoal Tryz.prog 36 bumpC
def goalBumpV : Prop := (∀ (w : Int),
  yAnd (yLe (0 : Int) w) (yLt w (18446744073709551616 : Int)) = true →
    (yLe (0 : Int) (2 : Int) = true →
        (yLe (0 : Int) (2 : Int) = true →
            bumpC w =
              yBits BinOp.or IntKind.u64
                (yBits BinOp.andNot IntKind.u64
                  (yBits BinOp.or IntKind.u64 (yBits BinOp.andNot IntKind.u64 w (1099511627772 : Int))
                    (yBits BinOp.and IntKind.u64
                      (yShl IntKind.u64
                        (yWrap IntKind.u64
                          (yAdd (yBits BinOp.and IntKind.u64 (yShr IntKind.u64 w (2 : Int)) (274877906943 : Int))
                            (1 : Int)))
                        (2 : Int))
                      (1099511627772 : Int)))
                  (1 : Int))
                (0 : Int)) ∧
          (yLe (0 : Int) (2 : Int) = false → False)) ∧
      (yLe (0 : Int) (2 : Int) = false → False))
set_option maxRecDepth 100000 in
theorem goalBump_eq : goalBump = goalBumpV := by kernel_rfl
def goalBumpRV : Prop := (∀ (w : Int),
  yAnd (yLe (0 : Int) w) (yLt w (18446744073709551616 : Int)) = true →
    (yEq (2 : Int) (0 : Int) = true → False) ∧
      (yEq (2 : Int) (0 : Int) = false →
        (yEq (2 : Int) (0 : Int) = true → False) ∧
          (yEq (2 : Int) (0 : Int) = false →
            (yEq (2 : Int) (0 : Int) = true → False) ∧
              (yEq (2 : Int) (0 : Int) = false →
                (yEq (4 : Int) (0 : Int) = true → False) ∧
                  (yEq (4 : Int) (0 : Int) = false →
                    (yEq (274877906944 : Int) (0 : Int) = true → False) ∧
                      (yEq (274877906944 : Int) (0 : Int) = false →
                        (yEq (1099511627776 : Int) (0 : Int) = true → False) ∧
                          (yEq (1099511627776 : Int) (0 : Int) = false →
                            (yEq (16777216 : Int) (0 : Int) = true → False) ∧
                              (yEq (16777216 : Int) (0 : Int) = false →
                                (yEq (274877906944 : Int) (0 : Int) = true → False) ∧
                                  (yEq (274877906944 : Int) (0 : Int) = false →
                                    (yEq (yRem (yQuo IntKind.u64 w (2 : Int)) (2 : Int)) (1 : Int) = true →
                                        bumpC w =
                                          yWrap IntKind.u64
                                            (yAdd
                                              (yWrap IntKind.u64
                                                (yAdd
                                                  (yWrap IntKind.u64
                                                    (yMul
                                                      (yRem (yQuo IntKind.u64 w (1099511627776 : Int)) (16777216 : Int))
                                                      (1099511627776 : Int)))
                                                  (yWrap IntKind.u64
                                                    (yMul
                                                      (yRem
                                                        (yWrap IntKind.u64
                                                          (yAdd
                                                            (yRem (yQuo IntKind.u64 w (4 : Int)) (274877906944 : Int))
                                                            (1 : Int)))
                                                        (274877906944 : Int))
                                                      (4 : Int)))))
                                              (2 : Int))) ∧
                                      (yEq (yRem (yQuo IntKind.u64 w (2 : Int)) (2 : Int)) (1 : Int) = false →
                                        bumpC w =
                                          yWrap IntKind.u64
                                            (yAdd
                                              (yWrap IntKind.u64
                                                (yMul (yRem (yQuo IntKind.u64 w (1099511627776 : Int)) (16777216 : Int))
                                                  (1099511627776 : Int)))
                                              (yWrap IntKind.u64
                                                (yMul
                                                  (yRem
                                                    (yWrap IntKind.u64
                                                      (yAdd (yRem (yQuo IntKind.u64 w (4 : Int)) (274877906944 : Int))
                                                        (1 : Int)))
                                                    (274877906944 : Int))
                                                  (4 : Int))))))))))))))
set_option maxRecDepth 100000 in
theorem goalBumpR_eq : goalBumpR = goalBumpRV := by kernel_rfl
theorem inU_nat {w : Int} (h : inU w = true) : ∃ n : Nat, w = (n : Int) ∧ n < 18446744073709551616 := by
  simp only [inU, yAnd_t, yLe_t, yLt_t] at h
  exact ⟨w.toNat, by omega, by omega⟩
theorem yWrapN {n : Nat} (h : n < 18446744073709551616) : yWrap .u64 (n : Int) = (n : Int) := wrapU h
theorem counted {w : Nat} (hw : w < 18446744073709551616) : yBits .or .u64 (yBits .andNot .u64 (w : Int) 1099511627772)
    (yBits .and .u64 (yShl .u64 (yWrap .u64 (yAdd (yBits .and .u64 (yShr .u64 (w : Int) 2) 274877906943) 1)) 2) 1099511627772) =
    ((1099511627776 * (w / 1099511627776) + (4 * ((w / 4 % 274877906944 + 1) % 274877906944) + w % 4) : Nat) : Int) := by
  have e0 : yBits .and .u64 (yShr .u64 (w : Int) 2) 274877906943 = ((w / 4 % 274877906944 : Nat) : Int) := field_get (at_ := 2) (n := 38) hw (by omega) (by omega) rfl
  have e : yAdd ((w / 4 % 274877906944 : Nat) : Int) 1 = ((w / 4 % 274877906944 + 1 : Nat) : Int) := rfl
  have hv : w / 4 % 274877906944 + 1 < 18446744073709551616 := by omega
  have e2 : yShl .u64 ((w / 4 % 274877906944 + 1 : Nat) : Int) 2 = (((w / 4 % 274877906944 + 1) * 4 % 18446744073709551616 : Nat) : Int) := shl_u (n := 2) (by omega)
  rw [e0, e, yWrapN hv, e2]
  exact field_put (at_ := 2) (n := 38) hw hv (by omega) rfl rfl
theorem undo {w : Nat} (hw : w < 18446744073709551616) : yBits .or .u64 (yBits .andNot .u64 (w : Int) 1) 0 = ((w / 2 * 2 : Nat) : Int) := by
  have := field_put' (at_ := 0) (n := 1) (v := 0) (M := 1) (S := 0) (R := 0) hw (by omega) (by omega) rfl rfl (by decide +kernel)
  rw [this]; congr 1; omega
theorem dead {w : Nat} (hw : w < 18446744073709551616) : yBits .or .u64 (yBits .andNot .u64 (w : Int) 2) 2 = ((w / 4 * 4 + 2 + w % 2 : Nat) : Int) := by
  have := field_put' (at_ := 1) (n := 1) (v := 1) (M := 2) (S := 2) (R := 2) hw (by omega) (by omega) rfl rfl (by decide +kernel)
  rw [this]; congr 1
  show 4 * (w / 4) + (2 * 1 + w % 2) = _
  omega
theorem ft {p : Prop} (h : p = True) : p := of_eq_true h
set_option maxRecDepth 100000 in
theorem goalBump_vc : goalBumpV := by
  unfold goalBumpV
  intro w h
  obtain ⟨n, rfl, hn⟩ := inU_nat h
  have e1 := counted hn
  have e2 := undo (w := 1099511627776 * (n / 1099511627776) + (4 * ((n / 4 % 274877906944 + 1) % 274877906944) + n % 4)) (by omega)
  rw [e1, e2]
  have hf : bumpC (n : Int) = (((1099511627776 * (n / 1099511627776) + (4 * ((n / 4 % 274877906944 + 1) % 274877906944) + n % 4)) / 2 * 2 : Nat) : Int) := by unfold bumpC; omega
  exact ⟨fun _ => ⟨fun _ => hf, fun e => by cases e⟩, fun e => by cases e⟩
set_option maxRecDepth 100000 in
theorem goalBump_tt : (goalBump) = True := goalBump_eq.trans (eq_true goalBump_vc)
theorem goalBump_ok : goalBump := @ft goalBump goalBump_tt
set_option maxRecDepth 100000 in
theorem goalBumpR_vc : goalBumpRV := by
  unfold goalBumpRV
  intro w h
  obtain ⟨n, rfl, hn⟩ := inU_nat h
  have a1 : yQuo .u64 (n : Int) 2 = ((n / 2 : Nat) : Int) := quo_u (c := 2) hn
  have a2 : yQuo .u64 (n : Int) 4 = ((n / 4 : Nat) : Int) := quo_u (c := 4) hn
  have a3 : yQuo .u64 (n : Int) 1099511627776 = ((n / 1099511627776 : Nat) : Int) := quo_u (c := 1099511627776) hn
  have a4 : yRem ((n / 2 : Nat) : Int) 2 = ((n / 2 % 2 : Nat) : Int) := rem_u (c := 2)
  have a5 : yRem ((n / 4 : Nat) : Int) 274877906944 = ((n / 4 % 274877906944 : Nat) : Int) := rem_u (c := 274877906944)
  have a6 : yRem ((n / 1099511627776 : Nat) : Int) 16777216 = ((n / 1099511627776 % 16777216 : Nat) : Int) := rem_u (c := 16777216)
  have a7 : yWrap .u64 (yAdd ((n / 4 % 274877906944 : Nat) : Int) 1) = ((n / 4 % 274877906944 + 1 : Nat) : Int) := yWrapN (n := n / 4 % 274877906944 + 1) (by omega)
  have a8 : yRem ((n / 4 % 274877906944 + 1 : Nat) : Int) 274877906944 = (((n / 4 % 274877906944 + 1) % 274877906944 : Nat) : Int) := rem_u (c := 274877906944)
  simp only [a1, a2, a3, a4, a5, a6, a7, a8]
  have b1 : yWrap .u64 (yMul ((n / 1099511627776 % 16777216 : Nat) : Int) 1099511627776) = ((n / 1099511627776 % 16777216 * 1099511627776 : Nat) : Int) := yWrapN (n := n / 1099511627776 % 16777216 * 1099511627776) (by omega)
  have b2 : yWrap .u64 (yMul (((n / 4 % 274877906944 + 1) % 274877906944 : Nat) : Int) 4) = (((n / 4 % 274877906944 + 1) % 274877906944 * 4 : Nat) : Int) := yWrapN (n := (n / 4 % 274877906944 + 1) % 274877906944 * 4) (by omega)
  have b3 : yWrap .u64 (yAdd ((n / 1099511627776 % 16777216 * 1099511627776 : Nat) : Int) (((n / 4 % 274877906944 + 1) % 274877906944 * 4 : Nat) : Int)) = ((n / 1099511627776 % 16777216 * 1099511627776 + (n / 4 % 274877906944 + 1) % 274877906944 * 4 : Nat) : Int) := yWrapN (n := n / 1099511627776 % 16777216 * 1099511627776 + (n / 4 % 274877906944 + 1) % 274877906944 * 4) (by omega)
  have b4 : yWrap .u64 (yAdd ((n / 1099511627776 % 16777216 * 1099511627776 + (n / 4 % 274877906944 + 1) % 274877906944 * 4 : Nat) : Int) 2) = ((n / 1099511627776 % 16777216 * 1099511627776 + (n / 4 % 274877906944 + 1) % 274877906944 * 4 + 2 : Nat) : Int) := yWrapN (n := n / 1099511627776 % 16777216 * 1099511627776 + (n / 4 % 274877906944 + 1) % 274877906944 * 4 + 2) (by omega)
  simp only [b1, b2, b3, b4]
  have c1 : (((n / 2 % 2 : Nat) : Int) = 1) → bumpC (n : Int) = ((n / 1099511627776 % 16777216 * 1099511627776 + (n / 4 % 274877906944 + 1) % 274877906944 * 4 + 2 : Nat) : Int) := by unfold bumpC; omega
  have c2 : (((n / 2 % 2 : Nat) : Int) ≠ 1) → bumpC (n : Int) = ((n / 1099511627776 % 16777216 * 1099511627776 + (n / 4 % 274877906944 + 1) % 274877906944 * 4 : Nat) : Int) := by unfold bumpC; omega
  simp only [yEq_t, yEq_f]
  repeat' (first | apply And.intro | intro _)
  all_goals first
    | (exfalso; omega)
    | (clear c1 c2; unfold bumpC; omega)
set_option maxRecDepth 100000 in
theorem goalBumpR_ok : goalBumpR := by
  have h := goalBumpR_eq.trans (eq_true goalBumpR_vc)
  exact of_eq_true h
set_option maxRecDepth 100000 in
theorem smW {f : FuncId} {F : Int → Int} (hm : Tryz.prog.follows .mixedOrders = true) (h : gWgoal Tryz.prog f F) : SmCall Tryz.prog f (fun args h => (ctS gW (fW F) args h).sel) :=
  ctS_ok hm noSm_ok (by decide) (fun ds a hd => by
    unfold fW at hd
    split at hd
    · simp only [Option.some.injEq, Prod.mk.injEq] at hd
      obtain ⟨h1, rfl⟩ := hd
      exact ⟨_, 1000, h _ h1⟩
    · cases hd)
end Go.Proofs.YtlfehgagnelbhaaGreatDoor.Ex
namespace Go.Proofs.YtlfehgagnelbhaaGreatDoor.Ex
open Go

-- OPEN nodeC verC shapeC keyC valC
def nodeC (t f slot : Int) : Int := 3 + 3 * t + slot * (3 + 2 * f)
def verC (s t f slot : Int) : Int := if 0 ≤ slot ∧ slot ≤ s then nodeC t f slot else -1
def shapeC (s t f slot : Int) : Int := if 0 ≤ slot ∧ slot ≤ s then nodeC t f slot + 1 else -1
def keyC (s t f slot i : Int) : Int := if (0 ≤ slot ∧ slot ≤ s) ∧ 0 ≤ i ∧ i < f then nodeC t f slot + 3 + i else -1
def valC (s t f slot i : Int) : Int := if (0 ≤ slot ∧ slot ≤ s) ∧ 0 ≤ i ∧ i < f then nodeC t f slot + 3 + f + i else -1
abbrev gL1 : List Ag := [.agg [none, none, none, none, none], .cell none]
abbrev gL2 : List Ag := [.agg [none, none, none, none, none], .cell none, .cell none]
abbrev dL1 (s t f l p slot : Int) : List Da := [.agg [.v (.y .i64 s), .v (.y .i64 t), .v (.y .i64 f), .v (.y .i64 l), .v (.y .i64 p)], .cell (.v (.y .i64 slot))]
abbrev dL2 (s t f l p slot i : Int) : List Da := [.agg [.v (.y .i64 s), .v (.y .i64 t), .v (.y .i64 f), .v (.y .i64 l), .v (.y .i64 p)], .cell (.v (.y .i64 slot)), .cell (.v (.y .i64 i))]
def fL1 (F : Int → Int → Int → Int → Int) (ds : List Da) : Option (Bool × AV) :=
  match ds with
  | [.agg [.v (.y .i64 s), .v (.y .i64 t), .v (.y .i64 f), .v (.y .i64 l), .v (.y .i64 p)], .cell (.v (.y .i64 slot))] => some (rightC s t f l p, .y .i64 (F s t f slot))
  | _ => none
def fL2 (F : Int → Int → Int → Int → Int → Int) (ds : List Da) : Option (Bool × AV) :=
  match ds with
  | [.agg [.v (.y .i64 s), .v (.y .i64 t), .v (.y .i64 f), .v (.y .i64 l), .v (.y .i64 p)], .cell (.v (.y .i64 slot)), .cell (.v (.y .i64 i))] => some (rightC s t f l p, .y .i64 (F s t f slot i))
  | _ => none
/-- The document's: of a slot that there is, and an entry that there may be. -/
def fR1 (F : Int → Int → Int → Int → Int) (ds : List Da) : Option (Bool × AV) :=
  match ds with
  | [.agg [.v (.y .i64 s), .v (.y .i64 t), .v (.y .i64 f), .v (.y .i64 l), .v (.y .i64 p)], .cell (.v (.y .i64 slot))] => some (yAnd (rightC s t f l p) (yAnd (yLe 0 slot) (yLe slot s)), .y .i64 (F s t f slot))
  | _ => none
def fR2 (F : Int → Int → Int → Int → Int → Int) (ds : List Da) : Option (Bool × AV) :=
  match ds with
  | [.agg [.v (.y .i64 s), .v (.y .i64 t), .v (.y .i64 f), .v (.y .i64 l), .v (.y .i64 p)], .cell (.v (.y .i64 slot)), .cell (.v (.y .i64 i))] => some (yAnd (yAnd (rightC s t f l p) (yAnd (yLe 0 slot) (yLe slot s))) (yAnd (yLe 0 i) (yLt i f)), .y .i64 (F s t f slot i))
  | _ => none
def gL1goal (P : Program) (f0 : FuncId) (F : Int → Int → Int → Int → Int) : Prop := ∀ (s t f l p slot : Int), rightC s t f l p = true → wxF P noSm (fun _ => none) 1000 f0 (canA gL1 (dL1 s t f l p slot) []).1 (heapOf (canA gL1 (dL1 s t f l p slot) []).2) (fun v _ => cmpC (.y .i64 (F s t f slot)) v)
def gL2goal (P : Program) (f0 : FuncId) (F : Int → Int → Int → Int → Int → Int) : Prop := ∀ (s t f l p slot i : Int), rightC s t f l p = true → wxF P noSm (fun _ => none) 1000 f0 (canA gL2 (dL2 s t f l p slot i) []).1 (heapOf (canA gL2 (dL2 s t f l p slot i) []).2) (fun v _ => cmpC (.y .i64 (F s t f slot i)) v)
def gR1goal (P : Program) (f0 : FuncId) (F : Int → Int → Int → Int → Int) : Prop := ∀ (s t f l p slot : Int), yAnd (rightC s t f l p) (yAnd (yLe 0 slot) (yLe slot s)) = true → wxF P noSm (fun _ => none) 1000 f0 (canA gL1 (dL1 s t f l p slot) []).1 (heapOf (canA gL1 (dL1 s t f l p slot) []).2) (fun v _ => cmpC (.y .i64 (F s t f slot)) v)
def gR2goal (P : Program) (f0 : FuncId) (F : Int → Int → Int → Int → Int → Int) : Prop := ∀ (s t f l p slot i : Int), yAnd (yAnd (rightC s t f l p) (yAnd (yLe 0 slot) (yLe slot s))) (yAnd (yLe 0 i) (yLt i f)) = true → wxF P noSm (fun _ => none) 1000 f0 (canA gL2 (dL2 s t f l p slot i) []).1 (heapOf (canA gL2 (dL2 s t f l p slot i) []).2) (fun v _ => cmpC (.y .i64 (F s t f slot i)) v)
def goalVer : Prop := gL1goal Tryz.prog 44 verC
def goalShp : Prop := gL1goal Tryz.prog 126 shapeC
def goalKey : Prop := gL2goal Tryz.prog 47 keyC
def goalVal : Prop := gL2goal Tryz.prog 48 valC
def goalVerR : Prop := gR1goal Tryz.prog 27 verC
def goalShpR : Prop := gR1goal Tryz.prog 56 shapeC
def goalKeyR : Prop := gR2goal Tryz.prog 50 keyC
def goalValR : Prop := gR2goal Tryz.prog 38 valC
theorem ft' {p : Prop} (h : p = True) : p := of_eq_true h
theorem prod_le' {a b A B : Int} (ha : 0 ≤ a) (hb : 0 ≤ b) (h1 : a ≤ A) (h2 : b ≤ B) : 0 ≤ a * b ∧ a * b ≤ A * B :=
  ⟨Int.mul_nonneg ha hb, Int.mul_le_mul h1 h2 hb (by omega)⟩
theorem lay_prod {s t f l p slot : Int} (h : rightC s t f l p = true) : 0 ≤ slot → slot ≤ s → 0 ≤ slot * (3 + 2 * f) ∧ slot * (3 + 2 * f) ≤ 131000 := fun h1 h2 => by
  have := rightC_iff.1 h
  exact prod_le' (A := 1000) (B := 131) h1 (by omega) (by omega) (by omega)
def goalVerV : Prop := (∀ (s t f l p slot : Int),
  rightC s t f l p = true →
    (yAnd (yEq s (0 : Int))
            (yAnd (yEq t (0 : Int)) (yAnd (yEq f (0 : Int)) (yAnd (yEq l (0 : Int)) (yAnd (yEq p (0 : Int)) true)))) =
          true →
        verC s t f slot = (-1 : Int)) ∧
      (yAnd (yEq s (0 : Int))
            (yAnd (yEq t (0 : Int)) (yAnd (yEq f (0 : Int)) (yAnd (yEq l (0 : Int)) (yAnd (yEq p (0 : Int)) true)))) =
          false →
        (yLe (0 : Int) slot = true →
            (yNot (yLt slot (yWrap IntKind.i64 (yAdd s (1 : Int)))) = true → verC s t f slot = (-1 : Int)) ∧
              (yNot (yLt slot (yWrap IntKind.i64 (yAdd s (1 : Int)))) = false →
                verC s t f slot =
                  yWrap IntKind.i64
                    (yAdd
                      (yWrap IntKind.i64
                        (yAdd
                          (yWrap IntKind.i64
                            (yAdd
                              (yWrap IntKind.i64
                                (yAdd (yWrap IntKind.i64 (yAdd (3 : Int) t)) (yWrap IntKind.i64 (yMul (2 : Int) t))))
                              (yWrap IntKind.i64
                                (yMul slot
                                  (yWrap IntKind.i64 (yAdd (3 : Int) (yWrap IntKind.i64 (yMul (2 : Int) f))))))))
                          (0 : Int)))
                      (0 : Int)))) ∧
          (yLe (0 : Int) slot = false → verC s t f slot = (-1 : Int))))
set_option maxRecDepth 100000 in
theorem goalVer_eq : goalVer = goalVerV := by kernel_rfl
set_option maxRecDepth 100000 in
theorem goalVer_vc : goalVerV := by
  unfold goalVerV
  intro s t f l p slot hr
  have h := rightC_iff.1 hr
  have hp := lay_prod (slot := slot) hr
  clear hr
  simp only [yNot_t, yNot_f, yEq_t, yEq_f, yAnd_t, yAnd_f, yLt_t, yLt_f, yLe_t, yLe_f, yAdd_e, yMul_e, and_true, Bool.true_eq_false]
  unfold verC nodeC
  repeat' (first | apply And.intro | intro _)
  all_goals (try simp (disch := omega) only [wrap64] at *)
  all_goals (try (have hq := hp (by omega) (by omega); clear hp; simp (disch := omega) only [wrap64]))
  all_goals (try split)
  all_goals omega
set_option maxRecDepth 100000 in
theorem goalVer_tt : (goalVer) = True := goalVer_eq.trans (eq_true goalVer_vc)
theorem goalVer_ok : goalVer := @ft' goalVer goalVer_tt
def goalVerRV : Prop := (∀ (s t f l p slot : Int),
  yAnd (rightC s t f l p) (yAnd (yLe (0 : Int) slot) (yLe slot s)) = true →
    verC s t f slot =
      yWrap IntKind.i64
        (yAdd (yWrap IntKind.i64 (yAdd (3 : Int) (yWrap IntKind.i64 (yMul (3 : Int) t))))
          (yWrap IntKind.i64 (yMul slot (yWrap IntKind.i64 (yAdd (3 : Int) (yWrap IntKind.i64 (yMul (2 : Int) f))))))))
set_option maxRecDepth 100000 in
theorem goalVerR_eq : goalVerR = goalVerRV := by kernel_rfl
set_option maxRecDepth 100000 in
theorem goalVerR_vc : goalVerRV := by
  unfold goalVerRV
  intro s t f l p slot hr
  simp only [yAnd_t, yLe_t] at hr
  have h := rightC_iff.1 hr.1
  have hp := lay_prod (slot := slot) hr.1
  have hr2 := hr.2
  have hr3 := hr.1
  simp only [yAdd_e, yMul_e]
  unfold verC nodeC
  repeat' (first | apply And.intro | intro _)
  all_goals (try simp (disch := omega) only [wrap64] at *)
  all_goals (try (have hq := hp (by omega) (by omega); clear hp; simp (disch := omega) only [wrap64]))
  all_goals (try split)
  all_goals omega
set_option maxRecDepth 100000 in
theorem goalVerR_tt : (goalVerR) = True := goalVerR_eq.trans (eq_true goalVerR_vc)
theorem goalVerR_ok : goalVerR := @ft' goalVerR goalVerR_tt
def goalShpV : Prop := (∀ (s t f l p slot : Int),
  rightC s t f l p = true →
    (yAnd (yEq s (0 : Int))
            (yAnd (yEq t (0 : Int)) (yAnd (yEq f (0 : Int)) (yAnd (yEq l (0 : Int)) (yAnd (yEq p (0 : Int)) true)))) =
          true →
        shapeC s t f slot = (-1 : Int)) ∧
      (yAnd (yEq s (0 : Int))
            (yAnd (yEq t (0 : Int)) (yAnd (yEq f (0 : Int)) (yAnd (yEq l (0 : Int)) (yAnd (yEq p (0 : Int)) true)))) =
          false →
        (yLe (0 : Int) slot = true →
            (yNot (yLt slot (yWrap IntKind.i64 (yAdd s (1 : Int)))) = true → shapeC s t f slot = (-1 : Int)) ∧
              (yNot (yLt slot (yWrap IntKind.i64 (yAdd s (1 : Int)))) = false →
                shapeC s t f slot =
                  yWrap IntKind.i64
                    (yAdd
                      (yWrap IntKind.i64
                        (yAdd
                          (yWrap IntKind.i64
                            (yAdd
                              (yWrap IntKind.i64
                                (yAdd (yWrap IntKind.i64 (yAdd (3 : Int) t)) (yWrap IntKind.i64 (yMul (2 : Int) t))))
                              (yWrap IntKind.i64
                                (yMul slot
                                  (yWrap IntKind.i64 (yAdd (3 : Int) (yWrap IntKind.i64 (yMul (2 : Int) f))))))))
                          (1 : Int)))
                      (0 : Int)))) ∧
          (yLe (0 : Int) slot = false → shapeC s t f slot = (-1 : Int))))
set_option maxRecDepth 100000 in
theorem goalShp_eq : goalShp = goalShpV := by kernel_rfl
set_option maxRecDepth 100000 in
theorem goalShp_vc : goalShpV := by
  unfold goalShpV
  intro s t f l p slot hr
  have h := rightC_iff.1 hr
  have hp := lay_prod (slot := slot) hr
  clear hr
  simp only [yNot_t, yNot_f, yEq_t, yEq_f, yAnd_t, yAnd_f, yLt_t, yLt_f, yLe_t, yLe_f, yAdd_e, yMul_e, and_true, Bool.true_eq_false]
  unfold shapeC nodeC
  repeat' (first | apply And.intro | intro _)
  all_goals (try simp (disch := omega) only [wrap64] at *)
  all_goals (try (have hq := hp (by omega) (by omega); clear hp; simp (disch := omega) only [wrap64]))
  all_goals (try split)
  all_goals omega
set_option maxRecDepth 100000 in
theorem goalShp_tt : (goalShp) = True := goalShp_eq.trans (eq_true goalShp_vc)
theorem goalShp_ok : goalShp := @ft' goalShp goalShp_tt
def goalShpRV : Prop := (∀ (s t f l p slot : Int),
  yAnd (rightC s t f l p) (yAnd (yLe (0 : Int) slot) (yLe slot s)) = true →
    shapeC s t f slot =
      yWrap IntKind.i64
        (yAdd
          (yWrap IntKind.i64
            (yAdd (yWrap IntKind.i64 (yAdd (3 : Int) (yWrap IntKind.i64 (yMul (3 : Int) t))))
              (yWrap IntKind.i64
                (yMul slot (yWrap IntKind.i64 (yAdd (3 : Int) (yWrap IntKind.i64 (yMul (2 : Int) f))))))))
          (1 : Int)))
set_option maxRecDepth 100000 in
theorem goalShpR_eq : goalShpR = goalShpRV := by kernel_rfl
set_option maxRecDepth 100000 in
theorem goalShpR_vc : goalShpRV := by
  unfold goalShpRV
  intro s t f l p slot hr
  simp only [yAnd_t, yLe_t, yLt_t] at hr
  have h := rightC_iff.1 hr.1
  have hp := lay_prod (slot := slot) hr.1
  have hr2 := hr.2
  have hr3 := hr.1
  simp only [yAdd_e, yMul_e]
  unfold shapeC nodeC
  repeat' (first | apply And.intro | intro _)
  all_goals (try simp (disch := omega) only [wrap64] at *)
  all_goals (try (have hq := hp (by omega) (by omega); clear hp; simp (disch := omega) only [wrap64]))
  all_goals (try split)
  all_goals omega
set_option maxRecDepth 100000 in
theorem goalShpR_tt : (goalShpR) = True := goalShpR_eq.trans (eq_true goalShpR_vc)
theorem goalShpR_ok : goalShpR := @ft' goalShpR goalShpR_tt
def goalKeyV : Prop := (∀ (s t f l p slot i : Int),
  rightC s t f l p = true →
    (yAnd (yEq s (0 : Int))
            (yAnd (yEq t (0 : Int)) (yAnd (yEq f (0 : Int)) (yAnd (yEq l (0 : Int)) (yAnd (yEq p (0 : Int)) true)))) =
          true →
        keyC s t f slot i = (-1 : Int)) ∧
      (yAnd (yEq s (0 : Int))
            (yAnd (yEq t (0 : Int)) (yAnd (yEq f (0 : Int)) (yAnd (yEq l (0 : Int)) (yAnd (yEq p (0 : Int)) true)))) =
          false →
        (yLe (0 : Int) slot = true →
            (yNot (yLt slot (yWrap IntKind.i64 (yAdd s (1 : Int)))) = true → keyC s t f slot i = (-1 : Int)) ∧
              (yNot (yLt slot (yWrap IntKind.i64 (yAdd s (1 : Int)))) = false →
                (yLe (0 : Int) i = true →
                    (yNot (yLt i f) = true → keyC s t f slot i = (-1 : Int)) ∧
                      (yNot (yLt i f) = false →
                        keyC s t f slot i =
                          yWrap IntKind.i64
                            (yAdd
                              (yWrap IntKind.i64
                                (yAdd
                                  (yWrap IntKind.i64
                                    (yAdd
                                      (yWrap IntKind.i64
                                        (yAdd (yWrap IntKind.i64 (yAdd (3 : Int) t))
                                          (yWrap IntKind.i64 (yMul (2 : Int) t))))
                                      (yWrap IntKind.i64
                                        (yMul slot
                                          (yWrap IntKind.i64
                                            (yAdd (3 : Int) (yWrap IntKind.i64 (yMul (2 : Int) f))))))))
                                  (3 : Int)))
                              i))) ∧
                  (yLe (0 : Int) i = false → keyC s t f slot i = (-1 : Int)))) ∧
          (yLe (0 : Int) slot = false → keyC s t f slot i = (-1 : Int))))
set_option maxRecDepth 100000 in
theorem goalKey_eq : goalKey = goalKeyV := by kernel_rfl
set_option maxRecDepth 100000 in
theorem goalKey_vc : goalKeyV := by
  unfold goalKeyV
  intro s t f l p slot i hr
  have h := rightC_iff.1 hr
  have hp := lay_prod (slot := slot) hr
  clear hr
  simp only [yNot_t, yNot_f, yEq_t, yEq_f, yAnd_t, yAnd_f, yLt_t, yLt_f, yLe_t, yLe_f, yAdd_e, yMul_e, and_true, Bool.true_eq_false]
  unfold keyC nodeC
  repeat' (first | apply And.intro | intro _)
  all_goals (try simp (disch := omega) only [wrap64] at *)
  all_goals (try (have hq := hp (by omega) (by omega); clear hp; simp (disch := omega) only [wrap64]))
  all_goals (try split)
  all_goals omega
set_option maxRecDepth 100000 in
theorem goalKey_tt : (goalKey) = True := goalKey_eq.trans (eq_true goalKey_vc)
theorem goalKey_ok : goalKey := @ft' goalKey goalKey_tt
def goalKeyRV : Prop := (∀ (s t f l p slot i : Int),
  yAnd (yAnd (rightC s t f l p) (yAnd (yLe (0 : Int) slot) (yLe slot s))) (yAnd (yLe (0 : Int) i) (yLt i f)) = true →
    keyC s t f slot i =
      yWrap IntKind.i64
        (yAdd
          (yWrap IntKind.i64
            (yAdd
              (yWrap IntKind.i64
                (yAdd (yWrap IntKind.i64 (yAdd (3 : Int) (yWrap IntKind.i64 (yMul (3 : Int) t))))
                  (yWrap IntKind.i64
                    (yMul slot (yWrap IntKind.i64 (yAdd (3 : Int) (yWrap IntKind.i64 (yMul (2 : Int) f))))))))
              (3 : Int)))
          i))
set_option maxRecDepth 100000 in
theorem goalKeyR_eq : goalKeyR = goalKeyRV := by kernel_rfl
set_option maxRecDepth 100000 in
theorem goalKeyR_vc : goalKeyRV := by
  unfold goalKeyRV
  intro s t f l p slot i hr
  simp only [yAnd_t, yLe_t, yLt_t] at hr
  have h := rightC_iff.1 hr.1.1
  have hp := lay_prod (slot := slot) hr.1.1
  have hr2 := hr.2
  have hr3 := hr.1.2
  simp only [yAdd_e, yMul_e]
  unfold keyC nodeC
  repeat' (first | apply And.intro | intro _)
  all_goals (try simp (disch := omega) only [wrap64] at *)
  all_goals (try (have hq := hp (by omega) (by omega); clear hp; simp (disch := omega) only [wrap64]))
  all_goals (try split)
  all_goals omega
set_option maxRecDepth 100000 in
theorem goalKeyR_tt : (goalKeyR) = True := goalKeyR_eq.trans (eq_true goalKeyR_vc)
theorem goalKeyR_ok : goalKeyR := @ft' goalKeyR goalKeyR_tt
def goalValV : Prop := (∀ (s t f l p slot i : Int),
  rightC s t f l p = true →
    (yAnd (yEq s (0 : Int))
            (yAnd (yEq t (0 : Int)) (yAnd (yEq f (0 : Int)) (yAnd (yEq l (0 : Int)) (yAnd (yEq p (0 : Int)) true)))) =
          true →
        valC s t f slot i = (-1 : Int)) ∧
      (yAnd (yEq s (0 : Int))
            (yAnd (yEq t (0 : Int)) (yAnd (yEq f (0 : Int)) (yAnd (yEq l (0 : Int)) (yAnd (yEq p (0 : Int)) true)))) =
          false →
        (yLe (0 : Int) slot = true →
            (yNot (yLt slot (yWrap IntKind.i64 (yAdd s (1 : Int)))) = true → valC s t f slot i = (-1 : Int)) ∧
              (yNot (yLt slot (yWrap IntKind.i64 (yAdd s (1 : Int)))) = false →
                (yLe (0 : Int) i = true →
                    (yNot (yLt i f) = true → valC s t f slot i = (-1 : Int)) ∧
                      (yNot (yLt i f) = false →
                        valC s t f slot i =
                          yWrap IntKind.i64
                            (yAdd
                              (yWrap IntKind.i64
                                (yAdd
                                  (yWrap IntKind.i64
                                    (yAdd
                                      (yWrap IntKind.i64
                                        (yAdd (yWrap IntKind.i64 (yAdd (3 : Int) t))
                                          (yWrap IntKind.i64 (yMul (2 : Int) t))))
                                      (yWrap IntKind.i64
                                        (yMul slot
                                          (yWrap IntKind.i64
                                            (yAdd (3 : Int) (yWrap IntKind.i64 (yMul (2 : Int) f))))))))
                                  (yWrap IntKind.i64 (yAdd (3 : Int) f))))
                              i))) ∧
                  (yLe (0 : Int) i = false → valC s t f slot i = (-1 : Int)))) ∧
          (yLe (0 : Int) slot = false → valC s t f slot i = (-1 : Int))))
set_option maxRecDepth 100000 in
theorem goalVal_eq : goalVal = goalValV := by kernel_rfl
set_option maxRecDepth 100000 in
theorem goalVal_vc : goalValV := by
  unfold goalValV
  intro s t f l p slot i hr
  have h := rightC_iff.1 hr
  have hp := lay_prod (slot := slot) hr
  clear hr
  simp only [yNot_t, yNot_f, yEq_t, yEq_f, yAnd_t, yAnd_f, yLt_t, yLt_f, yLe_t, yLe_f, yAdd_e, yMul_e, and_true, Bool.true_eq_false]
  unfold valC nodeC
  repeat' (first | apply And.intro | intro _)
  all_goals (try simp (disch := omega) only [wrap64] at *)
  all_goals (try (have hq := hp (by omega) (by omega); clear hp; simp (disch := omega) only [wrap64]))
  all_goals (try split)
  all_goals omega
set_option maxRecDepth 100000 in
theorem goalVal_tt : (goalVal) = True := goalVal_eq.trans (eq_true goalVal_vc)
theorem goalVal_ok : goalVal := @ft' goalVal goalVal_tt
def goalValRV : Prop := (∀ (s t f l p slot i : Int),
  yAnd (yAnd (rightC s t f l p) (yAnd (yLe (0 : Int) slot) (yLe slot s))) (yAnd (yLe (0 : Int) i) (yLt i f)) = true →
    valC s t f slot i =
      yWrap IntKind.i64
        (yAdd
          (yWrap IntKind.i64
            (yAdd
              (yWrap IntKind.i64
                (yAdd
                  (yWrap IntKind.i64
                    (yAdd (yWrap IntKind.i64 (yAdd (3 : Int) (yWrap IntKind.i64 (yMul (3 : Int) t))))
                      (yWrap IntKind.i64
                        (yMul slot (yWrap IntKind.i64 (yAdd (3 : Int) (yWrap IntKind.i64 (yMul (2 : Int) f))))))))
                  (3 : Int)))
              f))
          i))
set_option maxRecDepth 100000 in
theorem goalValR_eq : goalValR = goalValRV := by kernel_rfl
set_option maxRecDepth 100000 in
theorem goalValR_vc : goalValRV := by
  unfold goalValRV
  intro s t f l p slot i hr
  simp only [yAnd_t, yLe_t, yLt_t] at hr
  have h := rightC_iff.1 hr.1.1
  have hp := lay_prod (slot := slot) hr.1.1
  have hr2 := hr.2
  have hr3 := hr.1.2
  simp only [yAdd_e, yMul_e]
  unfold valC nodeC
  repeat' (first | apply And.intro | intro _)
  all_goals (try simp (disch := omega) only [wrap64] at *)
  all_goals (try (have hq := hp (by omega) (by omega); clear hp; simp (disch := omega) only [wrap64]))
  all_goals (try split)
  all_goals omega
set_option maxRecDepth 100000 in
theorem goalValR_tt : (goalValR) = True := goalValR_eq.trans (eq_true goalValR_vc)
theorem goalValR_ok : goalValR := @ft' goalValR goalValR_tt
set_option maxRecDepth 100000 in
theorem smL1 {f : FuncId} {F : Int → Int → Int → Int → Int} (hm : Tryz.prog.follows .mixedOrders = true) (hg : gL1goal Tryz.prog f F) : SmCall Tryz.prog f (fun args h => (ctS gL1 (fL1 F) args h).sel) :=
  ctS_ok hm noSm_ok (by decide) (fun ds a h => by
    unfold fL1 at h
    split at h
    · simp only [Option.some.injEq, Prod.mk.injEq] at h
      obtain ⟨h1, rfl⟩ := h
      exact ⟨_, 1000, hg _ _ _ _ _ _ h1⟩
    · cases h)
set_option maxRecDepth 100000 in
theorem smL2 {f : FuncId} {F : Int → Int → Int → Int → Int → Int} (hm : Tryz.prog.follows .mixedOrders = true) (hg : gL2goal Tryz.prog f F) : SmCall Tryz.prog f (fun args h => (ctS gL2 (fL2 F) args h).sel) :=
  ctS_ok hm noSm_ok (by decide) (fun ds a h => by
    unfold fL2 at h
    split at h
    · simp only [Option.some.injEq, Prod.mk.injEq] at h
      obtain ⟨h1, rfl⟩ := h
      exact ⟨_, 1000, hg _ _ _ _ _ _ _ h1⟩
    · cases h)
set_option maxRecDepth 100000 in
theorem smR1 {f : FuncId} {F : Int → Int → Int → Int → Int} (hm : Tryz.prog.follows .mixedOrders = true) (hg : gR1goal Tryz.prog f F) : SmCall Tryz.prog f (fun args h => (ctS gL1 (fR1 F) args h).sel) :=
  ctS_ok hm noSm_ok (by decide) (fun ds a h => by
    unfold fR1 at h
    split at h
    · simp only [Option.some.injEq, Prod.mk.injEq] at h
      obtain ⟨h1, rfl⟩ := h
      exact ⟨_, 1000, hg _ _ _ _ _ _ h1⟩
    · cases h)
set_option maxRecDepth 100000 in
theorem smR2 {f : FuncId} {F : Int → Int → Int → Int → Int → Int} (hm : Tryz.prog.follows .mixedOrders = true) (hg : gR2goal Tryz.prog f F) : SmCall Tryz.prog f (fun args h => (ctS gL2 (fR2 F) args h).sel) :=
  ctS_ok hm noSm_ok (by decide) (fun ds a h => by
    unfold fR2 at h
    split at h
    · simp only [Option.some.injEq, Prod.mk.injEq] at h
      obtain ⟨h1, rfl⟩ := h
      exact ⟨_, 1000, hg _ _ _ _ _ _ _ h1⟩
    · cases h)
end Go.Proofs.YtlfehgagnelbhaaGreatDoor.Ex
namespace Go.Proofs.YtlfehgagnelbhaaGreatDoor.Ex
open Go

-- OPEN fitsC prFit prFitR msFit
def Rises (kf : Nat → Int) (n : Nat) : Prop := ∀ j, j + 1 < n → kf j < kf (j + 1)
def risesB (kf : Nat → Int) (n : Nat) : Bool := (List.range n).all fun j => decide (j + 1 < n → kf j < kf (j + 1))
theorem risesB_iff {kf : Nat → Int} {n : Nat} : risesB kf n = true ↔ Rises kf n := by
  simp only [risesB, List.all_eq_true, List.mem_range, decide_eq_true_eq, Rises]
  exact ⟨fun h j hj => h j (by omega) hj, fun h j _ hj => h j hj⟩
def fitsC (inner : Bool) (nk : Nat) (kf : Nat → Int) (nv : Nat) (fan : Int) : Bool := decide ((nv : Int) ≤ fan ∧ (nv = if inner then nk + 1 else nk) ∧ risesB kf nk = true)
def prFit (n : Nat) (kf : Nat → Int) (i : Nat) : Prop := i ≤ n ∧ Rises kf i
def prFitR (n : Nat) (kf : Nat → Int) (i : Nat) : Prop := 1 ≤ i ∧ (i ≤ n ∨ i = 1) ∧ Rises kf i
def msFit (n i : Nat) : Nat := n - i
abbrev cU : Cs := some (24, [.int .u64])
abbrev gFits : List Ag := [.agg [none, cU, cU, none], .cell none]
abbrev dFits (inner nilk : Bool) (nk : Nat) (kf : Nat → Int) (nilv : Bool) (nv : Nat) (vf : Nat → Int) (link fan : Int) : List Da := [.agg [.v (.yb inner), .rows nilk nk [.int .u64 kf], .rows nilv nv [.int .u64 vf], .v (.y .u64 link)], .cell (.v (.y .i64 fan))]
def fFits (ds : List Da) : Option (Bool × AV) :=
  match ds with
  | [.agg [.v (.yb inner), .rows _ nk [.int .u64 kf], .rows _ nv [.int .u64 _], .v (.y .u64 _)], .cell (.v (.y .i64 fan))] => some (yAnd (yNle nk 80) (yNle nv 80), .yb (fitsC inner nk kf nv fan))
  | _ => none
def annFits (n : Nat) (kf : Nat → Int) (b : Nat) : Option (St → LoopA) :=
  match b with
  | 0 => some fun _ => { ι := Nat, tms := [40], tmU := fun i => [.y .i64 (yInt i)], ids := [], hpU := fun _ => [], del := [], ex := 0, pre := prFit n kf, ms := msFit n }
  | _ => none
def annFitsR (n : Nat) (kf : Nat → Int) (b : Nat) : Option (St → LoopA) :=
  match b with
  | 0 => some fun _ => { ι := Nat, tms := [5], tmU := fun i => [.y .i64 (yInt i)], ids := [], hpU := fun _ => [], del := [], ex := 0, pre := prFitR n kf, ms := msFit n }
  | _ => none
def goalFits : Prop := ∀ (inner nilk : Bool) (nk : Nat) (kf : Nat → Int) (nilv : Bool) (nv : Nat) (vf : Nat → Int) (link fan : Int), yAnd (yNle nk 80) (yNle nv 80) = true →
  wxF Tryz.prog noSm (annFits nk kf) 1000 112 (canA gFits (dFits inner nilk nk kf nilv nv vf link fan) []).1 (heapOf (canA gFits (dFits inner nilk nk kf nilv nv vf link fan) []).2) (fun v _ => cmpC (.yb (fitsC inner nk kf nv fan)) v)
def goalFitsR : Prop := ∀ (inner nilk : Bool) (nk : Nat) (kf : Nat → Int) (nilv : Bool) (nv : Nat) (vf : Nat → Int) (link fan : Int), yAnd (yNle nk 80) (yNle nv 80) = true →
  wxF Tryz.prog noSm (annFitsR nk kf) 1000 23 (canA gFits (dFits inner nilk nk kf nilv nv vf link fan) []).1 (heapOf (canA gFits (dFits inner nilk nk kf nilv nv vf link fan) []).2) (fun v _ => cmpC (.yb (fitsC inner nk kf nv fan)) v)
theorem fits_t {inner : Bool} {nk : Nat} {kf : Nat → Int} {nv : Nat} {fan : Int} : fitsC inner nk kf nv fan = true ↔ ((nv : Int) ≤ fan ∧ (nv = if inner then nk + 1 else nk) ∧ Rises kf nk) := by
  unfold fitsC; rw [decide_eq_true_iff, risesB_iff]
theorem fits_f {inner : Bool} {nk : Nat} {kf : Nat → Int} {nv : Nat} {fan : Int} : fitsC inner nk kf nv fan = false ↔ ¬ ((nv : Int) ≤ fan ∧ (nv = if inner then nk + 1 else nk) ∧ Rises kf nk) := by
  unfold fitsC; rw [decide_eq_false_iff_not, risesB_iff]
theorem yNatSub {i : Nat} (h : 1 ≤ i) : yNat ((i : Int) - 1) = i - 1 := by unfold yNat; omega
theorem Rises.step {kf : Nat → Int} {i : Nat} (h : Rises kf i) (k : 1 ≤ i → kf (i - 1) < kf i) : Rises kf (i + 1) := fun j hj => by
  by_cases e : j + 1 < i
  · exact h j e
  · have : i = j + 1 := by omega
    subst this
    have := k (by omega)
    simpa using this
theorem Rises.not {kf : Nat → Int} {i n : Nat} (h1 : 1 ≤ i) (h2 : i < n) (k : kf i ≤ kf (i - 1)) : ¬ Rises kf n := fun h => by
  have := h (i - 1) (by omega)
  rw [show i - 1 + 1 = i by omega] at this
  omega
set_option maxRecDepth 100000 in
theorem goalFits_eq : goalFits = (∀ (inner _nilk : Bool) (nk : Nat) (kf : Nat → Int) (_nilv : Bool) (nv : Nat) (_vf : Nat → Int) (_link fan : Int),
  yAnd (yNle nk (nat_lit 80)) (yNle nv (nat_lit 80)) = true →
    (inner = true →
        (yLt fan (yInt nv) = true → fitsC inner nk kf nv fan = false) ∧
          (yLt fan (yInt nv) = false →
            (yNot (yEq (yInt nk) (yWrap IntKind.i64 (ySub (yInt nv) (1 : Int)))) = true →
                fitsC inner nk kf nv fan = false) ∧
              (yNot (yEq (yInt nk) (yWrap IntKind.i64 (ySub (yInt nv) (1 : Int)))) = false →
                (inner = true →
                    (yEq (yInt nv) (0 : Int) = true → fitsC inner nk kf nv fan = false) ∧
                      (yEq (yInt nv) (0 : Int) = false →
                        true = true ∧
                          (∃ (i0 : Nat), prFit nk kf i0 ∧ true = true ∧ yInt i0 = (0 : Int) ∧ true = true) ∧
                            ∀ (_ : Nat → AV) (i : Nat),
                              prFit nk kf i →
                                (yLt (yInt i) (yInt nk) = true →
                                    (yIn (yInt i) nk = true →
                                        (yNlt (yNadd (nat_lit 0) (yNat (yInt i))) nk = true →
                                            (yLt (0 : Int) (yInt i) = true →
                                                (yIn (yWrap IntKind.i64 (ySub (yInt i) (1 : Int))) nk = true →
                                                    (yNlt
                                                            (yNadd (nat_lit 0)
                                                              (yNat (yWrap IntKind.i64 (ySub (yInt i) (1 : Int)))))
                                                            nk =
                                                          true →
                                                        (yLe (kf (yNadd (nat_lit 0) (yNat (yInt i))))
                                                                (kf
                                                                  (yNadd (nat_lit 0)
                                                                    (yNat
                                                                      (yWrap IntKind.i64 (ySub (yInt i) (1 : Int)))))) =
                                                              true →
                                                            fitsC inner nk kf nv fan = false) ∧
                                                          (yLe (kf (yNadd (nat_lit 0) (yNat (yInt i))))
                                                                (kf
                                                                  (yNadd (nat_lit 0)
                                                                    (yNat
                                                                      (yWrap IntKind.i64 (ySub (yInt i) (1 : Int)))))) =
                                                              false →
                                                            true = true ∧
                                                              ∃ (i' : Nat),
                                                                prFit nk kf i' ∧
                                                                  Nat.succ (msFit nk i') ≤ msFit nk i ∧
                                                                    true = true ∧
                                                                      yInt i' =
                                                                          yWrap IntKind.i64 (yAdd (yInt i) (1 : Int)) ∧
                                                                        true = true)) ∧
                                                      (yNlt
                                                            (yNadd (nat_lit 0)
                                                              (yNat (yWrap IntKind.i64 (ySub (yInt i) (1 : Int)))))
                                                            nk =
                                                          false →
                                                        False)) ∧
                                                  (yIn (yWrap IntKind.i64 (ySub (yInt i) (1 : Int))) nk = false →
                                                    False)) ∧
                                              (yLt (0 : Int) (yInt i) = false →
                                                true = true ∧
                                                  ∃ (i' : Nat),
                                                    prFit nk kf i' ∧
                                                      Nat.succ (msFit nk i') ≤ msFit nk i ∧
                                                        true = true ∧
                                                          yInt i' = yWrap IntKind.i64 (yAdd (yInt i) (1 : Int)) ∧
                                                            true = true)) ∧
                                          (yNlt (yNadd (nat_lit 0) (yNat (yInt i))) nk = false → False)) ∧
                                      (yIn (yInt i) nk = false → False)) ∧
                                  (yLt (yInt i) (yInt nk) = false → fitsC inner nk kf nv fan = true))) ∧
                  (inner = false →
                    true = true ∧
                      (∃ (i0 : Nat), prFit nk kf i0 ∧ true = true ∧ yInt i0 = (0 : Int) ∧ true = true) ∧
                        ∀ (_ : Nat → AV) (i : Nat),
                          prFit nk kf i →
                            (yLt (yInt i) (yInt nk) = true →
                                (yIn (yInt i) nk = true →
                                    (yNlt (yNadd (nat_lit 0) (yNat (yInt i))) nk = true →
                                        (yLt (0 : Int) (yInt i) = true →
                                            (yIn (yWrap IntKind.i64 (ySub (yInt i) (1 : Int))) nk = true →
                                                (yNlt
                                                        (yNadd (nat_lit 0)
                                                          (yNat (yWrap IntKind.i64 (ySub (yInt i) (1 : Int)))))
                                                        nk =
                                                      true →
                                                    (yLe (kf (yNadd (nat_lit 0) (yNat (yInt i))))
                                                            (kf
                                                              (yNadd (nat_lit 0)
                                                                (yNat (yWrap IntKind.i64 (ySub (yInt i) (1 : Int)))))) =
                                                          true →
                                                        fitsC inner nk kf nv fan = false) ∧
                                                      (yLe (kf (yNadd (nat_lit 0) (yNat (yInt i))))
                                                            (kf
                                                              (yNadd (nat_lit 0)
                                                                (yNat (yWrap IntKind.i64 (ySub (yInt i) (1 : Int)))))) =
                                                          false →
                                                        true = true ∧
                                                          ∃ (i' : Nat),
                                                            prFit nk kf i' ∧
                                                              Nat.succ (msFit nk i') ≤ msFit nk i ∧
                                                                true = true ∧
                                                                  yInt i' =
                                                                      yWrap IntKind.i64 (yAdd (yInt i) (1 : Int)) ∧
                                                                    true = true)) ∧
                                                  (yNlt
                                                        (yNadd (nat_lit 0)
                                                          (yNat (yWrap IntKind.i64 (ySub (yInt i) (1 : Int)))))
                                                        nk =
                                                      false →
                                                    False)) ∧
                                              (yIn (yWrap IntKind.i64 (ySub (yInt i) (1 : Int))) nk = false → False)) ∧
                                          (yLt (0 : Int) (yInt i) = false →
                                            true = true ∧
                                              ∃ (i' : Nat),
                                                prFit nk kf i' ∧
                                                  Nat.succ (msFit nk i') ≤ msFit nk i ∧
                                                    true = true ∧
                                                      yInt i' = yWrap IntKind.i64 (yAdd (yInt i) (1 : Int)) ∧
                                                        true = true)) ∧
                                      (yNlt (yNadd (nat_lit 0) (yNat (yInt i))) nk = false → False)) ∧
                                  (yIn (yInt i) nk = false → False)) ∧
                              (yLt (yInt i) (yInt nk) = false → fitsC inner nk kf nv fan = true))))) ∧
      (inner = false →
        (yLt fan (yInt nv) = true → fitsC inner nk kf nv fan = false) ∧
          (yLt fan (yInt nv) = false →
            (yNot (yEq (yInt nk) (yInt nv)) = true → fitsC inner nk kf nv fan = false) ∧
              (yNot (yEq (yInt nk) (yInt nv)) = false →
                (inner = true →
                    (yEq (yInt nv) (0 : Int) = true → fitsC inner nk kf nv fan = false) ∧
                      (yEq (yInt nv) (0 : Int) = false →
                        true = true ∧
                          (∃ (i0 : Nat), prFit nk kf i0 ∧ true = true ∧ yInt i0 = (0 : Int) ∧ true = true) ∧
                            ∀ (_ : Nat → AV) (i : Nat),
                              prFit nk kf i →
                                (yLt (yInt i) (yInt nk) = true →
                                    (yIn (yInt i) nk = true →
                                        (yNlt (yNadd (nat_lit 0) (yNat (yInt i))) nk = true →
                                            (yLt (0 : Int) (yInt i) = true →
                                                (yIn (yWrap IntKind.i64 (ySub (yInt i) (1 : Int))) nk = true →
                                                    (yNlt
                                                            (yNadd (nat_lit 0)
                                                              (yNat (yWrap IntKind.i64 (ySub (yInt i) (1 : Int)))))
                                                            nk =
                                                          true →
                                                        (yLe (kf (yNadd (nat_lit 0) (yNat (yInt i))))
                                                                (kf
                                                                  (yNadd (nat_lit 0)
                                                                    (yNat
                                                                      (yWrap IntKind.i64 (ySub (yInt i) (1 : Int)))))) =
                                                              true →
                                                            fitsC inner nk kf nv fan = false) ∧
                                                          (yLe (kf (yNadd (nat_lit 0) (yNat (yInt i))))
                                                                (kf
                                                                  (yNadd (nat_lit 0)
                                                                    (yNat
                                                                      (yWrap IntKind.i64 (ySub (yInt i) (1 : Int)))))) =
                                                              false →
                                                            true = true ∧
                                                              ∃ (i' : Nat),
                                                                prFit nk kf i' ∧
                                                                  Nat.succ (msFit nk i') ≤ msFit nk i ∧
                                                                    true = true ∧
                                                                      yInt i' =
                                                                          yWrap IntKind.i64 (yAdd (yInt i) (1 : Int)) ∧
                                                                        true = true)) ∧
                                                      (yNlt
                                                            (yNadd (nat_lit 0)
                                                              (yNat (yWrap IntKind.i64 (ySub (yInt i) (1 : Int)))))
                                                            nk =
                                                          false →
                                                        False)) ∧
                                                  (yIn (yWrap IntKind.i64 (ySub (yInt i) (1 : Int))) nk = false →
                                                    False)) ∧
                                              (yLt (0 : Int) (yInt i) = false →
                                                true = true ∧
                                                  ∃ (i' : Nat),
                                                    prFit nk kf i' ∧
                                                      Nat.succ (msFit nk i') ≤ msFit nk i ∧
                                                        true = true ∧
                                                          yInt i' = yWrap IntKind.i64 (yAdd (yInt i) (1 : Int)) ∧
                                                            true = true)) ∧
                                          (yNlt (yNadd (nat_lit 0) (yNat (yInt i))) nk = false → False)) ∧
                                      (yIn (yInt i) nk = false → False)) ∧
                                  (yLt (yInt i) (yInt nk) = false → fitsC inner nk kf nv fan = true))) ∧
                  (inner = false →
                    true = true ∧
                      (∃ (i0 : Nat), prFit nk kf i0 ∧ true = true ∧ yInt i0 = (0 : Int) ∧ true = true) ∧
                        ∀ (_ : Nat → AV) (i : Nat),
                          prFit nk kf i →
                            (yLt (yInt i) (yInt nk) = true →
                                (yIn (yInt i) nk = true →
                                    (yNlt (yNadd (nat_lit 0) (yNat (yInt i))) nk = true →
                                        (yLt (0 : Int) (yInt i) = true →
                                            (yIn (yWrap IntKind.i64 (ySub (yInt i) (1 : Int))) nk = true →
                                                (yNlt
                                                        (yNadd (nat_lit 0)
                                                          (yNat (yWrap IntKind.i64 (ySub (yInt i) (1 : Int)))))
                                                        nk =
                                                      true →
                                                    (yLe (kf (yNadd (nat_lit 0) (yNat (yInt i))))
                                                            (kf
                                                              (yNadd (nat_lit 0)
                                                                (yNat (yWrap IntKind.i64 (ySub (yInt i) (1 : Int)))))) =
                                                          true →
                                                        fitsC inner nk kf nv fan = false) ∧
                                                      (yLe (kf (yNadd (nat_lit 0) (yNat (yInt i))))
                                                            (kf
                                                              (yNadd (nat_lit 0)
                                                                (yNat (yWrap IntKind.i64 (ySub (yInt i) (1 : Int)))))) =
                                                          false →
                                                        true = true ∧
                                                          ∃ (i' : Nat),
                                                            prFit nk kf i' ∧
                                                              Nat.succ (msFit nk i') ≤ msFit nk i ∧
                                                                true = true ∧
                                                                  yInt i' =
                                                                      yWrap IntKind.i64 (yAdd (yInt i) (1 : Int)) ∧
                                                                    true = true)) ∧
                                                  (yNlt
                                                        (yNadd (nat_lit 0)
                                                          (yNat (yWrap IntKind.i64 (ySub (yInt i) (1 : Int)))))
                                                        nk =
                                                      false →
                                                    False)) ∧
                                              (yIn (yWrap IntKind.i64 (ySub (yInt i) (1 : Int))) nk = false → False)) ∧
                                          (yLt (0 : Int) (yInt i) = false →
                                            true = true ∧
                                              ∃ (i' : Nat),
                                                prFit nk kf i' ∧
                                                  Nat.succ (msFit nk i') ≤ msFit nk i ∧
                                                    true = true ∧
                                                      yInt i' = yWrap IntKind.i64 (yAdd (yInt i) (1 : Int)) ∧
                                                        true = true)) ∧
                                      (yNlt (yNadd (nat_lit 0) (yNat (yInt i))) nk = false → False)) ∧
                                  (yIn (yInt i) nk = false → False)) ∧
                              (yLt (yInt i) (yInt nk) = false → fitsC inner nk kf nv fan = true)))))) := by kernel_rfl
set_option maxRecDepth 100000 in
theorem goalFits_ok : goalFits := by
  refine kernel_go goalFits_eq ?_
  intro inner nilk nk kf nilv nv vf link fan hb
  simp only [yNot_t, yNot_f, yEq_t, yEq_f, yAnd_t, yLt_t, yLt_f, yLe_t, yLe_f, yIn_t, yIn_f, yNlt_t, yNlt_f, yNle_t, yInt_e, yNat_e, yNadd_e, yAdd_e, ySub_e, true_and, and_true, Nat.zero_add, prFit, msFit] at hb ⊢
  cases inner
  all_goals simp only [true_and, and_true, forall_const, Bool.true_eq_false, Bool.false_eq_true, false_implies, fits_t, fits_f, if_true, if_false]
  all_goals repeat' (first | apply And.intro | intro (_ : Nat → AV) i hi | intro _)
  all_goals (try simp (disch := omega) only [wrap64, yNatSub] at *)
  all_goals first
    | omega
    | exact ⟨0, ⟨Nat.zero_le _, fun j hj => by omega⟩, rfl⟩
    | (refine ⟨i + 1, ⟨by omega, hi.2.step fun h => by omega⟩, by omega, by omega⟩; done)
    | (exact absurd (‹(nv : Int) ≤ fan ∧ _ ∧ Rises kf nk›).2.2 (Rises.not (i := i) (by omega) (by omega) (by omega)))
    | exact hi.2 _ (by omega)
set_option maxRecDepth 100000 in
theorem goalFitsR_eq : goalFitsR = (∀ (inner _nilk : Bool) (nk : Nat) (kf : Nat → Int) (_nilv : Bool) (nv : Nat) (_vf : Nat → Int) (_link fan : Int),
  yAnd (yNle nk (nat_lit 80)) (yNle nv (nat_lit 80)) = true →
    (yLt fan (yInt nv) = true → fitsC inner nk kf nv fan = false) ∧
      (yLt fan (yInt nv) = false →
        (inner = true →
            (yNot (yEq (yInt nv) (yWrap IntKind.i64 (yAdd (yInt nk) (1 : Int)))) = true →
                fitsC inner nk kf nv fan = false) ∧
              (yNot (yEq (yInt nv) (yWrap IntKind.i64 (yAdd (yInt nk) (1 : Int)))) = false →
                (yNot inner = true →
                    (yNot (yEq (yInt nv) (yInt nk)) = true → fitsC inner nk kf nv fan = false) ∧
                      (yNot (yEq (yInt nv) (yInt nk)) = false →
                        true = true ∧
                          (∃ (i0 : Nat), prFitR nk kf i0 ∧ true = true ∧ yInt i0 = (1 : Int) ∧ true = true) ∧
                            ∀ (_ : Nat → AV) (i : Nat),
                              prFitR nk kf i →
                                (yLt (yInt i) (yInt nk) = true →
                                    (yIn (yInt i) nk = true →
                                        (yNlt (yNadd (nat_lit 0) (yNat (yInt i))) nk = true →
                                            (yIn (yWrap IntKind.i64 (ySub (yInt i) (1 : Int))) nk = true →
                                                (yNlt
                                                        (yNadd (nat_lit 0)
                                                          (yNat (yWrap IntKind.i64 (ySub (yInt i) (1 : Int)))))
                                                        nk =
                                                      true →
                                                    (yLe (kf (yNadd (nat_lit 0) (yNat (yInt i))))
                                                            (kf
                                                              (yNadd (nat_lit 0)
                                                                (yNat (yWrap IntKind.i64 (ySub (yInt i) (1 : Int)))))) =
                                                          true →
                                                        fitsC inner nk kf nv fan = false) ∧
                                                      (yLe (kf (yNadd (nat_lit 0) (yNat (yInt i))))
                                                            (kf
                                                              (yNadd (nat_lit 0)
                                                                (yNat (yWrap IntKind.i64 (ySub (yInt i) (1 : Int)))))) =
                                                          false →
                                                        true = true ∧
                                                          ∃ (i' : Nat),
                                                            prFitR nk kf i' ∧
                                                              Nat.succ (msFit nk i') ≤ msFit nk i ∧
                                                                true = true ∧
                                                                  yInt i' =
                                                                      yWrap IntKind.i64 (yAdd (yInt i) (1 : Int)) ∧
                                                                    true = true)) ∧
                                                  (yNlt
                                                        (yNadd (nat_lit 0)
                                                          (yNat (yWrap IntKind.i64 (ySub (yInt i) (1 : Int)))))
                                                        nk =
                                                      false →
                                                    False)) ∧
                                              (yIn (yWrap IntKind.i64 (ySub (yInt i) (1 : Int))) nk = false → False)) ∧
                                          (yNlt (yNadd (nat_lit 0) (yNat (yInt i))) nk = false → False)) ∧
                                      (yIn (yInt i) nk = false → False)) ∧
                                  (yLt (yInt i) (yInt nk) = false → fitsC inner nk kf nv fan = true))) ∧
                  (yNot inner = false →
                    true = true ∧
                      (∃ (i0 : Nat), prFitR nk kf i0 ∧ true = true ∧ yInt i0 = (1 : Int) ∧ true = true) ∧
                        ∀ (_ : Nat → AV) (i : Nat),
                          prFitR nk kf i →
                            (yLt (yInt i) (yInt nk) = true →
                                (yIn (yInt i) nk = true →
                                    (yNlt (yNadd (nat_lit 0) (yNat (yInt i))) nk = true →
                                        (yIn (yWrap IntKind.i64 (ySub (yInt i) (1 : Int))) nk = true →
                                            (yNlt
                                                    (yNadd (nat_lit 0)
                                                      (yNat (yWrap IntKind.i64 (ySub (yInt i) (1 : Int)))))
                                                    nk =
                                                  true →
                                                (yLe (kf (yNadd (nat_lit 0) (yNat (yInt i))))
                                                        (kf
                                                          (yNadd (nat_lit 0)
                                                            (yNat (yWrap IntKind.i64 (ySub (yInt i) (1 : Int)))))) =
                                                      true →
                                                    fitsC inner nk kf nv fan = false) ∧
                                                  (yLe (kf (yNadd (nat_lit 0) (yNat (yInt i))))
                                                        (kf
                                                          (yNadd (nat_lit 0)
                                                            (yNat (yWrap IntKind.i64 (ySub (yInt i) (1 : Int)))))) =
                                                      false →
                                                    true = true ∧
                                                      ∃ (i' : Nat),
                                                        prFitR nk kf i' ∧
                                                          Nat.succ (msFit nk i') ≤ msFit nk i ∧
                                                            true = true ∧
                                                              yInt i' = yWrap IntKind.i64 (yAdd (yInt i) (1 : Int)) ∧
                                                                true = true)) ∧
                                              (yNlt
                                                    (yNadd (nat_lit 0)
                                                      (yNat (yWrap IntKind.i64 (ySub (yInt i) (1 : Int)))))
                                                    nk =
                                                  false →
                                                False)) ∧
                                          (yIn (yWrap IntKind.i64 (ySub (yInt i) (1 : Int))) nk = false → False)) ∧
                                      (yNlt (yNadd (nat_lit 0) (yNat (yInt i))) nk = false → False)) ∧
                                  (yIn (yInt i) nk = false → False)) ∧
                              (yLt (yInt i) (yInt nk) = false → fitsC inner nk kf nv fan = true)))) ∧
          (inner = false →
            (yNot inner = true →
                (yNot (yEq (yInt nv) (yInt nk)) = true → fitsC inner nk kf nv fan = false) ∧
                  (yNot (yEq (yInt nv) (yInt nk)) = false →
                    true = true ∧
                      (∃ (i0 : Nat), prFitR nk kf i0 ∧ true = true ∧ yInt i0 = (1 : Int) ∧ true = true) ∧
                        ∀ (_ : Nat → AV) (i : Nat),
                          prFitR nk kf i →
                            (yLt (yInt i) (yInt nk) = true →
                                (yIn (yInt i) nk = true →
                                    (yNlt (yNadd (nat_lit 0) (yNat (yInt i))) nk = true →
                                        (yIn (yWrap IntKind.i64 (ySub (yInt i) (1 : Int))) nk = true →
                                            (yNlt
                                                    (yNadd (nat_lit 0)
                                                      (yNat (yWrap IntKind.i64 (ySub (yInt i) (1 : Int)))))
                                                    nk =
                                                  true →
                                                (yLe (kf (yNadd (nat_lit 0) (yNat (yInt i))))
                                                        (kf
                                                          (yNadd (nat_lit 0)
                                                            (yNat (yWrap IntKind.i64 (ySub (yInt i) (1 : Int)))))) =
                                                      true →
                                                    fitsC inner nk kf nv fan = false) ∧
                                                  (yLe (kf (yNadd (nat_lit 0) (yNat (yInt i))))
                                                        (kf
                                                          (yNadd (nat_lit 0)
                                                            (yNat (yWrap IntKind.i64 (ySub (yInt i) (1 : Int)))))) =
                                                      false →
                                                    true = true ∧
                                                      ∃ (i' : Nat),
                                                        prFitR nk kf i' ∧
                                                          Nat.succ (msFit nk i') ≤ msFit nk i ∧
                                                            true = true ∧
                                                              yInt i' = yWrap IntKind.i64 (yAdd (yInt i) (1 : Int)) ∧
                                                                true = true)) ∧
                                              (yNlt
                                                    (yNadd (nat_lit 0)
                                                      (yNat (yWrap IntKind.i64 (ySub (yInt i) (1 : Int)))))
                                                    nk =
                                                  false →
                                                False)) ∧
                                          (yIn (yWrap IntKind.i64 (ySub (yInt i) (1 : Int))) nk = false → False)) ∧
                                      (yNlt (yNadd (nat_lit 0) (yNat (yInt i))) nk = false → False)) ∧
                                  (yIn (yInt i) nk = false → False)) ∧
                              (yLt (yInt i) (yInt nk) = false → fitsC inner nk kf nv fan = true))) ∧
              (yNot inner = false →
                true = true ∧
                  (∃ (i0 : Nat), prFitR nk kf i0 ∧ true = true ∧ yInt i0 = (1 : Int) ∧ true = true) ∧
                    ∀ (_ : Nat → AV) (i : Nat),
                      prFitR nk kf i →
                        (yLt (yInt i) (yInt nk) = true →
                            (yIn (yInt i) nk = true →
                                (yNlt (yNadd (nat_lit 0) (yNat (yInt i))) nk = true →
                                    (yIn (yWrap IntKind.i64 (ySub (yInt i) (1 : Int))) nk = true →
                                        (yNlt (yNadd (nat_lit 0) (yNat (yWrap IntKind.i64 (ySub (yInt i) (1 : Int)))))
                                                nk =
                                              true →
                                            (yLe (kf (yNadd (nat_lit 0) (yNat (yInt i))))
                                                    (kf
                                                      (yNadd (nat_lit 0)
                                                        (yNat (yWrap IntKind.i64 (ySub (yInt i) (1 : Int)))))) =
                                                  true →
                                                fitsC inner nk kf nv fan = false) ∧
                                              (yLe (kf (yNadd (nat_lit 0) (yNat (yInt i))))
                                                    (kf
                                                      (yNadd (nat_lit 0)
                                                        (yNat (yWrap IntKind.i64 (ySub (yInt i) (1 : Int)))))) =
                                                  false →
                                                true = true ∧
                                                  ∃ (i' : Nat),
                                                    prFitR nk kf i' ∧
                                                      Nat.succ (msFit nk i') ≤ msFit nk i ∧
                                                        true = true ∧
                                                          yInt i' = yWrap IntKind.i64 (yAdd (yInt i) (1 : Int)) ∧
                                                            true = true)) ∧
                                          (yNlt (yNadd (nat_lit 0) (yNat (yWrap IntKind.i64 (ySub (yInt i) (1 : Int)))))
                                                nk =
                                              false →
                                            False)) ∧
                                      (yIn (yWrap IntKind.i64 (ySub (yInt i) (1 : Int))) nk = false → False)) ∧
                                  (yNlt (yNadd (nat_lit 0) (yNat (yInt i))) nk = false → False)) ∧
                              (yIn (yInt i) nk = false → False)) ∧
                          (yLt (yInt i) (yInt nk) = false → fitsC inner nk kf nv fan = true))))) := by kernel_rfl
set_option maxRecDepth 100000 in
theorem goalFitsR_ok : goalFitsR := by
  refine kernel_go goalFitsR_eq ?_
  intro inner nilk nk kf nilv nv vf link fan hb
  simp only [yNot_t, yNot_f, yEq_t, yEq_f, yAnd_t, yLt_t, yLt_f, yLe_t, yLe_f, yIn_t, yIn_f, yNlt_t, yNlt_f, yNle_t, yInt_e, yNat_e, yNadd_e, yAdd_e, ySub_e, true_and, and_true, Nat.zero_add, prFitR, msFit] at hb ⊢
  cases inner
  all_goals simp only [true_and, and_true, forall_const, Bool.true_eq_false, Bool.false_eq_true, false_implies, fits_t, fits_f, if_true, if_false]
  all_goals repeat' (first | apply And.intro | intro (_ : Nat → AV) i hi | intro _)
  all_goals (try simp (disch := omega) only [wrap64, yNatSub] at *)
  all_goals first
    | omega
    | exact ⟨1, ⟨Nat.le_refl _, .inr rfl, fun j hj => by omega⟩, rfl⟩
    | (refine ⟨i + 1, ⟨by omega, by omega, hi.2.2.step fun h => by omega⟩, by omega, by omega⟩; done)
    | (exact absurd (‹(nv : Int) ≤ fan ∧ _ ∧ Rises kf nk›).2.2 (Rises.not (i := i) (by omega) (by omega) (by omega)))
    | exact hi.2.2 _ (by omega)
set_option maxRecDepth 100000 in
theorem smFits {f : FuncId} {ann : Nat → (Nat → Int) → Nat → Option (St → LoopA)} (hm : Tryz.prog.follows .mixedOrders = true)
    (h : ∀ (inner nilk : Bool) (nk : Nat) (kf : Nat → Int) (nilv : Bool) (nv : Nat) (vf : Nat → Int) (link fan : Int), yAnd (yNle nk 80) (yNle nv 80) = true → wxF Tryz.prog noSm (ann nk kf) 1000 f (canA gFits (dFits inner nilk nk kf nilv nv vf link fan) []).1 (heapOf (canA gFits (dFits inner nilk nk kf nilv nv vf link fan) []).2) (fun v _ => cmpC (.yb (fitsC inner nk kf nv fan)) v)) :
    SmCall Tryz.prog f (fun args h => (ctS gFits fFits args h).sel) :=
  ctS_ok hm noSm_ok (by decide) (fun ds a hd => by
    unfold fFits at hd
    split at hd
    · simp only [Option.some.injEq, Prod.mk.injEq] at hd
      obtain ⟨h1, rfl⟩ := hd
      exact ⟨_, 1000, h _ _ _ _ _ _ _ _ _ h1⟩
    · cases hd)
end Go.Proofs.YtlfehgagnelbhaaGreatDoor.Ex
namespace Go.Proofs.YtlfehgagnelbhaaGreatDoor.Ex
open Go

-- OPEN shrL rN rA rB rE
def rN (l : List (Int × Int)) : Nat := l.length
def rA (l : List (Int × Int)) (i : Nat) : Int := (l.getD i (0, 0)).1
def rB (l : List (Int × Int)) (i : Nat) : Int := (l.getD i (0, 0)).2
def rE (l : List (Int × Int)) : Bool := l.isEmpty
abbrev rowsW (l : List (Int × Int)) : Dx := .rows (rE l) (rN l) [.int .i64 (rA l), .int .u64 (rB l)]
abbrev ownW : Sx := .own 95 [.int .i64, .int .u64]
abbrev wxP (P : Program) (sm : FuncId → Option Sm) (ann : Nat → Option (St → LoopA)) (f : FuncId) (ss : List Sx) (ds : List Dx) (rs : Sx) (r : Dx) (post : List (List Dx)) : Prop :=
  wxF P sm ann 1000 f (canXs nmI ss ds []).1 (heapOf (canXs nmI ss ds []).2)
    (postX (canXs nmI ss ds []).2.length (delX 0 (canXs nmI ss ds []).2 (ptrId (canXs nmI ss ds []).1)) (ptrId (canXs nmI ss ds []).1) (expR (fun j => (canXs nmI ss ds []).2.length + j) (ptrSh ss ds) rs r post))
abbrev sConf : Sx := .agg [.sc, .sc, .sc, .sc, .sc]
abbrev roU : Sx := .ro 24 [.int .u64]
abbrev sPart : Sx := .agg [.sc, .sc, .sc, roU, roU, .sc]
abbrev dCf (s t f l p : Int) : Dx := .l [.v (.y .i64 s), .v (.y .i64 t), .v (.y .i64 f), .v (.y .i64 l), .v (.y .i64 p)]
abbrev dPt (s v : Int) (i kn : Bool) (nk : Nat) (k : Nat → Int) (vn : Bool) (nv : Nat) (w : Nat → Int) (l : Int) : Dx := .l [.v (.y .i64 s), .v (.y .u64 v), .v (.yb i), .rows kn nk [.int .u64 k], .rows vn nv [.int .u64 w], .v (.y .u64 l)]
def shrOk (cs ps : Int) (pi : Bool) (pnk : Nat) (pk : Nat → Int) (pnv : Nat) (xs : Int) (xi : Bool) (xnk : Nat) (xk : Nat → Int) (xnv : Nat) (cf : Int) : Bool :=
  decide ((0 ≤ ps ∧ ps ≤ cs) ∧ (1 ≤ xs ∧ xs ≤ cs) ∧ xs ≠ ps ∧ fitsC pi pnk pk pnv cf = true ∧ fitsC xi xnk xk xnv cf = true ∧ pi = true ∧ xi = true ∧ pnv = 1 ∧ xnv = 1)
def shrL (cs ct cf ps pv : Int) (pi : Bool) (pnk : Nat) (pk : Nat → Int) (pnv : Nat) (xs xv : Int) (xi : Bool) (xnk : Nat) (xk : Nat → Int) (xnv : Nat) (xw0 : Int) : List (Int × Int) :=
  if shrOk cs ps pi pnk pk pnv xs xi xnk xk xnv cf then [(valC cs ct cf ps 0, xw0), (verC cs ct cf xs, killC xv), (verC cs ct cf ps, bumpC pv)] else []
def lShr : List (Nat × Sm) := [(41, .ct (ctS gConf fRight)), (10, .ct (ctS gConf fWrong)), (44, .ct (ctS gL1 (fL1 verC))), (48, .ct (ctS gL2 (fL2 valC))),
  (27, .ct (ctS gL1 (fR1 verC))), (38, .ct (ctS gL2 (fR2 valC))), (109, .ct (ctS gW (fW bumpC))), (36, .ct (ctS gW (fW bumpC))),
  (112, .ct (ctS gFits fFits)), (23, .ct (ctS gFits fFits))]
def goalShr (P : Program) (f : FuncId) : Prop := ∀ (cs ct cf cl cp ps pv : Int) (pi pkn : Bool) (pnk : Nat) (pk : Nat → Int) (pvn : Bool) (pnv : Nat) (pw : Nat → Int) (pl xs xv : Int) (xi xkn : Bool) (xnk : Nat) (xk : Nat → Int) (xvn : Bool) (xnv : Nat) (xw : Nat → Int) (xl : Int) (L : List (Int × Int)),
  rightC cs ct cf cl cp = true → inU pv = true → inU xv = true → yAnd (yNle pnk 80) (yNle pnv 80) = true → yAnd (yNle xnk 80) (yNle xnv 80) = true → L = shrL cs ct cf ps pv pi pnk pk pnv xs xv xi xnk xk xnv (xw 0) →
  wxP P (smL lShr) (fun _ => none) f [sConf, sPart, sPart] [dCf cs ct cf cl cp, dPt ps pv pi pkn pnk pk pvn pnv pw pl, dPt xs xv xi xkn xnk xk xvn xnv xw xl] ownW (rowsW L) []
theorem verC_or {s t f l p a : Int} (h : rightC s t f l p = true) : (0 ≤ a ∧ a ≤ s ∧ 0 ≤ verC s t f a) ∨ ((a < 0 ∨ s < a) ∧ verC s t f a < 0) := by
  have hp := lay_prod (slot := a) h
  have := rightC_iff.1 h
  unfold verC nodeC
  split
  · have := hp (by omega) (by omega); omega
  · omega
end Go.Proofs.YtlfehgagnelbhaaGreatDoor.Ex
namespace Go.Proofs.YtlfehgagnelbhaaGreatDoor.Ex
open Go

-- OPEN sizeC smallC sameW prSm msSm
def sizeC (s t f : Int) : Int := 3 + 3 * t + (s + 1) * (3 + 2 * f)
def smallC (cs ct cf cl cp : Int) (pnk pnv ank anv bnk bnv fnk fnv tnk tnv : Nat) : Bool :=
  decide ((pnk ≤ 80 ∧ pnv ≤ 80) ∧ (ank ≤ 80 ∧ anv ≤ 80) ∧ (bnk ≤ 80 ∧ bnv ≤ 80) ∧ (fnk ≤ 80 ∧ fnv ≤ 80) ∧ (tnk ≤ 80 ∧ tnv ≤ 80) ∧ rightC cs ct cf cl cp = true ∧ sizeC cs ct cf ≤ 5000)
abbrev cParts : List Cs := [none, none, none, none, none, none, none, none, cU, cU, none, none, none, none, cU, cU, none, none, none, none, cU, cU, none, none, none, none, cU, cU, none, none, none, none, cU, cU, none, none, none, none]
abbrev dParts (cs ct cf cl cp : Int) (pps ppv : Int) (ppi ppkn : Bool) (ppnk : Nat) (ppk : Nat → Int) (ppvn : Bool) (ppnv : Nat) (ppw : Nat → Int) (ppl : Int) (aas aav : Int) (aai aakn : Bool) (aank : Nat) (aak : Nat → Int) (aavn : Bool) (aanv : Nat) (aaw : Nat → Int) (aal : Int) (bbs bbv : Int) (bbi bbkn : Bool) (bbnk : Nat) (bbk : Nat → Int) (bbvn : Bool) (bbnv : Nat) (bbw : Nat → Int) (bbl : Int) (ffs ffv : Int) (ffi ffkn : Bool) (ffnk : Nat) (ffk : Nat → Int) (ffvn : Bool) (ffnv : Nat) (ffw : Nat → Int) (ffl : Int) (tts ttv : Int) (tti ttkn : Bool) (ttnk : Nat) (ttk : Nat → Int) (ttvn : Bool) (ttnv : Nat) (ttw : Nat → Int) (ttl : Int) (xi xk xw : Int) : List Da := [.agg [.v (.y .i64 cs), .v (.y .i64 ct), .v (.y .i64 cf), .v (.y .i64 cl), .v (.y .i64 cp), .v (.y .i64 pps), .v (.y .u64 ppv), .v (.yb ppi), .rows ppkn ppnk [.int .u64 ppk], .rows ppvn ppnv [.int .u64 ppw], .v (.y .u64 ppl), .v (.y .i64 aas), .v (.y .u64 aav), .v (.yb aai), .rows aakn aank [.int .u64 aak], .rows aavn aanv [.int .u64 aaw], .v (.y .u64 aal), .v (.y .i64 bbs), .v (.y .u64 bbv), .v (.yb bbi), .rows bbkn bbnk [.int .u64 bbk], .rows bbvn bbnv [.int .u64 bbw], .v (.y .u64 bbl), .v (.y .i64 ffs), .v (.y .u64 ffv), .v (.yb ffi), .rows ffkn ffnk [.int .u64 ffk], .rows ffvn ffnv [.int .u64 ffw], .v (.y .u64 ffl), .v (.y .i64 tts), .v (.y .u64 ttv), .v (.yb tti), .rows ttkn ttnk [.int .u64 ttk], .rows ttvn ttnv [.int .u64 ttw], .v (.y .u64 ttl), .v (.y .i64 xi), .v (.y .u64 xk), .v (.y .u64 xw)]]
structure Pt where
  s : Int
  v : Int
  i : Bool
  kn : Bool
  nk : Nat
  k : Nat → Int
  vn : Bool
  nv : Nat
  w : Nat → Int
  l : Int
def pConf (ds : List Dc) : Option ((Int × Int × Int × Int × Int) × List Dc) :=
  match ds with
  | .v (.y .i64 s) :: .v (.y .i64 t) :: .v (.y .i64 f) :: .v (.y .i64 l) :: .v (.y .i64 p) :: r => some ((s, t, f, l, p), r)
  | _ => none
def pPart (ds : List Dc) : Option (Pt × List Dc) :=
  match ds with
  | .v (.y .i64 s) :: .v (.y .u64 v) :: .v (.yb i) :: .rows kn nk [.int .u64 k] :: .rows vn nv [.int .u64 w] :: .v (.y .u64 l) :: r => some (⟨s, v, i, kn, nk, k, vn, nv, w, l⟩, r)
  | _ => none
def pTail (ds : List Dc) : Option (Int × Int × Int) :=
  match ds with
  | [.v (.y .i64 a), .v (.y .u64 b), .v (.y .u64 c)] => some (a, b, c)
  | _ => none
def fSm1 (ds : List Dc) : Option (Bool × AV) :=
  match pConf ds with
  | some ((cs, ct, cf, cl, cp), r0) => match pPart r0 with
    | some (p, r1) => match pPart r1 with
      | some (a, r2) => match pPart r2 with
        | some (b, r3) => match pPart r3 with
          | some (f, r4) => match pPart r4 with
            | some (t, r5) => match pTail r5 with
              | some _ => some (true, .yb (smallC cs ct cf cl cp p.nk p.nv a.nk a.nv b.nk b.nv f.nk f.nv t.nk t.nv))
              | none => none
            | none => none
          | none => none
        | none => none
      | none => none
    | none => none
  | none => none
def fSmall (ds : List Da) : Option (Bool × AV) :=
  match ds with
  | [.agg l] => fSm1 l
  | _ => none
abbrev Pt.dcs (p : Pt) (r : List Dc) : List Dc := .v (.y .i64 p.s) :: .v (.y .u64 p.v) :: .v (.yb p.i) :: .rows p.kn p.nk [.int .u64 p.k] :: .rows p.vn p.nv [.int .u64 p.w] :: .v (.y .u64 p.l) :: r
theorem pConf_inv {ds r : List Dc} {s t f l p : Int} (h : pConf ds = some ((s, t, f, l, p), r)) : ds = .v (.y .i64 s) :: .v (.y .i64 t) :: .v (.y .i64 f) :: .v (.y .i64 l) :: .v (.y .i64 p) :: r := by
  unfold pConf at h
  split at h
  · simp only [Option.some.injEq, Prod.mk.injEq] at h
    obtain ⟨⟨rfl, rfl, rfl, rfl, rfl⟩, rfl⟩ := h; rfl
  · cases h
theorem pPart_inv {ds r : List Dc} {p : Pt} (h : pPart ds = some (p, r)) : ds = p.dcs r := by
  unfold pPart at h
  split at h
  · simp only [Option.some.injEq, Prod.mk.injEq] at h
    obtain ⟨rfl, rfl⟩ := h; rfl
  · cases h
theorem pTail_inv {ds : List Dc} {x : Int × Int × Int} (h : pTail ds = some x) : ds = [.v (.y .i64 x.1), .v (.y .u64 x.2.1), .v (.y .u64 x.2.2)] := by
  unfold pTail at h
  split at h
  · simp only [Option.some.injEq] at h
    subst h; rfl
  · cases h
def lSmall : List (Nat × Sm) := [(10, .ct (ctS gConf fWrong))]
abbrev cWr : Cs := some (95, [.int .i64, .int .u64])
def sameW (n m : Nat) (a0 a1 b0 b1 : Nat → Int) : Bool := decide (n = m) && (List.range n).all fun i => decide (a0 i = b0 i ∧ a1 i = b1 i)
def prSm (n : Nat) (a0 a1 b0 b1 : Nat → Int) (i : Nat) : Prop := i ≤ n ∧ ∀ k, k < i → a0 k = b0 k ∧ a1 k = b1 k
def msSm (n i : Nat) : Nat := n - i
def annSame (n : Nat) (a0 a1 b0 b1 : Nat → Int) (b : Nat) : Option (St → LoopA) :=
  match b with
  | 0 => some fun _ => { ι := Nat, tms := [5], tmU := fun i => [.y .i64 (yInt i)], ids := [], hpU := fun _ => [], del := [], ex := 0, pre := prSm n a0 a1 b0 b1, ms := msSm n }
  | _ => none
abbrev dSame (nilA : Bool) (n : Nat) (a0 a1 : Nat → Int) (nilB : Bool) (m : Nat) (b0 b1 : Nat → Int) : List Da :=
  [.cell (.rows nilA n [.int .i64 a0, .int .u64 a1]), .cell (.rows nilB m [.int .i64 b0, .int .u64 b1])]
abbrev gSame : List Ag := [.cell cWr, .cell cWr]
def fSame (ds : List Da) : Option (Bool × AV) :=
  match ds with
  | [.cell (.rows _ n [.int .i64 a0, .int .u64 a1]), .cell (.rows _ m [.int .i64 b0, .int .u64 b1])] => some (yNle n 1000000, .yb (sameW n m a0 a1 b0 b1))
  | _ => none
def fShr (ds : List Dx) : Option (Bool × Dx × List (List Dx)) :=
  match ds with
  | [.l [.v (.y .i64 cs), .v (.y .i64 ct), .v (.y .i64 cf), .v (.y .i64 cl), .v (.y .i64 cp)], .l [.v (.y .i64 ps), .v (.y .u64 pv), .v (.yb pi), .rows _ pnk [.int .u64 pk], .rows _ pnv [.int .u64 _], .v (.y .u64 _)], .l [.v (.y .i64 xs), .v (.y .u64 xv), .v (.yb xi), .rows _ xnk [.int .u64 xk], .rows _ xnv [.int .u64 xw], .v (.y .u64 _)]] =>
    some (yAnd (rightC cs ct cf cl cp) (yAnd (inU pv) (yAnd (inU xv) (yAnd (yAnd (yNle pnk 80) (yNle pnv 80)) (yAnd (yNle xnk 80) (yNle xnv 80))))), rowsW (shrL cs ct cf ps pv pi pnk pk pnv xs xv xi xnk xk xnv (xw 0)), [])
  | _ => none
theorem wrong_right' {s t f l p : Int} : 0 ≤ wrongC s t f l p ↔ rightC s t f l p = false := by
  rw [rightC_off]
  unfold wrongC
  repeat' split
  all_goals omega
theorem sameW_iff {n m : Nat} {a0 a1 b0 b1 : Nat → Int} : sameW n m a0 a1 b0 b1 = true ↔ n = m ∧ ∀ i, i < n → a0 i = b0 i ∧ a1 i = b1 i := by
  simp [sameW, List.all_eq_true]
theorem sameW_off {n m : Nat} {a0 a1 b0 b1 : Nat → Int} : sameW n m a0 a1 b0 b1 = false ↔ ¬ (n = m ∧ ∀ i, i < n → a0 i = b0 i ∧ a1 i = b1 i) := by
  rw [← sameW_iff]; simp
theorem sameW_no {n : Nat} {a b : Nat → Int} (h : sameW n n a b a b = false) : False := by
  rw [sameW_iff.2 ⟨rfl, fun _ _ => ⟨rfl, rfl⟩⟩] at h; cases h
theorem shr_len {cs ct cf ps pv : Int} {pi : Bool} {pnk : Nat} {pk : Nat → Int} {pnv : Nat} {xs xv : Int} {xi : Bool} {xnk : Nat} {xk : Nat → Int} {xnv : Nat} {xw0 : Int} : rN (shrL cs ct cf ps pv pi pnk pk pnv xs xv xi xnk xk xnv xw0) ≤ 1000000 := by
  unfold rN shrL
  split <;> simp
set_option maxRecDepth 100000 in
set_option maxHeartbeats 4000000 in
theorem fSmall_inv {ds : List Da} {a : AV} (h : fSmall ds = some (true, a)) : ∃ (cs ct cf cl cp : Int) (pps ppv : Int) (ppi ppkn : Bool) (ppnk : Nat) (ppk : Nat → Int) (ppvn : Bool) (ppnv : Nat) (ppw : Nat → Int) (ppl : Int) (aas aav : Int) (aai aakn : Bool) (aank : Nat) (aak : Nat → Int) (aavn : Bool) (aanv : Nat) (aaw : Nat → Int) (aal : Int) (bbs bbv : Int) (bbi bbkn : Bool) (bbnk : Nat) (bbk : Nat → Int) (bbvn : Bool) (bbnv : Nat) (bbw : Nat → Int) (bbl : Int) (ffs ffv : Int) (ffi ffkn : Bool) (ffnk : Nat) (ffk : Nat → Int) (ffvn : Bool) (ffnv : Nat) (ffw : Nat → Int) (ffl : Int) (tts ttv : Int) (tti ttkn : Bool) (ttnk : Nat) (ttk : Nat → Int) (ttvn : Bool) (ttnv : Nat) (ttw : Nat → Int) (ttl : Int) (xi xk xw : Int), ds = dParts cs ct cf cl cp pps ppv ppi ppkn ppnk ppk ppvn ppnv ppw ppl aas aav aai aakn aank aak aavn aanv aaw aal bbs bbv bbi bbkn bbnk bbk bbvn bbnv bbw bbl ffs ffv ffi ffkn ffnk ffk ffvn ffnv ffw ffl tts ttv tti ttkn ttnk ttk ttvn ttnv ttw ttl xi xk xw ∧ a = .yb (smallC cs ct cf cl cp ppnk ppnv aank aanv bbnk bbnv ffnk ffnv ttnk ttnv) := by
  unfold fSmall at h
  split at h
  case h_2 => cases h
  unfold fSm1 at h
  split at h
  case h_2 => cases h
  rename_i e0
  split at h
  case h_2 => cases h
  rename_i p _ e1
  split at h
  case h_2 => cases h
  rename_i a2 _ e2
  split at h
  case h_2 => cases h
  rename_i b _ e3
  split at h
  case h_2 => cases h
  rename_i f _ e4
  split at h
  case h_2 => cases h
  rename_i t _ e5
  split at h
  case h_2 => cases h
  rename_i x e6
  simp only [Option.some.injEq, Prod.mk.injEq, true_and] at h
  subst h
  obtain rfl := pTail_inv e6
  obtain rfl := pPart_inv e5
  obtain rfl := pPart_inv e4
  obtain rfl := pPart_inv e3
  obtain rfl := pPart_inv e2
  obtain rfl := pPart_inv e1
  obtain rfl := pConf_inv e0
  exact ⟨_, _, _, _, _, p.s, p.v, p.i, p.kn, p.nk, p.k, p.vn, p.nv, p.w, p.l, a2.s, a2.v, a2.i, a2.kn, a2.nk, a2.k, a2.vn, a2.nv, a2.w, a2.l, b.s, b.v, b.i, b.kn, b.nk, b.k, b.vn, b.nv, b.w, b.l, f.s, f.v, f.i, f.kn, f.nk, f.k, f.vn, f.nv, f.w, f.l, t.s, t.v, t.i, t.kn, t.nk, t.k, t.vn, t.nv, t.w, t.l, x.1, x.2.1, x.2.2, rfl, rfl⟩
set_option maxRecDepth 100000 in
theorem smVer (hm : Tryz.prog.follows .mixedOrders = true) : SmCall Tryz.prog 44 (fun args h => (ctS gL1 (fL1 verC) args h).sel) := smL1 (f := 44) (F := verC) hm @goalVer_ok
set_option maxRecDepth 100000 in
theorem smVal (hm : Tryz.prog.follows .mixedOrders = true) : SmCall Tryz.prog 48 (fun args h => (ctS gL2 (fL2 valC) args h).sel) := smL2 (f := 48) (F := valC) hm @goalVal_ok
set_option maxRecDepth 100000 in
theorem smVerR (hm : Tryz.prog.follows .mixedOrders = true) : SmCall Tryz.prog 27 (fun args h => (ctS gL1 (fR1 verC) args h).sel) := smR1 (f := 27) (F := verC) hm @goalVerR_ok
set_option maxRecDepth 100000 in
theorem smValR (hm : Tryz.prog.follows .mixedOrders = true) : SmCall Tryz.prog 38 (fun args h => (ctS gL2 (fR2 valC) args h).sel) := smR2 (f := 38) (F := valC) hm @goalValR_ok
set_option maxRecDepth 100000 in
theorem smBump (hm : Tryz.prog.follows .mixedOrders = true) : SmCall Tryz.prog 109 (fun args h => (ctS gW (fW bumpC) args h).sel) := smW (f := 109) (F := bumpC) hm @goalBump_ok
set_option maxRecDepth 100000 in
theorem smBumpR (hm : Tryz.prog.follows .mixedOrders = true) : SmCall Tryz.prog 36 (fun args h => (ctS gW (fW bumpC) args h).sel) := smW (f := 36) (F := bumpC) hm @goalBumpR_ok
set_option maxRecDepth 100000 in
theorem smFitsX (hm : Tryz.prog.follows .mixedOrders = true) : SmCall Tryz.prog 112 (fun args h => (ctS gFits fFits args h).sel) :=
  ctS_ok hm noSm_ok (by decide) (fun ds a hd => by
    unfold fFits at hd
    split at hd
    · simp only [Option.some.injEq, Prod.mk.injEq] at hd
      obtain ⟨h1, rfl⟩ := hd
      rename_i inner nilk nk kf nilv nv vf link fan
      exact ⟨annFits nk kf, 1000, @goalFits_ok inner nilk nk kf nilv nv vf link fan h1⟩
    · cases hd)
set_option maxRecDepth 100000 in
theorem smFitsRX (hm : Tryz.prog.follows .mixedOrders = true) : SmCall Tryz.prog 23 (fun args h => (ctS gFits fFits args h).sel) :=
  ctS_ok hm noSm_ok (by decide) (fun ds a hd => by
    unfold fFits at hd
    split at hd
    · simp only [Option.some.injEq, Prod.mk.injEq] at hd
      obtain ⟨h1, rfl⟩ := hd
      rename_i inner nilk nk kf nilv nv vf link fan
      exact ⟨annFitsR nk kf, 1000, @goalFitsR_ok inner nilk nk kf nilv nv vf link fan h1⟩
    · cases hd)
set_option maxRecDepth 100000 in
theorem lShr_ok (hm : Tryz.prog.follows .mixedOrders = true) : SmAll Tryz.prog lShr :=
  ⟨smRight hm, smWrong hm, smVer hm, smVal hm, smVerR hm, smValR hm, smBump hm, smBumpR hm, smFitsX hm, smFitsRX hm, trivial⟩
set_option maxRecDepth 100000 in
theorem smShr {f : FuncId} (hm : Tryz.prog.follows .mixedOrders = true) (hg : goalShr Tryz.prog f) : SmCall Tryz.prog f (fun args h => (ctX [sConf, sPart, sPart] ownW fShr args h).sel) :=
  ctX_ok hm (smL_ok (lShr_ok hm)) (fun ds r post h => by
    unfold fShr at h
    split at h
    · simp only [Option.some.injEq, Prod.mk.injEq] at h
      obtain ⟨h1, rfl, rfl⟩ := h
      simp only [yAnd_t] at h1
      obtain ⟨q1, q2, q3, q4, q5⟩ := h1
      exact ⟨_, 1000, @hg _ _ _ _ _ _ _ _ _ _ _ _ _ _ _ _ _ _ _ _ _ _ _ _ _ _ q1 q2 q3 (by simp only [yAnd_t]; exact q4) (by simp only [yAnd_t]; exact q5) rfl⟩
    · cases h)
end Go.Proofs.YtlfehgagnelbhaaGreatDoor.Ex
