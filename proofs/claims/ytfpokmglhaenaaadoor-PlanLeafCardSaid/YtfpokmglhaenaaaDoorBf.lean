/- Fields of bits, as arithmetic. -/
import Derived.Test.YtfpokmglhaenaaaDoorWi
namespace Go.Proofs.YtfpokmglhaenaaaDoor.Ex
open Go

theorem wrapU {n : Nat} (h : n < 18446744073709551616) : IntKind.wrap .u64 (n : Int) = n := wrapU64 (n := (n : Int)) (by omega) (by omega)
theorem bits_and {a b : Nat} (ha : a < 18446744073709551616) (hb : b < 18446744073709551616) : yBits .and .u64 (a : Int) (b : Int) = ((a &&& b : Nat) : Int) := by
  have h : (BitVec.ofNat 64 a &&& BitVec.ofNat 64 b).toNat = a &&& b := by
    rw [BitVec.toNat_and, BitVec.toNat_ofNat, BitVec.toNat_ofNat, Nat.mod_eq_of_lt ha, Nat.mod_eq_of_lt hb]
  show IntKind.wrap .u64 ((BitVec.ofInt 64 (a : Int) &&& BitVec.ofInt 64 (b : Int)).toNat : Int) = _
  rw [BitVec.ofInt_natCast, BitVec.ofInt_natCast, h]
  exact wrapU (Nat.lt_of_le_of_lt Nat.and_le_left ha)
theorem bits_or {a b : Nat} (ha : a < 18446744073709551616) (hb : b < 18446744073709551616) : yBits .or .u64 (a : Int) (b : Int) = ((a ||| b : Nat) : Int) := by
  have h : (BitVec.ofNat 64 a ||| BitVec.ofNat 64 b).toNat = a ||| b := by
    rw [BitVec.toNat_or, BitVec.toNat_ofNat, BitVec.toNat_ofNat, Nat.mod_eq_of_lt ha, Nat.mod_eq_of_lt hb]
  show IntKind.wrap .u64 ((BitVec.ofInt 64 (a : Int) ||| BitVec.ofInt 64 (b : Int)).toNat : Int) = _
  rw [BitVec.ofInt_natCast, BitVec.ofInt_natCast, h]
  exact wrapU (Nat.or_lt_two_pow (n := 64) ha hb)
/-- w with the bits of m struck. -/
theorem bits_not {a b : Nat} (ha : a < 18446744073709551616) (hb : b < 18446744073709551616) : ∃ c : Nat, yBits .andNot .u64 (a : Int) (b : Int) = (c : Int) ∧ c < 18446744073709551616 ∧ ∀ j, c.testBit j = (a.testBit j && !b.testBit j) := by
  refine ⟨(BitVec.ofNat 64 a &&& ~~~BitVec.ofNat 64 b).toNat, ?_, BitVec.isLt _, fun j => ?_⟩
  · show IntKind.wrap .u64 ((BitVec.ofInt 64 (a : Int) &&& ~~~BitVec.ofInt 64 (b : Int)).toNat : Int) = _
    rw [BitVec.ofInt_natCast, BitVec.ofInt_natCast]
    exact wrapU (BitVec.isLt _)
  · rw [BitVec.testBit_toNat]
    by_cases hj : j < 64
    · simp [hj, ← BitVec.getLsbD_eq_getElem, BitVec.getLsbD_ofNat]
    · have hp : 18446744073709551616 ≤ 2 ^ j := Nat.pow_le_pow_right (n := 2) (by omega) (show 64 ≤ j by omega)
      have h1 : a.testBit j = false := Nat.testBit_lt_two_pow (Nat.lt_of_lt_of_le ha hp)
      simp [hj, h1]
theorem mask_bit (at_ n j : Nat) : ((2 ^ n - 1) * 2 ^ at_).testBit j = (decide (at_ ≤ j) && decide (j - at_ < n)) := by
  rw [Nat.mul_comm, Nat.testBit_two_pow_mul, Nat.testBit_two_pow_sub_one]
/-- A field is put. -/
theorem field_put {w v at_ n : Nat} (hw : w < 18446744073709551616) (hv : v < 18446744073709551616) (hn : at_ + n ≤ 64) {M S : Int} (hM : M = (((2 ^ n - 1) * 2 ^ at_ : Nat) : Int)) (hS : S = ((v * 2 ^ at_ % 18446744073709551616 : Nat) : Int)) :
    yBits .or .u64 (yBits .andNot .u64 (w : Int) M) (yBits .and .u64 S M) = ((2 ^ (at_ + n) * (w / 2 ^ (at_ + n)) + (2 ^ at_ * (v % 2 ^ n) + w % 2 ^ at_) : Nat) : Int) := by
  subst hM hS
  have p1 : 2 ^ (at_ + n) ≤ 18446744073709551616 := Nat.pow_le_pow_right (n := 2) (by omega) hn
  have p0 : 0 < 2 ^ at_ := Nat.two_pow_pos _
  have p2 : (2 ^ n - 1) * 2 ^ at_ < 18446744073709551616 := by
    rw [Nat.sub_mul, ← Nat.pow_add, Nat.add_comm n at_]; omega
  obtain ⟨c, e1, e2, e3⟩ := bits_not hw p2
  rw [e1, bits_and (Nat.mod_lt _ (by decide)) p2, bits_or e2 (Nat.lt_of_le_of_lt Nat.and_le_right p2)]
  congr 1
  apply Nat.eq_of_testBit_eq
  intro j
  have q1 : w % 2 ^ at_ < 2 ^ at_ := Nat.mod_lt _ p0
  have q2 : v % 2 ^ n < 2 ^ n := Nat.mod_lt _ (Nat.two_pow_pos _)
  have q3 : 2 ^ at_ * (v % 2 ^ n) + w % 2 ^ at_ < 2 ^ (at_ + n) := by
    rw [Nat.pow_add]
    calc 2 ^ at_ * (v % 2 ^ n) + w % 2 ^ at_ < 2 ^ at_ * (v % 2 ^ n) + 2 ^ at_ := by omega
      _ = 2 ^ at_ * (v % 2 ^ n + 1) := by rw [Nat.mul_add, Nat.mul_one]
      _ ≤ 2 ^ at_ * 2 ^ n := Nat.mul_le_mul_left _ q2
  rw [Nat.testBit_two_pow_mul_add _ q3, Nat.testBit_two_pow_mul_add _ q1, Nat.testBit_or, Nat.testBit_and, e3, mask_bit]
  rw [show (18446744073709551616 : Nat) = 2 ^ 64 from rfl, Nat.testBit_mod_two_pow, Nat.mul_comm v, Nat.testBit_two_pow_mul, Nat.testBit_mod_two_pow, Nat.testBit_mod_two_pow, Nat.testBit_div_two_pow]
  by_cases h1 : j < at_
  · simp [h1, show j < at_ + n by omega, show ¬ at_ ≤ j by omega]
  · by_cases h2 : j < at_ + n
    · simp [h1, h2, show at_ ≤ j by omega, show j - at_ < n by omega, show j < 64 by omega]
    · simp [h1, h2, show at_ ≤ j by omega, show ¬ j - at_ < n by omega, show j - (at_ + n) + (at_ + n) = j by omega]
/-- A field is read. -/
theorem field_get {w at_ n : Nat} (hw : w < 18446744073709551616) (hn : n ≤ 64) (ha : at_ ≤ 64) {M : Int} (hM : M = ((2 ^ n - 1 : Nat) : Int)) : yBits .and .u64 (yShr .u64 (w : Int) (at_ : Int)) M = ((w / 2 ^ at_ % 2 ^ n : Nat) : Int) := by
  subst hM
  have e : yShr .u64 (w : Int) (at_ : Int) = ((w / 2 ^ at_ : Nat) : Int) := by
    unfold yShr
    have : min (Int.toNat (at_ : Int)) (IntKind.bits .u64) = at_ := by
      show min (Int.toNat (at_ : Int)) 64 = at_
      simp; omega
    rw [this]
    have : ((2 : Int) ^ at_) = ((2 ^ at_ : Nat) : Int) := by simp
    rw [this]
    rw [Int.fdiv_eq_ediv_of_nonneg _ (Int.natCast_nonneg _)]
    rfl
  have p1 : 2 ^ n ≤ 18446744073709551616 := Nat.pow_le_pow_right (n := 2) (by omega) hn
  have p3 : 0 < 2 ^ n := Nat.two_pow_pos _
  rw [e, bits_and (Nat.lt_of_le_of_lt (Nat.div_le_self _ _) hw) (by omega), Nat.and_two_pow_sub_one_eq_mod]
theorem field_put' {w v at_ n : Nat} (hw : w < 18446744073709551616) (hv : v < 18446744073709551616) (hn : at_ + n ≤ 64) {M S R : Int} (hM : M = (((2 ^ n - 1) * 2 ^ at_ : Nat) : Int)) (hS : S = ((v * 2 ^ at_ % 18446744073709551616 : Nat) : Int)) (hR : R = yBits .and .u64 S M) :
    yBits .or .u64 (yBits .andNot .u64 (w : Int) M) R = ((2 ^ (at_ + n) * (w / 2 ^ (at_ + n)) + (2 ^ at_ * (v % 2 ^ n) + w % 2 ^ at_) : Nat) : Int) := by
  rw [hR]; exact field_put hw hv hn hM hS
theorem wrap_u64 (x : Int) : IntKind.wrap .u64 x = x % 18446744073709551616 := by
  unfold IntKind.wrap
  have : ((2 : Int) ^ IntKind.bits .u64) = 18446744073709551616 := by decide
  rw [this]; rfl
theorem shl_u {v n : Nat} (hn : n ≤ 64) : yShl .u64 (v : Int) (n : Int) = ((v * 2 ^ n % 18446744073709551616 : Nat) : Int) := by
  unfold yShl
  have h1 : min (Int.toNat (n : Int)) (IntKind.bits .u64) = n := by
    show min (Int.toNat (n : Int)) 64 = n
    simp; omega
  rw [h1]
  have h2 : ((2 : Int) ^ n) = ((2 ^ n : Nat) : Int) := by simp
  rw [h2]
  rw [wrap_u64]
  rfl
theorem quo_u {w c : Nat} (hw : w < 18446744073709551616) : yQuo .u64 (w : Int) (c : Int) = ((w / c : Nat) : Int) := by
  unfold yQuo
  rw [Int.tdiv_eq_ediv_of_nonneg (Int.natCast_nonneg _), ← Int.natCast_ediv]
  exact wrapU (Nat.lt_of_le_of_lt (Nat.div_le_self _ _) hw)
theorem rem_u {w c : Nat} : yRem (w : Int) (c : Int) = ((w % c : Nat) : Int) := by
  unfold yRem
  rw [Int.tmod_eq_emod_of_nonneg (Int.natCast_nonneg _)]; rfl
end Go.Proofs.YtfpokmglhaenaaaDoor.Ex
