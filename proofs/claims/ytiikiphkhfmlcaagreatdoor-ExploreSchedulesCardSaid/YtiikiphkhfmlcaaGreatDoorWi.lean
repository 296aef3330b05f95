/- Walks by symbols: what the symbols' conditions say. -/
import Derived.Test.YtiikiphkhfmlcaaGreatDoorWh
import Derived.KernelRfl
noncomputable section
namespace Go.Proofs.YtiikiphkhfmlcaaGreatDoor.Ex
open Go

/-- What a walk must meet, ahead of what it goes on with. -/
def mst (b : Bool) (p : Prop) : Prop := (b = true → p) ∧ (b = false → False)
theorem yLt_t {a b : Int} : (yLt a b = true) = (a < b) := by simp [yLt]
theorem yLt_f {a b : Int} : (yLt a b = false) = (b ≤ a) := by simp [yLt]
theorem yLe_t {a b : Int} : (yLe a b = true) = (a ≤ b) := by simp [yLe]
theorem yLe_f {a b : Int} : (yLe a b = false) = (b < a) := by simp [yLe]
theorem yEq_t {a b : Int} : (yEq a b = true) = (a = b) := by simp [yEq]
theorem yEq_f {a b : Int} : (yEq a b = false) = (a ≠ b) := by simp [yEq]
theorem yNot_t {a : Bool} : (yNot a = true) = (a = false) := by simp [yNot]
theorem yNot_f {a : Bool} : (yNot a = false) = (a = true) := by simp [yNot]
theorem yAnd_t {a b : Bool} : (yAnd a b = true) = (a = true ∧ b = true) := by simp [yAnd]
theorem yAnd_f {a b : Bool} : (yAnd a b = false) = (a = false ∨ b = false) := by cases a <;> simp [yAnd]
theorem yOr_t {a b : Bool} : (yOr a b = true) = (a = true ∨ b = true) := by simp [yOr]
theorem yOr_f {a b : Bool} : (yOr a b = false) = (a = false ∧ b = false) := by simp [yOr]
theorem yIff_t {a b : Bool} : (yIff a b = true) = (a = b) := by simp [yIff]
theorem yIff_f {a b : Bool} : (yIff a b = false) = (a ≠ b) := by simp [yIff]
theorem yIn_t {a : Int} {n : Nat} : (yIn a n = true) = (0 ≤ a ∧ a < n) := by simp [yIn]
theorem yIn_f {a : Int} {n : Nat} : (yIn a n = false) = ¬ (0 ≤ a ∧ a < n) := by simp [yIn]
theorem yNlt_t {a b : Nat} : (yNlt a b = true) = (a < b) := by simp [yNlt]
theorem yNlt_f {a b : Nat} : (yNlt a b = false) = (b ≤ a) := by simp [yNlt]
theorem yNle_t {a b : Nat} : (yNle a b = true) = (a ≤ b) := by simp [yNle]
theorem yNle_f {a b : Nat} : (yNle a b = false) = (b < a) := by simp [yNle]
theorem yNeq_t {a b : Nat} : (yNeq a b = true) = (a = b) := by simp [yNeq]
theorem yNeq_f {a b : Nat} : (yNeq a b = false) = (a ≠ b) := by simp [yNeq]
theorem yGrow_t {n b : Nat} : (yGrow n b = true) = (4 * n * b ≤ 140737488355328) := by simp [yGrow, growOk]
theorem yGrow_f {n b : Nat} : (yGrow n b = false) = (140737488355328 < 4 * n * b) := by simp [yGrow, growOk, nble]
theorem yInt_e {n : Nat} : yInt n = (n : Int) := rfl
theorem yNat_e {n : Nat} : yNat (n : Int) = n := by simp [yNat]
theorem yNadd_e {a b : Nat} : yNadd a b = a + b := rfl
theorem yNsub_e {a b : Nat} : yNsub a b = a - b := rfl
theorem yAdd_e {a b : Int} : yAdd a b = a + b := rfl
theorem ySub_e {a b : Int} : ySub a b = a - b := rfl
theorem yMul_e {a b : Int} : yMul a b = a * b := rfl
theorem wrap64 {n : Int} (h1 : -9223372036854775808 ≤ n) (h2 : n < 9223372036854775808) : yWrap .i64 n = n := wrap_id _ _ (by simp only [negLim]; omega) (by simp only [posLim]; omega)
theorem wrapU64 {n : Int} (h1 : 0 ≤ n) (h2 : n < 18446744073709551616) : yWrap .u64 n = n := wrap_id _ _ (by simp only [negLim]; omega) (by simp only [posLim]; omega)
theorem yCol_int {k : IntKind} {n : Nat} {x : Nat → Int} : yCol (.int k) n (fun i => .y k (x i)) = true := by
  rw [yCol_ok]; intro i _; simp only [kOk, yI]; cases k <;> rfl
theorem yCol_bool {n : Nat} {x : Nat → Bool} : yCol .bool n (fun i => .yb (x i)) = true := by
  rw [yCol_ok]; intro i _; rfl
/-- All of them at once. -/
theorem vS : (∀ {a : Bool}, (yNot a = true) = (a = false)) ∧ (∀ {a : Bool}, (yNot a = false) = (a = true)) ∧ (∀ {a b : Int}, (yEq a b = true) = (a = b)) ∧ (∀ {a b : Int}, (yEq a b = false) = (a ≠ b)) ∧ (∀ {a b : Bool}, (yAnd a b = true) = (a = true ∧ b = true)) ∧ (∀ {a b : Bool}, (yAnd a b = false) = (a = false ∨ b = false)) ∧ (∀ {a b : Bool}, (yOr a b = true) = (a = true ∨ b = true)) ∧ (∀ {a b : Bool}, (yOr a b = false) = (a = false ∧ b = false)) ∧ (∀ {a b : Bool}, (yIff a b = true) = (a = b)) ∧ (∀ {a b : Bool}, (yIff a b = false) = (a ≠ b)) ∧ (∀ {a b : Int}, (yLt a b = true) = (a < b)) ∧ (∀ {a b : Int}, (yLt a b = false) = (b ≤ a)) ∧ (∀ {a b : Int}, (yLe a b = true) = (a ≤ b)) ∧ (∀ {a b : Int}, (yLe a b = false) = (b < a)) ∧ (∀ {a : Int} {n : Nat}, (yIn a n = true) = (0 ≤ a ∧ a < n)) ∧ (∀ {a : Int} {n : Nat}, (yIn a n = false) = ¬ (0 ≤ a ∧ a < n)) ∧ (∀ {a b : Nat}, (yNlt a b = true) = (a < b)) ∧ (∀ {a b : Nat}, (yNlt a b = false) = (b ≤ a)) ∧ (∀ {a b : Nat}, (yNle a b = true) = (a ≤ b)) ∧ (∀ {a b : Nat}, (yNle a b = false) = (b < a)) ∧ (∀ {a b : Nat}, (yNeq a b = true) = (a = b)) ∧ (∀ {a b : Nat}, (yNeq a b = false) = (a ≠ b)) ∧ (∀ {n b : Nat}, (yGrow n b = true) = (4 * n * b ≤ 140737488355328)) ∧ (∀ {n b : Nat}, (yGrow n b = false) = (140737488355328 < 4 * n * b)) ∧ (∀ {n : Nat}, yInt n = (n : Int)) ∧ (∀ {n : Nat}, yNat (n : Int) = n) ∧ (∀ {a b : Nat}, yNadd a b = a + b) ∧ (∀ {a b : Nat}, yNsub a b = a - b) ∧ (∀ {a b : Int}, yAdd a b = a + b) ∧ (∀ {a b : Int}, ySub a b = a - b) ∧ (∀ {a b : Int}, yMul a b = a * b) ∧ (∀ {k : IntKind} {n : Nat} {x : Nat → Int}, yCol (.int k) n (fun i => .y k (x i)) = true) ∧ (∀ {n : Nat} {x : Nat → Bool}, yCol .bool n (fun i => .yb (x i)) = true) ∧ (∀ (p : Prop), (True ∧ p) = p) ∧ (∀ (p : Prop), (p ∧ True) = p) ∧ (∀ (n : Nat), 0 + n = n) ∧ (∀ (n : Nat), n + 0 = n) ∧ (∀ (n : Nat), n ≤ n) ∧ (∀ (p : Prop), (True → p) = p) ∧ ((true = false) = False) ∧ ((false = true) = False) ∧ (∀ (p : Prop), (False → p) = True) ∧ (∀ (b : Bool) (p : Prop), mst b p = ((b = true → p) ∧ (b = false → False))) :=
  ⟨@yNot_t, @yNot_f, @yEq_t, @yEq_f, @yAnd_t, @yAnd_f, @yOr_t, @yOr_f, @yIff_t, @yIff_f, @yLt_t, @yLt_f, @yLe_t, @yLe_f, @yIn_t, @yIn_f, @yNlt_t, @yNlt_f, @yNle_t, @yNle_f, @yNeq_t, @yNeq_f, @yGrow_t, @yGrow_f, @yInt_e, @yNat_e, @yNadd_e, @yNsub_e, @yAdd_e, @ySub_e, @yMul_e, @yCol_int, @yCol_bool, true_and, and_true, Nat.zero_add, Nat.add_zero, Nat.le_refl, true_implies, by simp, by simp, false_implies, fun _ _ => rfl⟩
theorem kernel_go {p q : Prop} (h : p = q) (hq : q) : p := h ▸ hq
end Go.Proofs.YtiikiphkhfmlcaaGreatDoor.Ex
