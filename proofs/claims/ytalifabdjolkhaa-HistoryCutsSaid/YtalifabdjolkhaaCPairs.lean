/- Contract: gleaningref21.Pairs tells whether two lists of pairs are the same. -/
import Derived.Test.YtalifabdjolkhaaWi
import Derived.Test.YtalifabdjolkhaaProg
namespace Go.Proofs.Ytalifabdjolkhaa.Ex
open Go

-- OPEN samePairs samePre msTo
def samePairs (n m : Nat) (a0 a1 b0 b1 : Nat → Int) : Bool := decide (n = m ∧ ∀ i, i < n → a0 i = b0 i ∧ a1 i = b1 i)
def samePre (n : Nat) (a0 a1 b0 b1 : Nat → Int) (i : Nat) : Prop := i ≤ n ∧ ∀ k, k < i → a0 k = b0 k ∧ a1 k = b1 k
def msTo (n i : Nat) : Nat := n - i
abbrev cPair : Cs := some (50, [.int .u64, .int .u64])
def annPairs (n : Nat) (a0 a1 b0 b1 : Nat → Int) (b : Nat) : Option (St → LoopA) :=
  match b with
  | 0 => some fun _ => { ι := Nat, tms := [5], tmU := fun i => [.y .i64 (yInt i)], ids := [], hpU := fun _ => [], del := [], ex := 0, pre := samePre n a0 a1 b0 b1, ms := msTo n }
  | _ => none
abbrev dPairs (nilA : Bool) (n : Nat) (a0 a1 : Nat → Int) (nilB : Bool) (m : Nat) (b0 b1 : Nat → Int) : List Da :=
  [.cell (.rows nilA n [.int .u64 a0, .int .u64 a1]), .cell (.rows nilB m [.int .u64 b0, .int .u64 b1])]
abbrev gPairs : List Ag := [.cell cPair, .cell cPair]
def fPairs (ds : List Da) : Option (Bool × AV) :=
  match ds with
  | [.cell (.rows _ n [.int .u64 a0, .int .u64 a1]), .cell (.rows _ m [.int .u64 b0, .int .u64 b1])] => some (yNle n 1000000, .yb (samePairs n m a0 a1 b0 b1))
  | _ => none
def goalPairs : Prop := ∀ (nilA : Bool) (n : Nat) (a0 a1 : Nat → Int) (nilB : Bool) (m : Nat) (b0 b1 : Nat → Int), yNle n 1000000 = true →
  wxF Try.prog noSm (annPairs n a0 a1 b0 b1) 1000 18 (canA gPairs (dPairs nilA n a0 a1 nilB m b0 b1) []).1 (heapOf (canA gPairs (dPairs nilA n a0 a1 nilB m b0 b1) []).2) (fun v _ => cmpC (.yb (samePairs n m a0 a1 b0 b1)) v)
theorem goalPairs_eq : goalPairs = (∀ (nilA : Bool) (n : Nat) (a0 a1 : Nat → Int) (nilB : Bool) (m : Nat) (b0 b1 : Nat → Int),
  yNle n 1000000 = true →
    (yNot (yEq (yInt n) (yInt m)) = true → samePairs n m a0 a1 b0 b1 = false) ∧
      (yNot (yEq (yInt n) (yInt m)) = false →
        true = true ∧
          (∃ (i0 : Nat), samePre n a0 a1 b0 b1 i0 ∧ true = true ∧ yInt i0 = 0 ∧ true = true) ∧
            ∀ (g : Nat → AV) (i : Nat),
              samePre n a0 a1 b0 b1 i →
                (yLt (yInt i) (yInt n) = true →
                    (yIn (yInt i) n = true →
                        (yNlt (yNadd 0 (yNat (yInt i))) n = true →
                            (yIn (yInt i) m = true →
                                (yNlt (yNadd 0 (yNat (yInt i))) m = true →
                                    (yNot
                                            (yAnd (yEq (a0 (yNadd 0 (yNat (yInt i)))) (b0 (yNadd 0 (yNat (yInt i)))))
                                              (yAnd (yEq (a1 (yNadd 0 (yNat (yInt i)))) (b1 (yNadd 0 (yNat (yInt i)))))
                                                true)) =
                                          true →
                                        samePairs n m a0 a1 b0 b1 = false) ∧
                                      (yNot
                                            (yAnd (yEq (a0 (yNadd 0 (yNat (yInt i)))) (b0 (yNadd 0 (yNat (yInt i)))))
                                              (yAnd (yEq (a1 (yNadd 0 (yNat (yInt i)))) (b1 (yNadd 0 (yNat (yInt i)))))
                                                true)) =
                                          false →
                                        true = true ∧
                                          ∃ (i' : Nat),
                                            samePre n a0 a1 b0 b1 i' ∧
                                              Nat.succ (msTo n i') ≤ msTo n i ∧
                                                true = true ∧
                                                  yInt i' = yWrap IntKind.i64 (yAdd (yInt i) 1) ∧ true = true)) ∧
                                  (yNlt (yNadd 0 (yNat (yInt i))) m = false → False)) ∧
                              (yIn (yInt i) m = false → False)) ∧
                          (yNlt (yNadd 0 (yNat (yInt i))) n = false → False)) ∧
                      (yIn (yInt i) n = false → False)) ∧
                  (yLt (yInt i) (yInt n) = false → samePairs n m a0 a1 b0 b1 = true))) := by kernel_rfl
set_option maxRecDepth 100000 in
theorem goalPairs_ok : goalPairs := by
  refine kernel_go goalPairs_eq ?_
  intro nilA n a0 a1 nilB m b0 b1 hn
  simp only [yNot_t, yNot_f, yEq_t, yEq_f, yAnd_t, yAnd_f, yLt_t, yLt_f, yIn_t, yIn_f, yNlt_t, yNlt_f, yNle_t, yInt_e, yNat_e, yNadd_e, yAdd_e, true_and, and_true, Nat.zero_add] at hn ⊢
  refine ⟨fun h => ?_, fun h => ⟨⟨0, ⟨Nat.zero_le _, fun k hk => by omega⟩, rfl⟩, fun g i hi => ⟨fun hlt => ⟨fun _ => ⟨fun _ => ⟨fun _ => ⟨fun _ => ⟨fun h2 => ?_, fun h2 => ?_⟩, fun h2 => ?_⟩, fun h2 => ?_⟩, fun h2 => ?_⟩, fun h2 => ?_⟩, fun hge => ?_⟩⟩⟩
  · unfold samePairs; rw [decide_eq_false_iff_not]; intro hc; exact h (by rw [hc.1])
  · unfold samePairs; rw [decide_eq_false_iff_not]; intro hc
    have := hc.2 i (by omega)
    rcases h2 with h2 | h2 | h2
    · exact h2 this.1
    · exact h2 this.2
    · cases h2
  · refine ⟨i + 1, ⟨by omega, fun k hk => ?_⟩, ?_, ?_⟩
    · by_cases e : k = i
      · subst e; exact ⟨h2.1, h2.2⟩
      · exact hi.2 k (by omega)
    · unfold msTo; omega
    · rw [wrap64 (by omega) (by omega)]; rfl
  · omega
  · omega
  · omega
  · omega
  · unfold samePairs; rw [decide_eq_true_eq]
    have : i = n := by have := hi.1; omega
    subst this
    exact ⟨by omega, hi.2⟩
set_option maxRecDepth 100000 in
theorem smPairs (hm : Try.prog.follows .mixedOrders = true) : SmCall Try.prog 18 (fun args h => (ctS gPairs fPairs args h).sel) :=
  ctS_ok hm noSm_ok (by decide) (fun ds a h => by
    unfold fPairs at h
    split at h
    · simp only [Option.some.injEq, Prod.mk.injEq] at h
      obtain ⟨h1, rfl⟩ := h
      rename_i nA n a0 a1 nB m b0 b1
      have h2 := goalPairs_ok
      unfold goalPairs at h2
      exact ⟨annPairs n a0 a1 b0 b1, 1000, h2 nA n a0 a1 nB m b0 b1 h1⟩
    · cases h)
end Go.Proofs.Ytalifabdjolkhaa.Ex
