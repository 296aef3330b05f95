/- Contracts: arena.Fits and gleaningref10.Fits tell whether a node fits a fan. -/
import Derived.Test.YtfpokmglhaenaaaDoorWi
import Derived.Test.YtfpokmglhaenaaaDoorSlC
import Derived.Test.YtfpokmglhaenaaaDoorProg
namespace Go.Proofs.YtfpokmglhaenaaaDoor.Ex
open Go

-- OPEN fitsC prFit prFitR msFit
def Rises (kf : Nat → Int) (n : Nat) : Prop := ∀ j, j + 1 < n → kf j < kf (j + 1)
def risesB (kf : Nat → Int) (n : Nat) : Bool := (List.range n).all fun j => decide (j + 1 < n → kf j < kf (j + 1))
theorem risesB_iff {kf : Nat → Int} {n : Nat} : risesB kf n = true ↔ Rises kf n := by
  simp only [risesB, List.all_eq_true, List.mem_range, decide_eq_true_eq, Rises]
  exact ⟨fun h j hj => h j (by omega) hj, fun h j _ hj => h j hj⟩
def fitsC (inner : Bool) (nk : Nat) (kf : Nat → Int) (nv : Nat) (fan : Int) : Bool := decide ((nv : Int) ≤ fan ∧ (nv = if inner then nk + 1 else nk) ∧ risesB kf nk = true)
def prFit (n : Nat) (kf : Nat → Int) (i : Nat) : Prop := i ≤ n ∧ Rises kf i
def prFitR (n : Nat) (kf : Nat → Int) (i : Nat) : Prop := 1 ≤ i ∧ (i ≤ n ∨ i = 1) ∧ Rises kf i
def msFit (n i : Nat) : Nat := n - i
abbrev cU : Cs := some (26, [.int .u64])
abbrev gFits : List Ag := [.agg [none, cU, cU, none], .cell none]
abbrev dFits (inner nilk : Bool) (nk : Nat) (kf : Nat → Int) (nilv : Bool) (nv : Nat) (vf : Nat → Int) (link fan : Int) : List Da := [.agg [.v (.yb inner), .rows nilk nk [.int .u64 kf], .rows nilv nv [.int .u64 vf], .v (.y .u64 link)], .cell (.v (.y .i64 fan))]
def fFits (ds : List Da) : Option (Bool × AV) :=
  match ds with
  | [.agg [.v (.yb inner), .rows _ nk [.int .u64 kf], .rows _ nv [.int .u64 _], .v (.y .u64 _)], .cell (.v (.y .i64 fan))] => some (yAnd (yNle nk 80) (yNle nv 80), .yb (fitsC inner nk kf nv fan))
  | _ => none
def annFits (n : Nat) (kf : Nat → Int) (b : Nat) : Option (St → LoopA) :=
  match b with
  | 0 => some fun _ => { ι := Nat, tms := [40], tmU := fun i => [.y .i64 (yInt i)], ids := [], hpU := fun _ => [], del := [], ex := 0, pre := prFit n kf, ms := msFit n }
  | _ => none
def annFitsR (n : Nat) (kf : Nat → Int) (b : Nat) : Option (St → LoopA) :=
  match b with
  | 0 => some fun _ => { ι := Nat, tms := [5], tmU := fun i => [.y .i64 (yInt i)], ids := [], hpU := fun _ => [], del := [], ex := 0, pre := prFitR n kf, ms := msFit n }
  | _ => none
def goalFits : Prop := ∀ (inner nilk : Bool) (nk : Nat) (kf : Nat → Int) (nilv : Bool) (nv : Nat) (vf : Nat → Int) (link fan : Int), yAnd (yNle nk 80) (yNle nv 80) = true →
  wxF Tryd.prog noSm (annFits nk kf) 1000 95 (canA gFits (dFits inner nilk nk kf nilv nv vf link fan) []).1 (heapOf (canA gFits (dFits inner nilk nk kf nilv nv vf link fan) []).2) (fun v _ => cmpC (.yb (fitsC inner nk kf nv fan)) v)
def goalFitsR : Prop := ∀ (inner nilk : Bool) (nk : Nat) (kf : Nat → Int) (nilv : Bool) (nv : Nat) (vf : Nat → Int) (link fan : Int), yAnd (yNle nk 80) (yNle nv 80) = true →
  wxF Tryd.prog noSm (annFitsR nk kf) 1000 62 (canA gFits (dFits inner nilk nk kf nilv nv vf link fan) []).1 (heapOf (canA gFits (dFits inner nilk nk kf nilv nv vf link fan) []).2) (fun v _ => cmpC (.yb (fitsC inner nk kf nv fan)) v)
theorem fits_t {inner : Bool} {nk : Nat} {kf : Nat → Int} {nv : Nat} {fan : Int} : fitsC inner nk kf nv fan = true ↔ ((nv : Int) ≤ fan ∧ (nv = if inner then nk + 1 else nk) ∧ Rises kf nk) := by
  unfold fitsC; rw [decide_eq_true_iff, risesB_iff]
theorem fits_f {inner : Bool} {nk : Nat} {kf : Nat → Int} {nv : Nat} {fan : Int} : fitsC inner nk kf nv fan = false ↔ ¬ ((nv : Int) ≤ fan ∧ (nv = if inner then nk + 1 else nk) ∧ Rises kf nk) := by
  unfold fitsC; rw [decide_eq_false_iff_not, risesB_iff]
theorem yNatSub {i : Nat} (h : 1 ≤ i) : yNat ((i : Int) - 1) = i - 1 := by unfold yNat; omega
theorem Rises.step {kf : Nat → Int} {i : Nat} (h : Rises kf i) (k : 1 ≤ i → kf (i - 1) < kf i) : Rises kf (i + 1) := fun j hj => by
  by_cases e : j + 1 < i
  · exact h j e
  · have : i = j + 1 := by omega
    subst this
    have := k (by omega)
    simpa using this
theorem Rises.not {kf : Nat → Int} {i n : Nat} (h1 : 1 ≤ i) (h2 : i < n) (k : kf i ≤ kf (i - 1)) : ¬ Rises kf n := fun h => by
  have := h (i - 1) (by omega)
  rw [show i - 1 + 1 = i by omega] at this
  omega
set_option maxRecDepth 100000 in
theorem goalFits_eq : goalFits = (∀ (inner nilk : Bool) (nk : Nat) (kf : Nat → Int) (nilv : Bool) (nv : Nat) (vf : Nat → Int) (link fan : Int),
  yAnd (yNle nk (nat_lit 80)) (yNle nv (nat_lit 80)) = true →
    (inner = true →
        (yLt fan (yInt nv) = true → fitsC inner nk kf nv fan = false) ∧
          (yLt fan (yInt nv) = false →
            (yNot (yEq (yInt nk) (yWrap IntKind.i64 (ySub (yInt nv) (1 : Int)))) = true →
                fitsC inner nk kf nv fan = false) ∧
              (yNot (yEq (yInt nk) (yWrap IntKind.i64 (ySub (yInt nv) (1 : Int)))) = false →
                (inner = true →
                    (yEq (yInt nv) (0 : Int) = true → fitsC inner nk kf nv fan = false) ∧
                      (yEq (yInt nv) (0 : Int) = false →
                        true = true ∧
                          (∃ (i0 : Nat), prFit nk kf i0 ∧ true = true ∧ yInt i0 = (0 : Int) ∧ true = true) ∧
                            ∀ (g : Nat → AV) (i : Nat),
                              prFit nk kf i →
                                (yLt (yInt i) (yInt nk) = true →
                                    (yIn (yInt i) nk = true →
                                        (yNlt (yNadd (nat_lit 0) (yNat (yInt i))) nk = true →
                                            (yLt (0 : Int) (yInt i) = true →
                                                (yIn (yWrap IntKind.i64 (ySub (yInt i) (1 : Int))) nk = true →
                                                    (yNlt
                                                            (yNadd (nat_lit 0)
                                                              (yNat (yWrap IntKind.i64 (ySub (yInt i) (1 : Int)))))
                                                            nk =
                                                          true →
                                                        (yLe (kf (yNadd (nat_lit 0) (yNat (yInt i))))
                                                                (kf
                                                                  (yNadd (nat_lit 0)
                                                                    (yNat
                                                                      (yWrap IntKind.i64 (ySub (yInt i) (1 : Int)))))) =
                                                              true →
                                                            fitsC inner nk kf nv fan = false) ∧
                                                          (yLe (kf (yNadd (nat_lit 0) (yNat (yInt i))))
                                                                (kf
                                                                  (yNadd (nat_lit 0)
                                                                    (yNat
                                                                      (yWrap IntKind.i64 (ySub (yInt i) (1 : Int)))))) =
                                                              false →
                                                            true = true ∧
                                                              ∃ (i' : Nat),
                                                                prFit nk kf i' ∧
                                                                  Nat.succ (msFit nk i') ≤ msFit nk i ∧
                                                                    true = true ∧
                                                                      yInt i' =
                                                                          yWrap IntKind.i64 (yAdd (yInt i) (1 : Int)) ∧
                                                                        true = true)) ∧
                                                      (yNlt
                                                            (yNadd (nat_lit 0)
                                                              (yNat (yWrap IntKind.i64 (ySub (yInt i) (1 : Int)))))
                                                            nk =
                                                          false →
                                                        False)) ∧
                                                  (yIn (yWrap IntKind.i64 (ySub (yInt i) (1 : Int))) nk = false →
                                                    False)) ∧
                                              (yLt (0 : Int) (yInt i) = false →
                                                true = true ∧
                                                  ∃ (i' : Nat),
                                                    prFit nk kf i' ∧
                                                      Nat.succ (msFit nk i') ≤ msFit nk i ∧
                                                        true = true ∧
                                                          yInt i' = yWrap IntKind.i64 (yAdd (yInt i) (1 : Int)) ∧
                                                            true = true)) ∧
                                          (yNlt (yNadd (nat_lit 0) (yNat (yInt i))) nk = false → False)) ∧
                                      (yIn (yInt i) nk = false → False)) ∧
                                  (yLt (yInt i) (yInt nk) = false → fitsC inner nk kf nv fan = true))) ∧
                  (inner = false →
                    true = true ∧
                      (∃ (i0 : Nat), prFit nk kf i0 ∧ true = true ∧ yInt i0 = (0 : Int) ∧ true = true) ∧
                        ∀ (g : Nat → AV) (i : Nat),
                          prFit nk kf i →
                            (yLt (yInt i) (yInt nk) = true →
                                (yIn (yInt i) nk = true →
                                    (yNlt (yNadd (nat_lit 0) (yNat (yInt i))) nk = true →
                                        (yLt (0 : Int) (yInt i) = true →
                                            (yIn (yWrap IntKind.i64 (ySub (yInt i) (1 : Int))) nk = true →
                                                (yNlt
                                                        (yNadd (nat_lit 0)
                                                          (yNat (yWrap IntKind.i64 (ySub (yInt i) (1 : Int)))))
                                                        nk =
                                                      true →
                                                    (yLe (kf (yNadd (nat_lit 0) (yNat (yInt i))))
                                                            (kf
                                                              (yNadd (nat_lit 0)
                                                                (yNat (yWrap IntKind.i64 (ySub (yInt i) (1 : Int)))))) =
                                                          true →
                                                        fitsC inner nk kf nv fan = false) ∧
                                                      (yLe (kf (yNadd (nat_lit 0) (yNat (yInt i))))
                                                            (kf
                                                              (yNadd (nat_lit 0)
                                                                (yNat (yWrap IntKind.i64 (ySub (yInt i) (1 : Int)))))) =
                                                          false →
                                                        true = true ∧
                                                          ∃ (i' : Nat),
                                                            prFit nk kf i' ∧
                                                              Nat.succ (msFit nk i') ≤ msFit nk i ∧
                                                                true = true ∧
                                                                  yInt i' =
                                                                      yWrap IntKind.i64 (yAdd (yInt i) (1 : Int)) ∧
                                                                    true = true)) ∧
                                                  (yNlt
                                                        (yNadd (nat_lit 0)
                                                          (yNat (yWrap IntKind.i64 (ySub (yInt i) (1 : Int)))))
                                                        nk =
                                                      false →
                                                    False)) ∧
                                              (yIn (yWrap IntKind.i64 (ySub (yInt i) (1 : Int))) nk = false → False)) ∧
                                          (yLt (0 : Int) (yInt i) = false →
                                            true = true ∧
                                              ∃ (i' : Nat),
                                                prFit nk kf i' ∧
                                                  Nat.succ (msFit nk i') ≤ msFit nk i ∧
                                                    true = true ∧
                                                      yInt i' = yWrap IntKind.i64 (yAdd (yInt i) (1 : Int)) ∧
                                                        true = true)) ∧
                                      (yNlt (yNadd (nat_lit 0) (yNat (yInt i))) nk = false → False)) ∧
                                  (yIn (yInt i) nk = false → False)) ∧
                              (yLt (yInt i) (yInt nk) = false → fitsC inner nk kf nv fan = true))))) ∧
      (inner = false →
        (yLt fan (yInt nv) = true → fitsC inner nk kf nv fan = false) ∧
          (yLt fan (yInt nv) = false →
            (yNot (yEq (yInt nk) (yInt nv)) = true → fitsC inner nk kf nv fan = false) ∧
              (yNot (yEq (yInt nk) (yInt nv)) = false →
                (inner = true →
                    (yEq (yInt nv) (0 : Int) = true → fitsC inner nk kf nv fan = false) ∧
                      (yEq (yInt nv) (0 : Int) = false →
                        true = true ∧
                          (∃ (i0 : Nat), prFit nk kf i0 ∧ true = true ∧ yInt i0 = (0 : Int) ∧ true = true) ∧
                            ∀ (g : Nat → AV) (i : Nat),
                              prFit nk kf i →
                                (yLt (yInt i) (yInt nk) = true →
                                    (yIn (yInt i) nk = true →
                                        (yNlt (yNadd (nat_lit 0) (yNat (yInt i))) nk = true →
                                            (yLt (0 : Int) (yInt i) = true →
                                                (yIn (yWrap IntKind.i64 (ySub (yInt i) (1 : Int))) nk = true →
                                                    (yNlt
                                                            (yNadd (nat_lit 0)
                                                              (yNat (yWrap IntKind.i64 (ySub (yInt i) (1 : Int)))))
                                                            nk =
                                                          true →
                                                        (yLe (kf (yNadd (nat_lit 0) (yNat (yInt i))))
                                                                (kf
                                                                  (yNadd (nat_lit 0)
                                                                    (yNat
                                                                      (yWrap IntKind.i64 (ySub (yInt i) (1 : Int)))))) =
                                                              true →
                                                            fitsC inner nk kf nv fan = false) ∧
                                                          (yLe (kf (yNadd (nat_lit 0) (yNat (yInt i))))
                                                                (kf
                                                                  (yNadd (nat_lit 0)
                                                                    (yNat
                                                                      (yWrap IntKind.i64 (ySub (yInt i) (1 : Int)))))) =
                                                              false →
                                                            true = true ∧
                                                              ∃ (i' : Nat),
                                                                prFit nk kf i' ∧
                                                                  Nat.succ (msFit nk i') ≤ msFit nk i ∧
                                                                    true = true ∧
                                                                      yInt i' =
                                                                          yWrap IntKind.i64 (yAdd (yInt i) (1 : Int)) ∧
                                                                        true = true)) ∧
                                                      (yNlt
                                                            (yNadd (nat_lit 0)
                                                              (yNat (yWrap IntKind.i64 (ySub (yInt i) (1 : Int)))))
                                                            nk =
                                                          false →
                                                        False)) ∧
                                                  (yIn (yWrap IntKind.i64 (ySub (yInt i) (1 : Int))) nk = false →
                                                    False)) ∧
                                              (yLt (0 : Int) (yInt i) = false →
                                                true = true ∧
                                                  ∃ (i' : Nat),
                                                    prFit nk kf i' ∧
                                                      Nat.succ (msFit nk i') ≤ msFit nk i ∧
                                                        true = true ∧
                                                          yInt i' = yWrap IntKind.i64 (yAdd (yInt i) (1 : Int)) ∧
                                                            true = true)) ∧
                                          (yNlt (yNadd (nat_lit 0) (yNat (yInt i))) nk = false → False)) ∧
                                      (yIn (yInt i) nk = false → False)) ∧
                                  (yLt (yInt i) (yInt nk) = false → fitsC inner nk kf nv fan = true))) ∧
                  (inner = false →
                    true = true ∧
                      (∃ (i0 : Nat), prFit nk kf i0 ∧ true = true ∧ yInt i0 = (0 : Int) ∧ true = true) ∧
                        ∀ (g : Nat → AV) (i : Nat),
                          prFit nk kf i →
                            (yLt (yInt i) (yInt nk) = true →
                                (yIn (yInt i) nk = true →
                                    (yNlt (yNadd (nat_lit 0) (yNat (yInt i))) nk = true →
                                        (yLt (0 : Int) (yInt i) = true →
                                            (yIn (yWrap IntKind.i64 (ySub (yInt i) (1 : Int))) nk = true →
                                                (yNlt
                                                        (yNadd (nat_lit 0)
                                                          (yNat (yWrap IntKind.i64 (ySub (yInt i) (1 : Int)))))
                                                        nk =
                                                      true →
                                                    (yLe (kf (yNadd (nat_lit 0) (yNat (yInt i))))
                                                            (kf
                                                              (yNadd (nat_lit 0)
                                                                (yNat (yWrap IntKind.i64 (ySub (yInt i) (1 : Int)))))) =
                                                          true →
                                                        fitsC inner nk kf nv fan = false) ∧
                                                      (yLe (kf (yNadd (nat_lit 0) (yNat (yInt i))))
                                                            (kf
                                                              (yNadd (nat_lit 0)
                                                                (yNat (yWrap IntKind.i64 (ySub (yInt i) (1 : Int)))))) =
                                                          false →
                                                        true = true ∧
                                                          ∃ (i' : Nat),
                                                            prFit nk kf i' ∧
                                                              Nat.succ (msFit nk i') ≤ msFit nk i ∧
                                                                true = true ∧
                                                                  yInt i' =
                                                                      yWrap IntKind.i64 (yAdd (yInt i) (1 : Int)) ∧
                                                                    true = true)) ∧
                                                  (yNlt
                                                        (yNadd (nat_lit 0)
                                                          (yNat (yWrap IntKind.i64 (ySub (yInt i) (1 : Int)))))
                                                        nk =
                                                      false →
                                                    False)) ∧
                                              (yIn (yWrap IntKind.i64 (ySub (yInt i) (1 : Int))) nk = false → False)) ∧
                                          (yLt (0 : Int) (yInt i) = false →
                                            true = true ∧
                                              ∃ (i' : Nat),
                                                prFit nk kf i' ∧
                                                  Nat.succ (msFit nk i') ≤ msFit nk i ∧
                                                    true = true ∧
                                                      yInt i' = yWrap IntKind.i64 (yAdd (yInt i) (1 : Int)) ∧
                                                        true = true)) ∧
                                      (yNlt (yNadd (nat_lit 0) (yNat (yInt i))) nk = false → False)) ∧
                                  (yIn (yInt i) nk = false → False)) ∧
                              (yLt (yInt i) (yInt nk) = false → fitsC inner nk kf nv fan = true)))))) := by kernel_rfl
set_option maxRecDepth 100000 in
theorem goalFits_ok : goalFits := by
  refine kernel_go goalFits_eq ?_
  intro inner nilk nk kf nilv nv vf link fan hb
  simp only [yNot_t, yNot_f, yEq_t, yEq_f, yAnd_t, yLt_t, yLt_f, yLe_t, yLe_f, yIn_t, yIn_f, yNlt_t, yNlt_f, yNle_t, yInt_e, yNat_e, yNadd_e, yAdd_e, ySub_e, true_and, and_true, Nat.zero_add, prFit, msFit] at hb ⊢
  cases inner
  all_goals simp only [true_and, and_true, forall_const, Bool.true_eq_false, Bool.false_eq_true, false_implies, fits_t, fits_f, if_true, if_false]
  all_goals repeat' (first | apply And.intro | intro (_ : Nat → AV) i hi | intro _)
  all_goals (try simp (disch := omega) only [wrap64, yNatSub] at *)
  all_goals first
    | omega
    | exact ⟨0, ⟨Nat.zero_le _, fun j hj => by omega⟩, rfl⟩
    | (refine ⟨i + 1, ⟨by omega, hi.2.step fun h => by omega⟩, by omega, by omega⟩; done)
    | (exact absurd (‹(nv : Int) ≤ fan ∧ _ ∧ Rises kf nk›).2.2 (Rises.not (i := i) (by omega) (by omega) (by omega)))
    | exact hi.2 _ (by omega)
set_option maxRecDepth 100000 in
theorem goalFitsR_eq : goalFitsR = (∀ (inner nilk : Bool) (nk : Nat) (kf : Nat → Int) (nilv : Bool) (nv : Nat) (vf : Nat → Int) (link fan : Int),
  yAnd (yNle nk (nat_lit 80)) (yNle nv (nat_lit 80)) = true →
    (yLt fan (yInt nv) = true → fitsC inner nk kf nv fan = false) ∧
      (yLt fan (yInt nv) = false →
        (inner = true →
            (yNot (yEq (yInt nv) (yWrap IntKind.i64 (yAdd (yInt nk) (1 : Int)))) = true →
                fitsC inner nk kf nv fan = false) ∧
              (yNot (yEq (yInt nv) (yWrap IntKind.i64 (yAdd (yInt nk) (1 : Int)))) = false →
                (yNot inner = true →
                    (yNot (yEq (yInt nv) (yInt nk)) = true → fitsC inner nk kf nv fan = false) ∧
                      (yNot (yEq (yInt nv) (yInt nk)) = false →
                        true = true ∧
                          (∃ (i0 : Nat), prFitR nk kf i0 ∧ true = true ∧ yInt i0 = (1 : Int) ∧ true = true) ∧
                            ∀ (g : Nat → AV) (i : Nat),
                              prFitR nk kf i →
                                (yLt (yInt i) (yInt nk) = true →
                                    (yIn (yInt i) nk = true →
                                        (yNlt (yNadd (nat_lit 0) (yNat (yInt i))) nk = true →
                                            (yIn (yWrap IntKind.i64 (ySub (yInt i) (1 : Int))) nk = true →
                                                (yNlt
                                                        (yNadd (nat_lit 0)
                                                          (yNat (yWrap IntKind.i64 (ySub (yInt i) (1 : Int)))))
                                                        nk =
                                                      true →
                                                    (yLe (kf (yNadd (nat_lit 0) (yNat (yInt i))))
                                                            (kf
                                                              (yNadd (nat_lit 0)
                                                                (yNat (yWrap IntKind.i64 (ySub (yInt i) (1 : Int)))))) =
                                                          true →
                                                        fitsC inner nk kf nv fan = false) ∧
                                                      (yLe (kf (yNadd (nat_lit 0) (yNat (yInt i))))
                                                            (kf
                                                              (yNadd (nat_lit 0)
                                                                (yNat (yWrap IntKind.i64 (ySub (yInt i) (1 : Int)))))) =
                                                          false →
                                                        true = true ∧
                                                          ∃ (i' : Nat),
                                                            prFitR nk kf i' ∧
                                                              Nat.succ (msFit nk i') ≤ msFit nk i ∧
                                                                true = true ∧
                                                                  yInt i' =
                                                                      yWrap IntKind.i64 (yAdd (yInt i) (1 : Int)) ∧
                                                                    true = true)) ∧
                                                  (yNlt
                                                        (yNadd (nat_lit 0)
                                                          (yNat (yWrap IntKind.i64 (ySub (yInt i) (1 : Int)))))
                                                        nk =
                                                      false →
                                                    False)) ∧
                                              (yIn (yWrap IntKind.i64 (ySub (yInt i) (1 : Int))) nk = false → False)) ∧
                                          (yNlt (yNadd (nat_lit 0) (yNat (yInt i))) nk = false → False)) ∧
                                      (yIn (yInt i) nk = false → False)) ∧
                                  (yLt (yInt i) (yInt nk) = false → fitsC inner nk kf nv fan = true))) ∧
                  (yNot inner = false →
                    true = true ∧
                      (∃ (i0 : Nat), prFitR nk kf i0 ∧ true = true ∧ yInt i0 = (1 : Int) ∧ true = true) ∧
                        ∀ (g : Nat → AV) (i : Nat),
                          prFitR nk kf i →
                            (yLt (yInt i) (yInt nk) = true →
                                (yIn (yInt i) nk = true →
                                    (yNlt (yNadd (nat_lit 0) (yNat (yInt i))) nk = true →
                                        (yIn (yWrap IntKind.i64 (ySub (yInt i) (1 : Int))) nk = true →
                                            (yNlt
                                                    (yNadd (nat_lit 0)
                                                      (yNat (yWrap IntKind.i64 (ySub (yInt i) (1 : Int)))))
                                                    nk =
                                                  true →
                                                (yLe (kf (yNadd (nat_lit 0) (yNat (yInt i))))
                                                        (kf
                                                          (yNadd (nat_lit 0)
                                                            (yNat (yWrap IntKind.i64 (ySub (yInt i) (1 : Int)))))) =
                                                      true →
                                                    fitsC inner nk kf nv fan = false) ∧
                                                  (yLe (kf (yNadd (nat_lit 0) (yNat (yInt i))))
                                                        (kf
                                                          (yNadd (nat_lit 0)
                                                            (yNat (yWrap IntKind.i64 (ySub (yInt i) (1 : Int)))))) =
                                                      false →
                                                    true = true ∧
                                                      ∃ (i' : Nat),
                                                        prFitR nk kf i' ∧
                                                          Nat.succ (msFit nk i') ≤ msFit nk i ∧
                                                            true = true ∧
                                                              yInt i' = yWrap IntKind.i64 (yAdd (yInt i) (1 : Int)) ∧
                                                                true = true)) ∧
                                              (yNlt
                                                    (yNadd (nat_lit 0)
                                                      (yNat (yWrap IntKind.i64 (ySub (yInt i) (1 : Int)))))
                                                    nk =
                                                  false →
                                                False)) ∧
                                          (yIn (yWrap IntKind.i64 (ySub (yInt i) (1 : Int))) nk = false → False)) ∧
                                      (yNlt (yNadd (nat_lit 0) (yNat (yInt i))) nk = false → False)) ∧
                                  (yIn (yInt i) nk = false → False)) ∧
                              (yLt (yInt i) (yInt nk) = false → fitsC inner nk kf nv fan = true)))) ∧
          (inner = false →
            (yNot inner = true →
                (yNot (yEq (yInt nv) (yInt nk)) = true → fitsC inner nk kf nv fan = false) ∧
                  (yNot (yEq (yInt nv) (yInt nk)) = false →
                    true = true ∧
                      (∃ (i0 : Nat), prFitR nk kf i0 ∧ true = true ∧ yInt i0 = (1 : Int) ∧ true = true) ∧
                        ∀ (g : Nat → AV) (i : Nat),
                          prFitR nk kf i →
                            (yLt (yInt i) (yInt nk) = true →
                                (yIn (yInt i) nk = true →
                                    (yNlt (yNadd (nat_lit 0) (yNat (yInt i))) nk = true →
                                        (yIn (yWrap IntKind.i64 (ySub (yInt i) (1 : Int))) nk = true →
                                            (yNlt
                                                    (yNadd (nat_lit 0)
                                                      (yNat (yWrap IntKind.i64 (ySub (yInt i) (1 : Int)))))
                                                    nk =
                                                  true →
                                                (yLe (kf (yNadd (nat_lit 0) (yNat (yInt i))))
                                                        (kf
                                                          (yNadd (nat_lit 0)
                                                            (yNat (yWrap IntKind.i64 (ySub (yInt i) (1 : Int)))))) =
                                                      true →
                                                    fitsC inner nk kf nv fan = false) ∧
                                                  (yLe (kf (yNadd (nat_lit 0) (yNat (yInt i))))
                                                        (kf
                                                          (yNadd (nat_lit 0)
                                                            (yNat (yWrap IntKind.i64 (ySub (yInt i) (1 : Int)))))) =
                                                      false →
                                                    true = true ∧
                                                      ∃ (i' : Nat),
                                                        prFitR nk kf i' ∧
                                                          Nat.succ (msFit nk i') ≤ msFit nk i ∧
                                                            true = true ∧
                                                              yInt i' = yWrap IntKind.i64 (yAdd (yInt i) (1 : Int)) ∧
                                                                true = true)) ∧
                                              (yNlt
                                                    (yNadd (nat_lit 0)
                                                      (yNat (yWrap IntKind.i64 (ySub (yInt i) (1 : Int)))))
                                                    nk =
                                                  false →
                                                False)) ∧
                                          (yIn (yWrap IntKind.i64 (ySub (yInt i) (1 : Int))) nk = false → False)) ∧
                                      (yNlt (yNadd (nat_lit 0) (yNat (yInt i))) nk = false → False)) ∧
                                  (yIn (yInt i) nk = false → False)) ∧
                              (yLt (yInt i) (yInt nk) = false → fitsC inner nk kf nv fan = true))) ∧
              (yNot inner = false →
                true = true ∧
                  (∃ (i0 : Nat), prFitR nk kf i0 ∧ true = true ∧ yInt i0 = (1 : Int) ∧ true = true) ∧
                    ∀ (g : Nat → AV) (i : Nat),
                      prFitR nk kf i →
                        (yLt (yInt i) (yInt nk) = true →
                            (yIn (yInt i) nk = true →
                                (yNlt (yNadd (nat_lit 0) (yNat (yInt i))) nk = true →
                                    (yIn (yWrap IntKind.i64 (ySub (yInt i) (1 : Int))) nk = true →
                                        (yNlt (yNadd (nat_lit 0) (yNat (yWrap IntKind.i64 (ySub (yInt i) (1 : Int)))))
                                                nk =
                                              true →
                                            (yLe (kf (yNadd (nat_lit 0) (yNat (yInt i))))
                                                    (kf
                                                      (yNadd (nat_lit 0)
                                                        (yNat (yWrap IntKind.i64 (ySub (yInt i) (1 : Int)))))) =
                                                  true →
                                                fitsC inner nk kf nv fan = false) ∧
                                              (yLe (kf (yNadd (nat_lit 0) (yNat (yInt i))))
                                                    (kf
                                                      (yNadd (nat_lit 0)
                                                        (yNat (yWrap IntKind.i64 (ySub (yInt i) (1 : Int)))))) =
                                                  false →
                                                true = true ∧
                                                  ∃ (i' : Nat),
                                                    prFitR nk kf i' ∧
                                                      Nat.succ (msFit nk i') ≤ msFit nk i ∧
                                                        true = true ∧
                                                          yInt i' = yWrap IntKind.i64 (yAdd (yInt i) (1 : Int)) ∧
                                                            true = true)) ∧
                                          (yNlt (yNadd (nat_lit 0) (yNat (yWrap IntKind.i64 (ySub (yInt i) (1 : Int)))))
                                                nk =
                                              false →
                                            False)) ∧
                                      (yIn (yWrap IntKind.i64 (ySub (yInt i) (1 : Int))) nk = false → False)) ∧
                                  (yNlt (yNadd (nat_lit 0) (yNat (yInt i))) nk = false → False)) ∧
                              (yIn (yInt i) nk = false → False)) ∧
                          (yLt (yInt i) (yInt nk) = false → fitsC inner nk kf nv fan = true))))) := by kernel_rfl
set_option maxRecDepth 100000 in
theorem goalFitsR_ok : goalFitsR := by
  refine kernel_go goalFitsR_eq ?_
  intro inner nilk nk kf nilv nv vf link fan hb
  simp only [yNot_t, yNot_f, yEq_t, yEq_f, yAnd_t, yLt_t, yLt_f, yLe_t, yLe_f, yIn_t, yIn_f, yNlt_t, yNlt_f, yNle_t, yInt_e, yNat_e, yNadd_e, yAdd_e, ySub_e, true_and, and_true, Nat.zero_add, prFitR, msFit] at hb ⊢
  cases inner
  all_goals simp only [true_and, and_true, forall_const, Bool.true_eq_false, Bool.false_eq_true, false_implies, fits_t, fits_f, if_true, if_false]
  all_goals repeat' (first | apply And.intro | intro (_ : Nat → AV) i hi | intro _)
  all_goals (try simp (disch := omega) only [wrap64, yNatSub] at *)
  all_goals first
    | omega
    | exact ⟨1, ⟨Nat.le_refl _, .inr rfl, fun j hj => by omega⟩, rfl⟩
    | (refine ⟨i + 1, ⟨by omega, by omega, hi.2.2.step fun h => by omega⟩, by omega, by omega⟩; done)
    | (exact absurd (‹(nv : Int) ≤ fan ∧ _ ∧ Rises kf nk›).2.2 (Rises.not (i := i) (by omega) (by omega) (by omega)))
    | exact hi.2.2 _ (by omega)
set_option maxRecDepth 100000 in
theorem smFits {f : FuncId} {ann : Nat → (Nat → Int) → Nat → Option (St → LoopA)} (hm : Tryd.prog.follows .mixedOrders = true)
    (h : ∀ (inner nilk : Bool) (nk : Nat) (kf : Nat → Int) (nilv : Bool) (nv : Nat) (vf : Nat → Int) (link fan : Int), yAnd (yNle nk 80) (yNle nv 80) = true → wxF Tryd.prog noSm (ann nk kf) 1000 f (canA gFits (dFits inner nilk nk kf nilv nv vf link fan) []).1 (heapOf (canA gFits (dFits inner nilk nk kf nilv nv vf link fan) []).2) (fun v _ => cmpC (.yb (fitsC inner nk kf nv fan)) v)) :
    SmCall Tryd.prog f (fun args h => (ctS gFits fFits args h).sel) :=
  ctS_ok hm noSm_ok (by decide) (fun ds a hd => by
    unfold fFits at hd
    split at hd
    · simp only [Option.some.injEq, Prod.mk.injEq] at hd
      obtain ⟨h1, rfl⟩ := hd
      exact ⟨_, 1000, h _ _ _ _ _ _ _ _ _ h1⟩
    · cases hd)
end Go.Proofs.YtfpokmglhaenaaaDoor.Ex
