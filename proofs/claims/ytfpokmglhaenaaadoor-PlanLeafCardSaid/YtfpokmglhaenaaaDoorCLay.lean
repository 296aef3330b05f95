/- Contracts: where in memory the words of a slot stand. -/
import Derived.Test.YtfpokmglhaenaaaDoorSlC
namespace Go.Proofs.YtfpokmglhaenaaaDoor.Ex
open Go

-- OPEN nodeC verC shapeC keyC valC
def nodeC (t f slot : Int) : Int := 3 + 3 * t + slot * (3 + 2 * f)
def verC (s t f slot : Int) : Int := if 0 ≤ slot ∧ slot ≤ s then nodeC t f slot else -1
def shapeC (s t f slot : Int) : Int := if 0 ≤ slot ∧ slot ≤ s then nodeC t f slot + 1 else -1
def keyC (s t f slot i : Int) : Int := if (0 ≤ slot ∧ slot ≤ s) ∧ 0 ≤ i ∧ i < f then nodeC t f slot + 3 + i else -1
def valC (s t f slot i : Int) : Int := if (0 ≤ slot ∧ slot ≤ s) ∧ 0 ≤ i ∧ i < f then nodeC t f slot + 3 + f + i else -1
abbrev gL1 : List Ag := [.agg [none, none, none, none, none], .cell none]
abbrev gL2 : List Ag := [.agg [none, none, none, none, none], .cell none, .cell none]
abbrev dL1 (s t f l p slot : Int) : List Da := [.agg [.v (.y .i64 s), .v (.y .i64 t), .v (.y .i64 f), .v (.y .i64 l), .v (.y .i64 p)], .cell (.v (.y .i64 slot))]
abbrev dL2 (s t f l p slot i : Int) : List Da := [.agg [.v (.y .i64 s), .v (.y .i64 t), .v (.y .i64 f), .v (.y .i64 l), .v (.y .i64 p)], .cell (.v (.y .i64 slot)), .cell (.v (.y .i64 i))]
def fL1 (F : Int → Int → Int → Int → Int) (ds : List Da) : Option (Bool × AV) :=
  match ds with
  | [.agg [.v (.y .i64 s), .v (.y .i64 t), .v (.y .i64 f), .v (.y .i64 l), .v (.y .i64 p)], .cell (.v (.y .i64 slot))] => some (rightC s t f l p, .y .i64 (F s t f slot))
  | _ => none
def fL2 (F : Int → Int → Int → Int → Int → Int) (ds : List Da) : Option (Bool × AV) :=
  match ds with
  | [.agg [.v (.y .i64 s), .v (.y .i64 t), .v (.y .i64 f), .v (.y .i64 l), .v (.y .i64 p)], .cell (.v (.y .i64 slot)), .cell (.v (.y .i64 i))] => some (rightC s t f l p, .y .i64 (F s t f slot i))
  | _ => none
/-- The document's: of a slot that there is, and an entry that there may be. -/
def fR1 (F : Int → Int → Int → Int → Int) (ds : List Da) : Option (Bool × AV) :=
  match ds with
  | [.agg [.v (.y .i64 s), .v (.y .i64 t), .v (.y .i64 f), .v (.y .i64 l), .v (.y .i64 p)], .cell (.v (.y .i64 slot))] => some (yAnd (rightC s t f l p) (yAnd (yLe 0 slot) (yLe slot s)), .y .i64 (F s t f slot))
  | _ => none
def fR2 (F : Int → Int → Int → Int → Int → Int) (ds : List Da) : Option (Bool × AV) :=
  match ds with
  | [.agg [.v (.y .i64 s), .v (.y .i64 t), .v (.y .i64 f), .v (.y .i64 l), .v (.y .i64 p)], .cell (.v (.y .i64 slot)), .cell (.v (.y .i64 i))] => some (yAnd (yAnd (rightC s t f l p) (yAnd (yLe 0 slot) (yLe slot s))) (yAnd (yLe 0 i) (yLt i f)), .y .i64 (F s t f slot i))
  | _ => none
def gL1goal (P : Program) (f0 : FuncId) (F : Int → Int → Int → Int → Int) : Prop := ∀ (s t f l p slot : Int), rightC s t f l p = true → wxF P noSm (fun _ => none) 1000 f0 (canA gL1 (dL1 s t f l p slot) []).1 (heapOf (canA gL1 (dL1 s t f l p slot) []).2) (fun v _ => cmpC (.y .i64 (F s t f slot)) v)
def gL2goal (P : Program) (f0 : FuncId) (F : Int → Int → Int → Int → Int → Int) : Prop := ∀ (s t f l p slot i : Int), rightC s t f l p = true → wxF P noSm (fun _ => none) 1000 f0 (canA gL2 (dL2 s t f l p slot i) []).1 (heapOf (canA gL2 (dL2 s t f l p slot i) []).2) (fun v _ => cmpC (.y .i64 (F s t f slot i)) v)
def gR1goal (P : Program) (f0 : FuncId) (F : Int → Int → Int → Int → Int) : Prop := ∀ (s t f l p slot : Int), yAnd (rightC s t f l p) (yAnd (yLe 0 slot) (yLe slot s)) = true → wxF P noSm (fun _ => none) 1000 f0 (canA gL1 (dL1 s t f l p slot) []).1 (heapOf (canA gL1 (dL1 s t f l p slot) []).2) (fun v _ => cmpC (.y .i64 (F s t f slot)) v)
def gR2goal (P : Program) (f0 : FuncId) (F : Int → Int → Int → Int → Int → Int) : Prop := ∀ (s t f l p slot i : Int), yAnd (yAnd (rightC s t f l p) (yAnd (yLe 0 slot) (yLe slot s))) (yAnd (yLe 0 i) (yLt i f)) = true → wxF P noSm (fun _ => none) 1000 f0 (canA gL2 (dL2 s t f l p slot i) []).1 (heapOf (canA gL2 (dL2 s t f l p slot i) []).2) (fun v _ => cmpC (.y .i64 (F s t f slot i)) v)
def goalVer : Prop := gL1goal Tryd.prog 53 verC
def goalShp : Prop := gL1goal Tryd.prog 127 shapeC
def goalKey : Prop := gL2goal Tryd.prog 126 keyC
def goalVal : Prop := gL2goal Tryd.prog 52 valC
def goalVerR : Prop := gR1goal Tryd.prog 98 verC
def goalShpR : Prop := gR1goal Tryd.prog 130 shapeC
def goalKeyR : Prop := gR2goal Tryd.prog 129 keyC
def goalValR : Prop := gR2goal Tryd.prog 63 valC
theorem ft' {p : Prop} (h : p = True) : p := of_eq_true h
theorem prod_le' {a b A B : Int} (ha : 0 ≤ a) (hb : 0 ≤ b) (h1 : a ≤ A) (h2 : b ≤ B) : 0 ≤ a * b ∧ a * b ≤ A * B :=
  ⟨Int.mul_nonneg ha hb, Int.mul_le_mul h1 h2 hb (by omega)⟩
theorem lay_prod {s t f l p slot : Int} (h : rightC s t f l p = true) : 0 ≤ slot → slot ≤ s → 0 ≤ slot * (3 + 2 * f) ∧ slot * (3 + 2 * f) ≤ 131000 := fun h1 h2 => by
  have := rightC_iff.1 h
  exact prod_le' (A := 1000) (B := 131) h1 (by omega) (by omega) (by omega)
def goalVerV : Prop := (∀ (s t f l p slot : Int),
  rightC s t f l p = true →
    (yAnd (yEq s (0 : Int))
            (yAnd (yEq t (0 : Int)) (yAnd (yEq f (0 : Int)) (yAnd (yEq l (0 : Int)) (yAnd (yEq p (0 : Int)) true)))) =
          true →
        verC s t f slot = (-1 : Int)) ∧
      (yAnd (yEq s (0 : Int))
            (yAnd (yEq t (0 : Int)) (yAnd (yEq f (0 : Int)) (yAnd (yEq l (0 : Int)) (yAnd (yEq p (0 : Int)) true)))) =
          false →
        (yLe (0 : Int) slot = true →
            (yNot (yLt slot (yWrap IntKind.i64 (yAdd s (1 : Int)))) = true → verC s t f slot = (-1 : Int)) ∧
              (yNot (yLt slot (yWrap IntKind.i64 (yAdd s (1 : Int)))) = false →
                verC s t f slot =
                  yWrap IntKind.i64
                    (yAdd
                      (yWrap IntKind.i64
                        (yAdd
                          (yWrap IntKind.i64
                            (yAdd
                              (yWrap IntKind.i64
                                (yAdd (yWrap IntKind.i64 (yAdd (3 : Int) t)) (yWrap IntKind.i64 (yMul (2 : Int) t))))
                              (yWrap IntKind.i64
                                (yMul slot
                                  (yWrap IntKind.i64 (yAdd (3 : Int) (yWrap IntKind.i64 (yMul (2 : Int) f))))))))
                          (0 : Int)))
                      (0 : Int)))) ∧
          (yLe (0 : Int) slot = false → verC s t f slot = (-1 : Int))))
set_option maxRecDepth 100000 in
theorem goalVer_eq : goalVer = goalVerV := by kernel_rfl
set_option maxRecDepth 100000 in
theorem goalVer_vc : goalVerV := by
  unfold goalVerV
  intro s t f l p slot hr
  have h := rightC_iff.1 hr
  have hp := lay_prod (slot := slot) hr
  clear hr
  simp only [yNot_t, yNot_f, yEq_t, yEq_f, yAnd_t, yAnd_f, yLt_t, yLt_f, yLe_t, yLe_f, yAdd_e, yMul_e, and_true, Bool.true_eq_false]
  unfold verC nodeC
  repeat' (first | apply And.intro | intro _)
  all_goals (try simp (disch := omega) only [wrap64] at *)
  all_goals (try (have hq := hp (by omega) (by omega); clear hp; simp (disch := omega) only [wrap64]))
  all_goals (try split)
  all_goals omega
set_option maxRecDepth 100000 in
theorem goalVer_tt : (goalVer) = True := goalVer_eq.trans (eq_true goalVer_vc)
theorem goalVer_ok : goalVer := @ft' goalVer goalVer_tt
def goalVerRV : Prop := (∀ (s t f l p slot : Int),
  yAnd (rightC s t f l p) (yAnd (yLe (0 : Int) slot) (yLe slot s)) = true →
    verC s t f slot =
      yWrap IntKind.i64
        (yAdd (yWrap IntKind.i64 (yAdd (3 : Int) (yWrap IntKind.i64 (yMul (3 : Int) t))))
          (yWrap IntKind.i64 (yMul slot (yWrap IntKind.i64 (yAdd (3 : Int) (yWrap IntKind.i64 (yMul (2 : Int) f))))))))
set_option maxRecDepth 100000 in
theorem goalVerR_eq : goalVerR = goalVerRV := by kernel_rfl
set_option maxRecDepth 100000 in
theorem goalVerR_vc : goalVerRV := by
  unfold goalVerRV
  intro s t f l p slot hr
  simp only [yAnd_t, yLe_t] at hr
  have h := rightC_iff.1 hr.1
  have hp := lay_prod (slot := slot) hr.1
  have hr2 := hr.2
  have hr3 := hr.1
  simp only [yAdd_e, yMul_e]
  unfold verC nodeC
  repeat' (first | apply And.intro | intro _)
  all_goals (try simp (disch := omega) only [wrap64] at *)
  all_goals (try (have hq := hp (by omega) (by omega); clear hp; simp (disch := omega) only [wrap64]))
  all_goals (try split)
  all_goals omega
set_option maxRecDepth 100000 in
theorem goalVerR_tt : (goalVerR) = True := goalVerR_eq.trans (eq_true goalVerR_vc)
theorem goalVerR_ok : goalVerR := @ft' goalVerR goalVerR_tt
def goalShpV : Prop := (∀ (s t f l p slot : Int),
  rightC s t f l p = true →
    (yAnd (yEq s (0 : Int))
            (yAnd (yEq t (0 : Int)) (yAnd (yEq f (0 : Int)) (yAnd (yEq l (0 : Int)) (yAnd (yEq p (0 : Int)) true)))) =
          true →
        shapeC s t f slot = (-1 : Int)) ∧
      (yAnd (yEq s (0 : Int))
            (yAnd (yEq t (0 : Int)) (yAnd (yEq f (0 : Int)) (yAnd (yEq l (0 : Int)) (yAnd (yEq p (0 : Int)) true)))) =
          false →
        (yLe (0 : Int) slot = true →
            (yNot (yLt slot (yWrap IntKind.i64 (yAdd s (1 : Int)))) = true → shapeC s t f slot = (-1 : Int)) ∧
              (yNot (yLt slot (yWrap IntKind.i64 (yAdd s (1 : Int)))) = false →
                shapeC s t f slot =
                  yWrap IntKind.i64
                    (yAdd
                      (yWrap IntKind.i64
                        (yAdd
                          (yWrap IntKind.i64
                            (yAdd
                              (yWrap IntKind.i64
                                (yAdd (yWrap IntKind.i64 (yAdd (3 : Int) t)) (yWrap IntKind.i64 (yMul (2 : Int) t))))
                              (yWrap IntKind.i64
                                (yMul slot
                                  (yWrap IntKind.i64 (yAdd (3 : Int) (yWrap IntKind.i64 (yMul (2 : Int) f))))))))
                          (1 : Int)))
                      (0 : Int)))) ∧
          (yLe (0 : Int) slot = false → shapeC s t f slot = (-1 : Int))))
set_option maxRecDepth 100000 in
theorem goalShp_eq : goalShp = goalShpV := by kernel_rfl
set_option maxRecDepth 100000 in
theorem goalShp_vc : goalShpV := by
  unfold goalShpV
  intro s t f l p slot hr
  have h := rightC_iff.1 hr
  have hp := lay_prod (slot := slot) hr
  clear hr
  simp only [yNot_t, yNot_f, yEq_t, yEq_f, yAnd_t, yAnd_f, yLt_t, yLt_f, yLe_t, yLe_f, yAdd_e, yMul_e, and_true, Bool.true_eq_false]
  unfold shapeC nodeC
  repeat' (first | apply And.intro | intro _)
  all_goals (try simp (disch := omega) only [wrap64] at *)
  all_goals (try (have hq := hp (by omega) (by omega); clear hp; simp (disch := omega) only [wrap64]))
  all_goals (try split)
  all_goals omega
set_option maxRecDepth 100000 in
theorem goalShp_tt : (goalShp) = True := goalShp_eq.trans (eq_true goalShp_vc)
theorem goalShp_ok : goalShp := @ft' goalShp goalShp_tt
def goalShpRV : Prop := (∀ (s t f l p slot : Int),
  yAnd (rightC s t f l p) (yAnd (yLe (0 : Int) slot) (yLe slot s)) = true →
    shapeC s t f slot =
      yWrap IntKind.i64
        (yAdd
          (yWrap IntKind.i64
            (yAdd (yWrap IntKind.i64 (yAdd (3 : Int) (yWrap IntKind.i64 (yMul (3 : Int) t))))
              (yWrap IntKind.i64
                (yMul slot (yWrap IntKind.i64 (yAdd (3 : Int) (yWrap IntKind.i64 (yMul (2 : Int) f))))))))
          (1 : Int)))
set_option maxRecDepth 100000 in
theorem goalShpR_eq : goalShpR = goalShpRV := by kernel_rfl
set_option maxRecDepth 100000 in
theorem goalShpR_vc : goalShpRV := by
  unfold goalShpRV
  intro s t f l p slot hr
  simp only [yAnd_t, yLe_t, yLt_t] at hr
  have h := rightC_iff.1 hr.1
  have hp := lay_prod (slot := slot) hr.1
  have hr2 := hr.2
  have hr3 := hr.1
  simp only [yAdd_e, yMul_e]
  unfold shapeC nodeC
  repeat' (first | apply And.intro | intro _)
  all_goals (try simp (disch := omega) only [wrap64] at *)
  all_goals (try (have hq := hp (by omega) (by omega); clear hp; simp (disch := omega) only [wrap64]))
  all_goals (try split)
  all_goals omega
set_option maxRecDepth 100000 in
theorem goalShpR_tt : (goalShpR) = True := goalShpR_eq.trans (eq_true goalShpR_vc)
theorem goalShpR_ok : goalShpR := @ft' goalShpR goalShpR_tt
def goalKeyV : Prop := (∀ (s t f l p slot i : Int),
  rightC s t f l p = true →
    (yAnd (yEq s (0 : Int))
            (yAnd (yEq t (0 : Int)) (yAnd (yEq f (0 : Int)) (yAnd (yEq l (0 : Int)) (yAnd (yEq p (0 : Int)) true)))) =
          true →
        keyC s t f slot i = (-1 : Int)) ∧
      (yAnd (yEq s (0 : Int))
            (yAnd (yEq t (0 : Int)) (yAnd (yEq f (0 : Int)) (yAnd (yEq l (0 : Int)) (yAnd (yEq p (0 : Int)) true)))) =
          false →
        (yLe (0 : Int) slot = true →
            (yNot (yLt slot (yWrap IntKind.i64 (yAdd s (1 : Int)))) = true → keyC s t f slot i = (-1 : Int)) ∧
              (yNot (yLt slot (yWrap IntKind.i64 (yAdd s (1 : Int)))) = false →
                (yLe (0 : Int) i = true →
                    (yNot (yLt i f) = true → keyC s t f slot i = (-1 : Int)) ∧
                      (yNot (yLt i f) = false →
                        keyC s t f slot i =
                          yWrap IntKind.i64
                            (yAdd
                              (yWrap IntKind.i64
                                (yAdd
                                  (yWrap IntKind.i64
                                    (yAdd
                                      (yWrap IntKind.i64
                                        (yAdd (yWrap IntKind.i64 (yAdd (3 : Int) t))
                                          (yWrap IntKind.i64 (yMul (2 : Int) t))))
                                      (yWrap IntKind.i64
                                        (yMul slot
                                          (yWrap IntKind.i64
                                            (yAdd (3 : Int) (yWrap IntKind.i64 (yMul (2 : Int) f))))))))
                                  (3 : Int)))
                              i))) ∧
                  (yLe (0 : Int) i = false → keyC s t f slot i = (-1 : Int)))) ∧
          (yLe (0 : Int) slot = false → keyC s t f slot i = (-1 : Int))))
set_option maxRecDepth 100000 in
theorem goalKey_eq : goalKey = goalKeyV := by kernel_rfl
set_option maxRecDepth 100000 in
theorem goalKey_vc : goalKeyV := by
  unfold goalKeyV
  intro s t f l p slot i hr
  have h := rightC_iff.1 hr
  have hp := lay_prod (slot := slot) hr
  clear hr
  simp only [yNot_t, yNot_f, yEq_t, yEq_f, yAnd_t, yAnd_f, yLt_t, yLt_f, yLe_t, yLe_f, yAdd_e, yMul_e, and_true, Bool.true_eq_false]
  unfold keyC nodeC
  repeat' (first | apply And.intro | intro _)
  all_goals (try simp (disch := omega) only [wrap64] at *)
  all_goals (try (have hq := hp (by omega) (by omega); clear hp; simp (disch := omega) only [wrap64]))
  all_goals (try split)
  all_goals omega
set_option maxRecDepth 100000 in
theorem goalKey_tt : (goalKey) = True := goalKey_eq.trans (eq_true goalKey_vc)
theorem goalKey_ok : goalKey := @ft' goalKey goalKey_tt
def goalKeyRV : Prop := (∀ (s t f l p slot i : Int),
  yAnd (yAnd (rightC s t f l p) (yAnd (yLe (0 : Int) slot) (yLe slot s))) (yAnd (yLe (0 : Int) i) (yLt i f)) = true →
    keyC s t f slot i =
      yWrap IntKind.i64
        (yAdd
          (yWrap IntKind.i64
            (yAdd
              (yWrap IntKind.i64
                (yAdd (yWrap IntKind.i64 (yAdd (3 : Int) (yWrap IntKind.i64 (yMul (3 : Int) t))))
                  (yWrap IntKind.i64
                    (yMul slot (yWrap IntKind.i64 (yAdd (3 : Int) (yWrap IntKind.i64 (yMul (2 : Int) f))))))))
              (3 : Int)))
          i))
set_option maxRecDepth 100000 in
theorem goalKeyR_eq : goalKeyR = goalKeyRV := by kernel_rfl
set_option maxRecDepth 100000 in
theorem goalKeyR_vc : goalKeyRV := by
  unfold goalKeyRV
  intro s t f l p slot i hr
  simp only [yAnd_t, yLe_t, yLt_t] at hr
  have h := rightC_iff.1 hr.1.1
  have hp := lay_prod (slot := slot) hr.1.1
  have hr2 := hr.2
  have hr3 := hr.1.2
  simp only [yAdd_e, yMul_e]
  unfold keyC nodeC
  repeat' (first | apply And.intro | intro _)
  all_goals (try simp (disch := omega) only [wrap64] at *)
  all_goals (try (have hq := hp (by omega) (by omega); clear hp; simp (disch := omega) only [wrap64]))
  all_goals (try split)
  all_goals omega
set_option maxRecDepth 100000 in
theorem goalKeyR_tt : (goalKeyR) = True := goalKeyR_eq.trans (eq_true goalKeyR_vc)
theorem goalKeyR_ok : goalKeyR := @ft' goalKeyR goalKeyR_tt
def goalValV : Prop := (∀ (s t f l p slot i : Int),
  rightC s t f l p = true →
    (yAnd (yEq s (0 : Int))
            (yAnd (yEq t (0 : Int)) (yAnd (yEq f (0 : Int)) (yAnd (yEq l (0 : Int)) (yAnd (yEq p (0 : Int)) true)))) =
          true →
        valC s t f slot i = (-1 : Int)) ∧
      (yAnd (yEq s (0 : Int))
            (yAnd (yEq t (0 : Int)) (yAnd (yEq f (0 : Int)) (yAnd (yEq l (0 : Int)) (yAnd (yEq p (0 : Int)) true)))) =
          false →
        (yLe (0 : Int) slot = true →
            (yNot (yLt slot (yWrap IntKind.i64 (yAdd s (1 : Int)))) = true → valC s t f slot i = (-1 : Int)) ∧
              (yNot (yLt slot (yWrap IntKind.i64 (yAdd s (1 : Int)))) = false →
                (yLe (0 : Int) i = true →
                    (yNot (yLt i f) = true → valC s t f slot i = (-1 : Int)) ∧
                      (yNot (yLt i f) = false →
                        valC s t f slot i =
                          yWrap IntKind.i64
                            (yAdd
                              (yWrap IntKind.i64
                                (yAdd
                                  (yWrap IntKind.i64
                                    (yAdd
                                      (yWrap IntKind.i64
                                        (yAdd (yWrap IntKind.i64 (yAdd (3 : Int) t))
                                          (yWrap IntKind.i64 (yMul (2 : Int) t))))
                                      (yWrap IntKind.i64
                                        (yMul slot
                                          (yWrap IntKind.i64
                                            (yAdd (3 : Int) (yWrap IntKind.i64 (yMul (2 : Int) f))))))))
                                  (yWrap IntKind.i64 (yAdd (3 : Int) f))))
                              i))) ∧
                  (yLe (0 : Int) i = false → valC s t f slot i = (-1 : Int)))) ∧
          (yLe (0 : Int) slot = false → valC s t f slot i = (-1 : Int))))
set_option maxRecDepth 100000 in
theorem goalVal_eq : goalVal = goalValV := by kernel_rfl
set_option maxRecDepth 100000 in
theorem goalVal_vc : goalValV := by
  unfold goalValV
  intro s t f l p slot i hr
  have h := rightC_iff.1 hr
  have hp := lay_prod (slot := slot) hr
  clear hr
  simp only [yNot_t, yNot_f, yEq_t, yEq_f, yAnd_t, yAnd_f, yLt_t, yLt_f, yLe_t, yLe_f, yAdd_e, yMul_e, and_true, Bool.true_eq_false]
  unfold valC nodeC
  repeat' (first | apply And.intro | intro _)
  all_goals (try simp (disch := omega) only [wrap64] at *)
  all_goals (try (have hq := hp (by omega) (by omega); clear hp; simp (disch := omega) only [wrap64]))
  all_goals (try split)
  all_goals omega
set_option maxRecDepth 100000 in
theorem goalVal_tt : (goalVal) = True := goalVal_eq.trans (eq_true goalVal_vc)
theorem goalVal_ok : goalVal := @ft' goalVal goalVal_tt
def goalValRV : Prop := (∀ (s t f l p slot i : Int),
  yAnd (yAnd (rightC s t f l p) (yAnd (yLe (0 : Int) slot) (yLe slot s))) (yAnd (yLe (0 : Int) i) (yLt i f)) = true →
    valC s t f slot i =
      yWrap IntKind.i64
        (yAdd
          (yWrap IntKind.i64
            (yAdd
              (yWrap IntKind.i64
                (yAdd
                  (yWrap IntKind.i64
                    (yAdd (yWrap IntKind.i64 (yAdd (3 : Int) (yWrap IntKind.i64 (yMul (3 : Int) t))))
                      (yWrap IntKind.i64
                        (yMul slot (yWrap IntKind.i64 (yAdd (3 : Int) (yWrap IntKind.i64 (yMul (2 : Int) f))))))))
                  (3 : Int)))
              f))
          i))
set_option maxRecDepth 100000 in
theorem goalValR_eq : goalValR = goalValRV := by kernel_rfl
set_option maxRecDepth 100000 in
theorem goalValR_vc : goalValRV := by
  unfold goalValRV
  intro s t f l p slot i hr
  simp only [yAnd_t, yLe_t, yLt_t] at hr
  have h := rightC_iff.1 hr.1.1
  have hp := lay_prod (slot := slot) hr.1.1
  have hr2 := hr.2
  have hr3 := hr.1.2
  simp only [yAdd_e, yMul_e]
  unfold valC nodeC
  repeat' (first | apply And.intro | intro _)
  all_goals (try simp (disch := omega) only [wrap64] at *)
  all_goals (try (have hq := hp (by omega) (by omega); clear hp; simp (disch := omega) only [wrap64]))
  all_goals (try split)
  all_goals omega
set_option maxRecDepth 100000 in
theorem goalValR_tt : (goalValR) = True := goalValR_eq.trans (eq_true goalValR_vc)
theorem goalValR_ok : goalValR := @ft' goalValR goalValR_tt
set_option maxRecDepth 100000 in
theorem smL1 {f : FuncId} {F : Int → Int → Int → Int → Int} (hm : Tryd.prog.follows .mixedOrders = true) (hg : gL1goal Tryd.prog f F) : SmCall Tryd.prog f (fun args h => (ctS gL1 (fL1 F) args h).sel) :=
  ctS_ok hm noSm_ok (by decide) (fun ds a h => by
    unfold fL1 at h
    split at h
    · simp only [Option.some.injEq, Prod.mk.injEq] at h
      obtain ⟨h1, rfl⟩ := h
      exact ⟨_, 1000, hg _ _ _ _ _ _ h1⟩
    · cases h)
set_option maxRecDepth 100000 in
theorem smL2 {f : FuncId} {F : Int → Int → Int → Int → Int → Int} (hm : Tryd.prog.follows .mixedOrders = true) (hg : gL2goal Tryd.prog f F) : SmCall Tryd.prog f (fun args h => (ctS gL2 (fL2 F) args h).sel) :=
  ctS_ok hm noSm_ok (by decide) (fun ds a h => by
    unfold fL2 at h
    split at h
    · simp only [Option.some.injEq, Prod.mk.injEq] at h
      obtain ⟨h1, rfl⟩ := h
      exact ⟨_, 1000, hg _ _ _ _ _ _ _ h1⟩
    · cases h)
set_option maxRecDepth 100000 in
theorem smR1 {f : FuncId} {F : Int → Int → Int → Int → Int} (hm : Tryd.prog.follows .mixedOrders = true) (hg : gR1goal Tryd.prog f F) : SmCall Tryd.prog f (fun args h => (ctS gL1 (fR1 F) args h).sel) :=
  ctS_ok hm noSm_ok (by decide) (fun ds a h => by
    unfold fR1 at h
    split at h
    · simp only [Option.some.injEq, Prod.mk.injEq] at h
      obtain ⟨h1, rfl⟩ := h
      exact ⟨_, 1000, hg _ _ _ _ _ _ h1⟩
    · cases h)
set_option maxRecDepth 100000 in
theorem smR2 {f : FuncId} {F : Int → Int → Int → Int → Int → Int} (hm : Tryd.prog.follows .mixedOrders = true) (hg : gR2goal Tryd.prog f F) : SmCall Tryd.prog f (fun args h => (ctS gL2 (fR2 F) args h).sel) :=
  ctS_ok hm noSm_ok (by decide) (fun ds a h => by
    unfold fR2 at h
    split at h
    · simp only [Option.some.injEq, Prod.mk.injEq] at h
      obtain ⟨h1, rfl⟩ := h
      exact ⟨_, 1000, hg _ _ _ _ _ _ _ h1⟩
    · cases h)
end Go.Proofs.YtfpokmglhaenaaaDoor.Ex
