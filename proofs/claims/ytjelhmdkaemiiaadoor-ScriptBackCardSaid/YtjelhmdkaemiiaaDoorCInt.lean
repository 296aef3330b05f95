/- Contracts: num.Int, gleaningref02.Int, both Right, script.plain. -/
import Derived.Test.YtjelhmdkaemiiaaDoorCNum
import Derived.Test.YtjelhmdkaemiiaaDoorCJoin
import Derived.Test.YtjelhmdkaemiiaaDoorWo
namespace Go.Proofs.YtjelhmdkaemiiaaDoor.Ex
open Go

-- OPEN inI fmI rightO inO
def inI (n : Int) : Bool := yAnd (yLe (-9223372036854775808) n) (yLt n 9223372036854775808)
/-- A whole number's text. -/
def fmI (n : Int) : List UInt8 := bif yLt n 0 then 45 :: fm (0 - n) else fm n
def rightO (k m : Int) : Bool := bif yEq k 4 then yAnd (yLe 1 m) (yLe m 1000) else yAnd (yLe 1 k) (yLe k 3)
def inO (key val hi : Int) : Bool := yAnd (inU key) (yAnd (inU val) (inU hi))
abbrev gI1 : List Ag := [.cell none]
abbrev dI1 (n : Int) : List Da := [.cell (.v (.y .i64 n))]
def fInt (ds : List Da) : Option (Bool × AV) :=
  match ds with
  | [.cell (.v (.y .i64 n))] => some (inI n, .ys (fmI n))
  | _ => none
abbrev gOp : List Ag := [.agg [none, none, none, none, none]]
abbrev dOp (k key val hi most : Int) : List Da := [.agg [.v (.y .i64 k), .v (.y .u64 key), .v (.y .u64 val), .v (.y .u64 hi), .v (.y .i64 most)]]
def fRg (ds : List Da) : Option (Bool × AV) :=
  match ds with
  | [.agg [.v (.y .i64 k), .v (.y .u64 _), .v (.y .u64 _), .v (.y .u64 _), .v (.y .i64 most)]] => some (true, .yb (rightO k most))
  | _ => none
abbrev sO : Sx := .agg [.sc, .sc, .sc, .sc, .sc]
abbrev dO (k key val hi most : Int) : Dx := .l [.v (.y .i64 k), .v (.y .u64 key), .v (.y .u64 val), .v (.y .u64 hi), .v (.y .i64 most)]
/-- What is asked of a function's walk. -/
abbrev wxQ (P : Program) (sm : FuncId → Option Sm) (ann : Nat → Option (St → LoopA)) (f : FuncId) (ss : List Sx) (ds : List Dx) (rs : Sx) (r : Dx) (post : List (List Dx)) : Prop :=
  wxF P sm ann 1000 f (canXs nmI ss ds []).1 (heapOf (canXs nmI ss ds []).2)
    (postX (canXs nmI ss ds []).2.length (delX 0 (canXs nmI ss ds []).2 (ptrId (canXs nmI ss ds []).1)) (ptrId (canXs nmI ss ds []).1) (expR (fun j => (canXs nmI ss ds []).2.length + j) (ptrSh ss ds) rs r post))
def fPl (ds : List Dx) : Option (Bool × Dx × List (List Dx)) :=
  match ds with
  | [.l [.v (.y .i64 k), .v (.y .u64 key), .v (.y .u64 val), .v (.y .u64 hi), .v (.y .i64 most)]] => some (true, dO k key (ySel (yEq k 2) val 0) (ySel (yEq k 4) hi 0) (ySel (yEq k 4) most 0), [])
  | _ => none
def goalPl : Prop := ∀ (k key val hi most : Int), wxQ Tryd.prog noSm (fun _ => none) 35 [sO] [dO k key val hi most] sO (dO k key (ySel (yEq k 2) val 0) (ySel (yEq k 4) hi 0) (ySel (yEq k 4) most 0)) []
def lFm : List (Nat × Sm) := [(47, .ct (ctS gForm fForm)), (20, .ct (ctS gForm fForm))]
def gIntg (P : Program) (f : FuncId) : Prop := ∀ (n : Int), inI n = true → wxF P (smL lFm) (fun _ => none) 1000 f (canA gI1 (dI1 n) []).1 (heapOf (canA gI1 (dI1 n) []).2) (fun v _ => cmpC (.ys (fmI n)) v)
def goalInt : Prop := gIntg Tryd.prog 25
def goalIntR : Prop := gIntg Tryd.prog 11
def gRgg (P : Program) (f : FuncId) : Prop := ∀ (k key val hi most : Int), wxF P noSm (fun _ => none) 1000 f (canA gOp (dOp k key val hi most) []).1 (heapOf (canA gOp (dOp k key val hi most) []).2) (fun v _ => cmpC (.yb (rightO k most)) v)
def goalRg : Prop := gRgg Tryd.prog 33
def goalRgR : Prop := gRgg Tryd.prog 19
set_option maxRecDepth 100000 in
theorem goalInt_eq : goalInt = (∀ (n : Int), inI n = true → (yLt n (0 : Int) = true → (yAnd (yEq (10 : Int) (10 : Int)) (inU (yWrap IntKind.u64 (yAdd (yWrap IntKind.u64 (yWrap IntKind.i64 (ySub (0 : Int) (yWrap IntKind.i64 (yAdd n (1 : Int)))))) (1 : Int)))) = true → (yNle (yNadd (yLen [(45 : UInt8)]) (yLen (fm (yWrap IntKind.u64 (yAdd (yWrap IntKind.u64 (yWrap IntKind.i64 (ySub (0 : Int) (yWrap IntKind.i64 (yAdd n (1 : Int)))))) (1 : Int)))))) (nat_lit 9223372036854775807) = true → fmI n = yCat [(45 : UInt8)] (fm (yWrap IntKind.u64 (yAdd (yWrap IntKind.u64 (yWrap IntKind.i64 (ySub (0 : Int) (yWrap IntKind.i64 (yAdd n (1 : Int)))))) (1 : Int))))) ∧ (yNle (yNadd (yLen [(45 : UInt8)]) (yLen (fm (yWrap IntKind.u64 (yAdd (yWrap IntKind.u64 (yWrap IntKind.i64 (ySub (0 : Int) (yWrap IntKind.i64 (yAdd n (1 : Int)))))) (1 : Int)))))) (nat_lit 9223372036854775807) = false → False)) ∧ (yAnd (yEq (10 : Int) (10 : Int)) (inU (yWrap IntKind.u64 (yAdd (yWrap IntKind.u64 (yWrap IntKind.i64 (ySub (0 : Int) (yWrap IntKind.i64 (yAdd n (1 : Int)))))) (1 : Int)))) = false → False)) ∧ (yLt n (0 : Int) = false → (yAnd (yEq (10 : Int) (10 : Int)) (inU (yWrap IntKind.u64 n)) = true → fmI n = fm (yWrap IntKind.u64 n)) ∧ (yAnd (yEq (10 : Int) (10 : Int)) (inU (yWrap IntKind.u64 n)) = false → False))) := by kernel_rfl
set_option maxRecDepth 100000 in
theorem goalIntR_eq : goalIntR = (∀ (n : Int), inI n = true → (yLe (0 : Int) n = true → (yAnd (yEq (10 : Int) (10 : Int)) (inU (yWrap IntKind.u64 n)) = true → fmI n = fm (yWrap IntKind.u64 n)) ∧ (yAnd (yEq (10 : Int) (10 : Int)) (inU (yWrap IntKind.u64 n)) = false → False)) ∧ (yLe (0 : Int) n = false → (yEq n (-9223372036854775808 : Int) = true → fmI n = [(45 : UInt8), (57 : UInt8), (50 : UInt8), (50 : UInt8), (51 : UInt8), (51 : UInt8), (55 : UInt8), (50 : UInt8), (48 : UInt8), (51 : UInt8), (54 : UInt8), (56 : UInt8), (53 : UInt8), (52 : UInt8), (55 : UInt8), (55 : UInt8), (53 : UInt8), (56 : UInt8), (48 : UInt8), (56 : UInt8)]) ∧ (yEq n (-9223372036854775808 : Int) = false → (yAnd (yEq (10 : Int) (10 : Int)) (inU (yWrap IntKind.u64 (yWrap IntKind.i64 (ySub (0 : Int) n)))) = true → (yNle (yNadd (yLen [(45 : UInt8)]) (yLen (fm (yWrap IntKind.u64 (yWrap IntKind.i64 (ySub (0 : Int) n)))))) (nat_lit 9223372036854775807) = true → fmI n = yCat [(45 : UInt8)] (fm (yWrap IntKind.u64 (yWrap IntKind.i64 (ySub (0 : Int) n))))) ∧ (yNle (yNadd (yLen [(45 : UInt8)]) (yLen (fm (yWrap IntKind.u64 (yWrap IntKind.i64 (ySub (0 : Int) n)))))) (nat_lit 9223372036854775807) = false → False)) ∧ (yAnd (yEq (10 : Int) (10 : Int)) (inU (yWrap IntKind.u64 (yWrap IntKind.i64 (ySub (0 : Int) n)))) = false → False)))) := by kernel_rfl
set_option maxRecDepth 100000 in
theorem goalRg_eq : goalRg = (∀ (k key val hi most : Int), (yEq k (4 : Int) = true → (yLe (1 : Int) most = true → rightO k most = yLe most (1000 : Int)) ∧ (yLe (1 : Int) most = false → rightO k most = false)) ∧ (yEq k (4 : Int) = false → (yLe (1 : Int) k = true → rightO k most = yLe k (3 : Int)) ∧ (yLe (1 : Int) k = false → rightO k most = false))) := by kernel_rfl
set_option maxRecDepth 100000 in
theorem goalRgR_eq : goalRgR = (∀ (k key val hi most : Int), (yEq k (4 : Int) = true → (yLe (1 : Int) most = true → rightO k most = yLe most (1000 : Int)) ∧ (yLe (1 : Int) most = false → rightO k most = false)) ∧ (yEq k (4 : Int) = false → (yLe (1 : Int) k = true → rightO k most = yLe k (3 : Int)) ∧ (yLe (1 : Int) k = false → rightO k most = false))) := by kernel_rfl
set_option maxRecDepth 100000 in
theorem goalPl_eq : goalPl = (∀ (k key val hi most : Int), (yEq k (2 : Int) = true → k = k ∧ key = key ∧ ySel (yEq k (2 : Int)) val (0 : Int) = val ∧ ySel (yEq k (4 : Int)) hi (0 : Int) = (0 : Int) ∧ ySel (yEq k (4 : Int)) most (0 : Int) = (0 : Int) ∧ true = true) ∧ (yEq k (2 : Int) = false → (yEq k (4 : Int) = true → k = k ∧ key = key ∧ ySel (yEq k (2 : Int)) val (0 : Int) = (0 : Int) ∧ ySel (yEq k (4 : Int)) hi (0 : Int) = hi ∧ ySel (yEq k (4 : Int)) most (0 : Int) = most ∧ true = true) ∧ (yEq k (4 : Int) = false → k = k ∧ key = key ∧ ySel (yEq k (2 : Int)) val (0 : Int) = (0 : Int) ∧ ySel (yEq k (4 : Int)) hi (0 : Int) = (0 : Int) ∧ ySel (yEq k (4 : Int)) most (0 : Int) = (0 : Int) ∧ true = true))) := by kernel_rfl
theorem fmF_len : ∀ (k : Nat) (n : Int) (acc : List UInt8), (fmF k n acc).length ≤ k + acc.length
  | 0, _, acc => by simp [fmF]
  | k + 1, n, acc => by
    unfold fmF
    cases decide (n / 10 = 0) with
    | true => simp; omega
    | false =>
      have := fmF_len k (n / 10) (dgU (n % 10) :: acc)
      simp only [List.length_cons] at this
      simp only [cond_false]; omega
theorem fm_len (n : Int) : yLen (fm n) ≤ 20 := by
  have := fmF_len 20 n []
  simpa [yLen, fm] using this
theorem cat1 (x : UInt8) (l : List UInt8) : yCat [x] l = x :: l := rfl
theorem fmI_neg {n : Int} (h : n < 0) : fmI n = 45 :: fm (0 - n) := by unfold fmI yLt; rw [decide_eq_true h]; rfl
theorem fmI_pos {n : Int} (h : 0 ≤ n) : fmI n = fm n := by unfold fmI yLt; rw [decide_eq_false (by omega)]; rfl
theorem inI_t {n : Int} (h : inI n = true) : -9223372036854775808 ≤ n ∧ n < 9223372036854775808 := by
  simpa only [inI, yAnd_t, yLe_t, yLt_t] using h
theorem inU_t {n : Int} : inU n = true ↔ 0 ≤ n ∧ n < 18446744073709551616 := by
  simp only [inU, yAnd_t, yLe_t, yLt_t]
theorem inU_f {n : Int} : inU n = false ↔ ¬ (0 ≤ n ∧ n < 18446744073709551616) := by
  rw [← inU_t]; simp
set_option maxRecDepth 100000 in
theorem goalInt_ok : goalInt := by
  refine kernel_go goalInt_eq ?_
  intro n hn
  have hr := inI_t hn
  have hL : ∀ m, yLen (fm m) ≤ 20 := fm_len
  have h1 : ∀ x : UInt8, yLen [x] = 1 := fun _ => rfl
  refine ⟨fun hneg => ?_, fun hpos => ?_⟩
  · simp only [yLt_t] at hneg
    have e : yWrap .u64 (yAdd (yWrap .u64 (yWrap .i64 (ySub 0 (yWrap .i64 (yAdd n 1))))) 1) = 0 - n := by
      have e1 : yWrap .i64 (yAdd n 1) = n + 1 := wrap64 (by unfold yAdd; omega) (by unfold yAdd; omega)
      rw [e1]
      have e2 : yWrap .i64 (ySub 0 (n + 1)) = 0 - (n + 1) := wrap64 (by unfold ySub; omega) (by unfold ySub; omega)
      rw [e2]
      have e3 : yWrap .u64 (0 - (n + 1)) = 0 - (n + 1) := wrapU64 (by omega) (by omega)
      rw [e3]
      have e4 : yWrap .u64 (yAdd (0 - (n + 1)) 1) = 0 - (n + 1) + 1 := wrapU64 (by unfold yAdd; omega) (by unfold yAdd; omega)
      rw [e4]; omega
    simp only [e, h1, cat1, fmI_neg hneg]
    have := hL (0 - n)
    simp only [yEq_t, yEq_f, yAnd_t, yAnd_f, yNle_t, yNle_f, yNadd_e, true_and, inU_t, inU_f]
    repeat' (first | apply And.intro | intro _)
    all_goals first | omega | trivial
  · simp only [yLt_f] at hpos
    have e : yWrap .u64 n = n := wrapU64 (by omega) (by omega)
    simp only [e, fmI_pos (show 0 ≤ n by omega)]
    simp only [yEq_t, yEq_f, yAnd_t, yAnd_f, true_and, inU_t, inU_f]
    repeat' (first | apply And.intro | intro _)
    all_goals first | omega | trivial
set_option maxRecDepth 100000 in
theorem goalIntR_ok : goalIntR := by
  refine kernel_go goalIntR_eq ?_
  intro n hn
  have hr := inI_t hn
  have hL : ∀ m, yLen (fm m) ≤ 20 := fm_len
  have h1 : ∀ x : UInt8, yLen [x] = 1 := fun _ => rfl
  refine ⟨fun hpos => ?_, fun hneg => ⟨fun he => ?_, fun hne => ?_⟩⟩
  · simp only [yLe_t] at hpos
    have e : yWrap .u64 n = n := wrapU64 (by omega) (by omega)
    simp only [e, fmI_pos hpos]
    simp only [yEq_t, yEq_f, yAnd_t, yAnd_f, true_and, inU_t, inU_f]
    repeat' (first | apply And.intro | intro _)
    all_goals first | omega | trivial
  · simp only [yEq_t] at he
    subst he
    rfl
  · simp only [yLe_f] at hneg
    simp only [yEq_f] at hne
    have e : yWrap .u64 (yWrap .i64 (ySub 0 n)) = 0 - n := by
      have e2 : yWrap .i64 (ySub 0 n) = 0 - n := wrap64 (by unfold ySub; omega) (by unfold ySub; omega)
      rw [e2]
      exact wrapU64 (by omega) (by omega)
    simp only [e, h1, cat1, fmI_neg (show n < 0 by omega)]
    have := hL (0 - n)
    simp only [yEq_t, yEq_f, yAnd_t, yAnd_f, yNle_t, yNle_f, yNadd_e, true_and, inU_t, inU_f]
    repeat' (first | apply And.intro | intro _)
    all_goals first | omega | trivial
theorem right_true (k most : Int) : (yEq k 4 = true → (yLe 1 most = true → rightO k most = yLe most 1000) ∧ (yLe 1 most = false → rightO k most = false)) ∧ (yEq k 4 = false → (yLe 1 k = true → rightO k most = yLe k 3) ∧ (yLe 1 k = false → rightO k most = false)) := by
  unfold rightO yAnd
  cases yEq k 4 <;> cases yLe 1 most <;> cases yLe 1 k <;> simp
set_option maxRecDepth 100000 in
theorem goalRg_ok : goalRg := kernel_go goalRg_eq fun k _ _ _ most => right_true k most
set_option maxRecDepth 100000 in
theorem goalRgR_ok : goalRgR := kernel_go goalRgR_eq fun k _ _ _ most => right_true k most
set_option maxRecDepth 100000 in
theorem goalPl_ok : goalPl := by
  refine kernel_go goalPl_eq ?_
  intro k key val hi most
  simp only [yEq_t, yEq_f]
  refine ⟨fun h => ?_, fun h => ⟨fun h4 => ?_, fun h4 => ?_⟩⟩
  · subst h; simp [ySel, yEq]
  · subst h4; simp [ySel, yEq]
  · simp [ySel, yEq, h, h4]
theorem smInt {f : FuncId} (hm : Tryd.prog.follows .mixedOrders = true) (hs : SmOK Tryd.prog (smL lFm)) (h : gIntg Tryd.prog f) : SmCall Tryd.prog f (fun args h => (ctS gI1 fInt args h).sel) :=
  ctS_ok hm hs (by decide) (fun ds a e => by
    unfold fInt at e
    split at e
    · rename_i n
      simp only [Option.some.injEq, Prod.mk.injEq] at e
      obtain ⟨h1, rfl⟩ := e
      exact ⟨_, 1000, h n h1⟩
    · cases e)
theorem smRg {f : FuncId} (hm : Tryd.prog.follows .mixedOrders = true) (h : gRgg Tryd.prog f) : SmCall Tryd.prog f (fun args h => (ctS gOp fRg args h).sel) :=
  ctS_ok hm noSm_ok (by decide) (fun ds a e => by
    unfold fRg at e
    split at e
    · rename_i k key val hi most
      simp only [Option.some.injEq, Prod.mk.injEq, true_and] at e
      subst e
      exact ⟨_, 1000, h k key val hi most⟩
    · cases e)
set_option maxRecDepth 100000 in
theorem smPl (hm : Tryd.prog.follows .mixedOrders = true) : SmCall Tryd.prog 35 (fun args h => (ctX [sO] sO fPl args h).sel) :=
  ctX_ok hm noSm_ok (fun ds r post e => by
    unfold fPl at e
    split at e
    · rename_i k key val hi most
      simp only [Option.some.injEq, Prod.mk.injEq] at e
      obtain ⟨_, rfl, rfl⟩ := e
      have h2 := @goalPl_ok
      unfold goalPl at h2
      exact ⟨_, 1000, h2 k key val hi most⟩
    · cases e)
end Go.Proofs.YtjelhmdkaemiiaaDoor.Ex
