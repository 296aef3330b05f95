/- Contracts: gleaningref10.Has tells whether a number is in a list; gleaningref33.Right tells of five lists what census.Told.Right tells. -/
import Derived.Test.YtppcjdhohohcfaaGreatDoorWo
import Derived.Test.YtppcjdhohohcfaaGreatDoorWi
import Derived.Test.YtppcjdhohohcfaaGreatDoorSl
import Derived.Test.YtppcjdhohohcfaaGreatDoorProg
namespace Go.Proofs.YtppcjdhohohcfaaGreatDoor.Ex
open Go

-- OPEN hasI catI hasPre rgtPre rgtI mToR cat5 sum5
def mToR (n i : Nat) : Nat := n - i
def hasI (n : Nat) (f : Nat → Int) (k : Int) : Bool := decide (∃ i, i < n ∧ f i = k)
def hasPre (n : Nat) (f : Nat → Int) (k : Int) (i : Nat) : Prop := i ≤ n ∧ ∀ j, j < i → f j ≠ k
def annHas (n : Nat) (f : Nat → Int) (k : Int) (b : Nat) : Option (St → LoopA) :=
  match b with
  | 0 => some fun _ => { ι := Nat, tms := [5], tmU := fun i => [.y .i64 (yInt i)], ids := [], hpU := fun _ => [], del := [], ex := 0, pre := hasPre n f k, ms := mToR n }
  | _ => none
abbrev cJ : Cs := some (3, [.int .i64])
abbrev gHas : List Ag := [.cell cJ, .cell none]
def fHas (ds : List Da) : Option (Bool × AV) :=
  match ds with
  | [.cell (.rows _ n [.int .i64 f]), .cell (.v (.y .i64 k))] => some (yNle n 1000000000, .yb (hasI n f k))
  | _ => none
def goalHas : Prop := ∀ (nil : Bool) (n : Nat) (f : Nat → Int) (k : Int), yNle n 1000000000 = true →
  wxF Tryz.prog noSm (annHas n f k) 1000 29 (canA gHas [.cell (.rows nil n [.int .i64 f]), .cell (.v (.y .i64 k))] []).1 (heapOf (canA gHas [.cell (.rows nil n [.int .i64 f]), .cell (.v (.y .i64 k))] []).2) (fun v _ => cmpC (.yb (hasI n f k)) v)
theorem goalHas_eq : goalHas = (∀ (nil : Bool) (n : Nat) (f : Nat → Int) (k : Int), yNle n (nat_lit 1000000000) = true → true = true ∧ (∃ (i0 : Nat), hasPre n f k i0 ∧ true = true ∧ yInt i0 = (0 : Int) ∧ true = true) ∧ ∀ (g : Nat → AV) (i : Nat), hasPre n f k i → (yLt (yInt i) (yInt n) = true → (yIn (yInt i) n = true → (yNlt (yNadd (nat_lit 0) (yNat (yInt i))) n = true → (yEq (f (yNadd (nat_lit 0) (yNat (yInt i)))) k = true → hasI n f k = true) ∧ (yEq (f (yNadd (nat_lit 0) (yNat (yInt i)))) k = false → true = true ∧ ∃ (i' : Nat), hasPre n f k i' ∧ Nat.succ (mToR n i') ≤ mToR n i ∧ true = true ∧ yInt i' = yWrap IntKind.i64 (yAdd (yInt i) (1 : Int)) ∧ true = true)) ∧ (yNlt (yNadd (nat_lit 0) (yNat (yInt i))) n = false → False)) ∧ (yIn (yInt i) n = false → False)) ∧ (yLt (yInt i) (yInt n) = false → hasI n f k = false)) := by kernel_rfl
set_option maxRecDepth 100000 in
theorem goalHas_ok : goalHas := by
  refine kernel_go goalHas_eq ?_
  intro nil n f k hn
  simp only [yEq_t, yEq_f, yLt_t, yLt_f, yIn_t, yIn_f, yNlt_t, yNlt_f, yNle_t, yInt_e, yNat_e, yNadd_e, yAdd_e, true_and, and_true, Nat.zero_add] at hn ⊢
  refine ⟨⟨0, ⟨Nat.zero_le _, fun j hj => by omega⟩, rfl⟩, fun _ i hi => ⟨fun hlt => ⟨fun _ => ⟨fun _ => ⟨fun h => ?_, fun h => ?_⟩, fun h => by omega⟩, fun h => by omega⟩, fun hge => ?_⟩⟩
  · unfold hasI; rw [decide_eq_true_eq]; exact ⟨i, by omega, h⟩
  · refine ⟨i + 1, ⟨by omega, fun j hj => ?_⟩, ?_, ?_⟩
    · by_cases e : j = i
      · subst e; exact h
      · exact hi.2 j (by omega)
    · unfold mToR; omega
    · rw [wrap64 (by omega) (by omega)]; rfl
  · unfold hasI; rw [decide_eq_false_iff_not]
    rintro ⟨j, h1, h2⟩
    exact hi.2 j (by have := hi.1; omega) h2
set_option maxRecDepth 100000 in
theorem smHas (hm : Tryz.prog.follows .mixedOrders = true) : SmCall Tryz.prog 29 (fun args h => (ctS gHas fHas args h).sel) :=
  ctS_ok hm noSm_ok (by decide) (fun ds a h => by
    unfold fHas at h
    split at h
    · simp only [Option.some.injEq, Prod.mk.injEq] at h
      obtain ⟨h1, rfl⟩ := h
      rename_i nil n f k
      have h2 := goalHas_ok
      unfold goalHas at h2
      exact ⟨annHas n f k, 1000, h2 nil n f k h1⟩
    · cases h)

/-! The five lists, one behind the other. -/
def catI (n : Nat) (f g : Nat → Int) (i : Nat) : Int := if i < n then f i else g (i - n)
def rgtPre (n : Nat) (f : Nat → Int) (slots : Int) (i : Nat) : Prop := i ≤ n ∧ ∀ j, j < i → 1 ≤ f j ∧ f j ≤ slots ∧ ∀ q, q < j → f q ≠ f j
def tell5 (n : Nat) (f : Nat → Int) (s : St) : AV := .lst false (match evT s.tm (.tmp 5) with | .ysl _ nil _ _ _ _ => nil | _ => true) 1 n (colF [.int .i64 f])
def del5 (s : St) : List Nat := match evT s.tm (.tmp 5) with | .ysl _ _ id _ _ _ => [id] | _ => []
def annRgt (n : Nat) (f : Nat → Int) (slots : Int) (b : Nat) : Option (St → LoopA) :=
  match b with
  | 1 => some fun s => { ι := Nat, tms := [5, 7], tmU := fun i => [tell5 n f s, .y .i64 (yInt i)], ids := [], hpU := fun _ => [], del := del5 s, ex := 0, pre := rgtPre n f slots, ms := mToR n }
  | _ => none
def rgtI (n : Nat) (f : Nat → Int) (sd : Bool) (slots : Int) : Bool := decide (sd = true ∧ (n : Int) = max 0 slots ∧ ∀ j, j < n → 1 ≤ f j ∧ f j ≤ slots ∧ ∀ q, q < j → f q ≠ f j)
def lRgt : List (Nat × Sm) := [(29, .ct (ctS gHas fHas))]
abbrev gRgt : List Ag := [.agg [cJ, cJ, cJ, cJ, cJ, none], .cell none]
def sum5 (n0 n1 n2 n3 n4 : Nat) : Nat := n0 + n1 + n2 + n3 + n4
def cat5 (n0 : Nat) (f0 : Nat → Int) (n1 : Nat) (f1 : Nat → Int) (n2 : Nat) (f2 : Nat → Int) (n3 : Nat) (f3 : Nat → Int) (f4 : Nat → Int) : Nat → Int :=
  catI (n0 + n1 + n2 + n3) (catI (n0 + n1 + n2) (catI (n0 + n1) (catI n0 f0 f1) f2) f3) f4
def fRgt (ds : List Da) : Option (Bool × AV) :=
  match ds with
  | [.agg [.rows _ n0 [.int .i64 f0], .rows _ n1 [.int .i64 f1], .rows _ n2 [.int .i64 f2], .rows _ n3 [.int .i64 f3], .rows _ n4 [.int .i64 f4], .v (.yb sd)], .cell (.v (.y .i64 slots))] =>
    some (yAnd (yNle n0 100000000) (yAnd (yNle n1 100000000) (yAnd (yNle n2 100000000) (yAnd (yNle n3 100000000) (yNle n4 100000000)))),
      .yb (rgtI (sum5 n0 n1 n2 n3 n4) (cat5 n0 f0 n1 f1 n2 f2 n3 f3 f4) sd slots))
  | _ => none
def dRgt (x0 : Bool) (n0 : Nat) (f0 : Nat → Int) (x1 : Bool) (n1 : Nat) (f1 : Nat → Int) (x2 : Bool) (n2 : Nat) (f2 : Nat → Int) (x3 : Bool) (n3 : Nat) (f3 : Nat → Int) (x4 : Bool) (n4 : Nat) (f4 : Nat → Int) (sd : Bool) (slots : Int) : List Da :=
  [.agg [.rows x0 n0 [.int .i64 f0], .rows x1 n1 [.int .i64 f1], .rows x2 n2 [.int .i64 f2], .rows x3 n3 [.int .i64 f3], .rows x4 n4 [.int .i64 f4], .v (.yb sd)], .cell (.v (.y .i64 slots))]
def goalRgt : Prop := ∀ (x0 : Bool) (n0 : Nat) (f0 : Nat → Int) (x1 : Bool) (n1 : Nat) (f1 : Nat → Int) (x2 : Bool) (n2 : Nat) (f2 : Nat → Int) (x3 : Bool) (n3 : Nat) (f3 : Nat → Int) (x4 : Bool) (n4 : Nat) (f4 : Nat → Int) (sd : Bool) (slots : Int),
  yAnd (yNle n0 100000000) (yAnd (yNle n1 100000000) (yAnd (yNle n2 100000000) (yAnd (yNle n3 100000000) (yNle n4 100000000)))) = true →
  wxF Tryz.prog (smL lRgt) (annRgt (sum5 n0 n1 n2 n3 n4) (cat5 n0 f0 n1 f1 n2 f2 n3 f3 f4) slots) 1000 11 (canA gRgt (dRgt x0 n0 f0 x1 n1 f1 x2 n2 f2 x3 n3 f3 x4 n4 f4 sd slots) []).1
    (heapOf (canA gRgt (dRgt x0 n0 f0 x1 n1 f1 x2 n2 f2 x3 n3 f3 x4 n4 f4 sd slots) []).2) (fun v _ => cmpC (.yb (rgtI (sum5 n0 n1 n2 n3 n4) (cat5 n0 f0 n1 f1 n2 f2 n3 f3 f4) sd slots)) v)
theorem goalRgt_eq : goalRgt = (∀ (x0 : Bool) (n0 : Nat) (f0 : Nat → Int) (x1 : Bool) (n1 : Nat) (f1 : Nat → Int) (x2 : Bool) (n2 : Nat) (f2 : Nat → Int) (x3 : Bool) (n3 : Nat) (f3 : Nat → Int) (x4 : Bool) (n4 : Nat) (f4 : Nat → Int) (sd : Bool) (slots : Int), yAnd (yNle n0 (nat_lit 100000000)) (yAnd (yNle n1 (nat_lit 100000000)) (yAnd (yNle n2 (nat_lit 100000000)) (yAnd (yNle n3 (nat_lit 100000000)) (yNle n4 (nat_lit 100000000))))) = true → (yNle (yNadd (nat_lit 0) n0) n0 = true → (yGrow n0 (nat_lit 8) = true → (yNle (yNadd (nat_lit 0) n1) n1 = true → (yNeq n0 n0 = true → (yGrow (yNadd n0 n1) (nat_lit 8) = true → (yNle (yNadd (nat_lit 0) n2) n2 = true → (yNeq (yNadd n0 n1) (yNadd n0 n1) = true → (yGrow (yNadd (yNadd n0 n1) n2) (nat_lit 8) = true → (yNle (yNadd (nat_lit 0) n3) n3 = true → (yNeq (yNadd (yNadd n0 n1) n2) (yNadd (yNadd n0 n1) n2) = true → (yGrow (yNadd (yNadd (yNadd n0 n1) n2) n3) (nat_lit 8) = true → (yNle (yNadd (nat_lit 0) n4) n4 = true → (yNeq (yNadd (yNadd (yNadd n0 n1) n2) n3) (yNadd (yNadd (yNadd n0 n1) n2) n3) = true → (yGrow (yNadd (yNadd (yNadd (yNadd n0 n1) n2) n3) n4) (nat_lit 8) = true → (yNot sd = true → rgtI (sum5 n0 n1 n2 n3 n4) (cat5 n0 f0 n1 f1 n2 f2 n3 f3 f4) sd slots = false) ∧ (yNot sd = false → (yNot (yEq (yInt (yNadd (yNadd (yNadd (yNadd n0 n1) n2) n3) n4)) slots) = true → (yLe (0 : Int) slots = true → rgtI (sum5 n0 n1 n2 n3 n4) (cat5 n0 f0 n1 f1 n2 f2 n3 f3 f4) sd slots = false) ∧ (yLe (0 : Int) slots = false → (yLt (0 : Int) (yInt (yNadd (yNadd (yNadd (yNadd n0 n1) n2) n3) n4)) = true → rgtI (sum5 n0 n1 n2 n3 n4) (cat5 n0 f0 n1 f1 n2 f2 n3 f3 f4) sd slots = false) ∧ (yLt (0 : Int) (yInt (yNadd (yNadd (yNadd (yNadd n0 n1) n2) n3) n4)) = false → true = true ∧ (∃ (i0 : Nat), rgtPre (sum5 n0 n1 n2 n3 n4) (cat5 n0 f0 n1 f1 n2 f2 n3 f3 f4) slots i0 ∧ true = true ∧ yAnd (yAnd (yAnd (yAnd (yNeq n0 (nat_lit 0)) (yNeq n1 (nat_lit 0))) (yNeq n2 (nat_lit 0))) (yNeq n3 (nat_lit 0))) (yNeq n4 (nat_lit 0)) = yAnd (yAnd (yAnd (yAnd (yNeq n0 (nat_lit 0)) (yNeq n1 (nat_lit 0))) (yNeq n2 (nat_lit 0))) (yNeq n3 (nat_lit 0))) (yNeq n4 (nat_lit 0)) ∧ sum5 n0 n1 n2 n3 n4 = yNadd (yNadd (yNadd (yNadd n0 n1) n2) n3) n4 ∧ yNadd (nat_lit 0) (yNadd (yNadd (yNadd (yNadd n0 n1) n2) n3) n4) ≤ yNadd (yNadd (yNadd (yNadd n0 n1) n2) n3) n4 ∧ (∀ (i : Nat), Nat.succ i ≤ sum5 n0 n1 n2 n3 n4 → cat5 n0 f0 n1 f1 n2 f2 n3 f3 f4 i = ySel (yNlt (yNadd (nat_lit 0) i) (yNadd (yNadd (yNadd n0 n1) n2) n3)) (ySel (yNlt (yNadd (nat_lit 0) i) (yNadd (yNadd n0 n1) n2)) (ySel (yNlt (yNadd (nat_lit 0) i) (yNadd n0 n1)) (ySel (yNlt (yNadd (nat_lit 0) i) n0) (f0 (yNadd (nat_lit 0) (yNadd (nat_lit 0) i))) (f1 (yNadd (nat_lit 0) (yNsub (yNadd (nat_lit 0) i) n0)))) (f2 (yNadd (nat_lit 0) (yNsub (yNadd (nat_lit 0) i) (yNadd n0 n1))))) (f3 (yNadd (nat_lit 0) (yNsub (yNadd (nat_lit 0) i) (yNadd (yNadd n0 n1) n2))))) (f4 (yNadd (nat_lit 0) (yNsub (yNadd (nat_lit 0) i) (yNadd (yNadd (yNadd n0 n1) n2) n3)))) ∧ True) ∧ yInt i0 = (0 : Int) ∧ true = true) ∧ ∀ (g : Nat → AV) (i : Nat), rgtPre (sum5 n0 n1 n2 n3 n4) (cat5 n0 f0 n1 f1 n2 f2 n3 f3 f4) slots i → (yLt (yInt i) (yInt (sum5 n0 n1 n2 n3 n4)) = true → (yIn (yInt i) (sum5 n0 n1 n2 n3 n4) = true → (yLt (cat5 n0 f0 n1 f1 n2 f2 n3 f3 f4 (yNat (yInt i))) (1 : Int) = true → rgtI (sum5 n0 n1 n2 n3 n4) (cat5 n0 f0 n1 f1 n2 f2 n3 f3 f4) sd slots = false) ∧ (yLt (cat5 n0 f0 n1 f1 n2 f2 n3 f3 f4 (yNat (yInt i))) (1 : Int) = false → (yIn (yInt i) (sum5 n0 n1 n2 n3 n4) = true → (yLt slots (cat5 n0 f0 n1 f1 n2 f2 n3 f3 f4 (yNat (yInt i))) = true → rgtI (sum5 n0 n1 n2 n3 n4) (cat5 n0 f0 n1 f1 n2 f2 n3 f3 f4) sd slots = false) ∧ (yLt slots (cat5 n0 f0 n1 f1 n2 f2 n3 f3 f4 (yNat (yInt i))) = false → (yIn (yInt i) (Nat.succ (sum5 n0 n1 n2 n3 n4)) = true → (yIn (yInt i) (sum5 n0 n1 n2 n3 n4) = true → ((yCol (CK.int IntKind.i64) (yNat (yInt i)) fun (i : Nat) => AV.y IntKind.i64 (cat5 n0 f0 n1 f1 n2 f2 n3 f3 f4 i)) = true → (yNle (yNat (yInt i)) (nat_lit 1000000000) = true → (hasI (yNat (yInt i)) (fun (i : Nat) => cat5 n0 f0 n1 f1 n2 f2 n3 f3 f4 i) (cat5 n0 f0 n1 f1 n2 f2 n3 f3 f4 (yNat (yInt i))) = true → rgtI (sum5 n0 n1 n2 n3 n4) (cat5 n0 f0 n1 f1 n2 f2 n3 f3 f4) sd slots = false) ∧ (hasI (yNat (yInt i)) (fun (i : Nat) => cat5 n0 f0 n1 f1 n2 f2 n3 f3 f4 i) (cat5 n0 f0 n1 f1 n2 f2 n3 f3 f4 (yNat (yInt i))) = false → true = true ∧ ∃ (i' : Nat), rgtPre (sum5 n0 n1 n2 n3 n4) (cat5 n0 f0 n1 f1 n2 f2 n3 f3 f4) slots i' ∧ Nat.succ (mToR (sum5 n0 n1 n2 n3 n4) i') ≤ mToR (sum5 n0 n1 n2 n3 n4) i ∧ true = true ∧ (yAnd (yAnd (yAnd (yAnd (yNeq n0 (nat_lit 0)) (yNeq n1 (nat_lit 0))) (yNeq n2 (nat_lit 0))) (yNeq n3 (nat_lit 0))) (yNeq n4 (nat_lit 0)) = yAnd (yAnd (yAnd (yAnd (yNeq n0 (nat_lit 0)) (yNeq n1 (nat_lit 0))) (yNeq n2 (nat_lit 0))) (yNeq n3 (nat_lit 0))) (yNeq n4 (nat_lit 0)) ∧ sum5 n0 n1 n2 n3 n4 = sum5 n0 n1 n2 n3 n4 ∧ ∀ (i : Nat), Nat.succ i ≤ sum5 n0 n1 n2 n3 n4 → cat5 n0 f0 n1 f1 n2 f2 n3 f3 f4 i = cat5 n0 f0 n1 f1 n2 f2 n3 f3 f4 i ∧ True) ∧ yInt i' = yWrap IntKind.i64 (yAdd (yInt i) (1 : Int)) ∧ true = true)) ∧ (yNle (yNat (yInt i)) (nat_lit 1000000000) = false → False)) ∧ ((yCol (CK.int IntKind.i64) (yNat (yInt i)) fun (i : Nat) => AV.y IntKind.i64 (cat5 n0 f0 n1 f1 n2 f2 n3 f3 f4 i)) = false → False)) ∧ (yIn (yInt i) (sum5 n0 n1 n2 n3 n4) = false → False)) ∧ (yIn (yInt i) (Nat.succ (sum5 n0 n1 n2 n3 n4)) = false → False))) ∧ (yIn (yInt i) (sum5 n0 n1 n2 n3 n4) = false → False))) ∧ (yIn (yInt i) (sum5 n0 n1 n2 n3 n4) = false → False)) ∧ (yLt (yInt i) (yInt (sum5 n0 n1 n2 n3 n4)) = false → rgtI (sum5 n0 n1 n2 n3 n4) (cat5 n0 f0 n1 f1 n2 f2 n3 f3 f4) sd slots = true)))) ∧ (yNot (yEq (yInt (yNadd (yNadd (yNadd (yNadd n0 n1) n2) n3) n4)) slots) = false → true = true ∧ (∃ (i0 : Nat), rgtPre (sum5 n0 n1 n2 n3 n4) (cat5 n0 f0 n1 f1 n2 f2 n3 f3 f4) slots i0 ∧ true = true ∧ yAnd (yAnd (yAnd (yAnd (yNeq n0 (nat_lit 0)) (yNeq n1 (nat_lit 0))) (yNeq n2 (nat_lit 0))) (yNeq n3 (nat_lit 0))) (yNeq n4 (nat_lit 0)) = yAnd (yAnd (yAnd (yAnd (yNeq n0 (nat_lit 0)) (yNeq n1 (nat_lit 0))) (yNeq n2 (nat_lit 0))) (yNeq n3 (nat_lit 0))) (yNeq n4 (nat_lit 0)) ∧ sum5 n0 n1 n2 n3 n4 = yNadd (yNadd (yNadd (yNadd n0 n1) n2) n3) n4 ∧ yNadd (nat_lit 0) (yNadd (yNadd (yNadd (yNadd n0 n1) n2) n3) n4) ≤ yNadd (yNadd (yNadd (yNadd n0 n1) n2) n3) n4 ∧ (∀ (i : Nat), Nat.succ i ≤ sum5 n0 n1 n2 n3 n4 → cat5 n0 f0 n1 f1 n2 f2 n3 f3 f4 i = ySel (yNlt (yNadd (nat_lit 0) i) (yNadd (yNadd (yNadd n0 n1) n2) n3)) (ySel (yNlt (yNadd (nat_lit 0) i) (yNadd (yNadd n0 n1) n2)) (ySel (yNlt (yNadd (nat_lit 0) i) (yNadd n0 n1)) (ySel (yNlt (yNadd (nat_lit 0) i) n0) (f0 (yNadd (nat_lit 0) (yNadd (nat_lit 0) i))) (f1 (yNadd (nat_lit 0) (yNsub (yNadd (nat_lit 0) i) n0)))) (f2 (yNadd (nat_lit 0) (yNsub (yNadd (nat_lit 0) i) (yNadd n0 n1))))) (f3 (yNadd (nat_lit 0) (yNsub (yNadd (nat_lit 0) i) (yNadd (yNadd n0 n1) n2))))) (f4 (yNadd (nat_lit 0) (yNsub (yNadd (nat_lit 0) i) (yNadd (yNadd (yNadd n0 n1) n2) n3)))) ∧ True) ∧ yInt i0 = (0 : Int) ∧ true = true) ∧ ∀ (g : Nat → AV) (i : Nat), rgtPre (sum5 n0 n1 n2 n3 n4) (cat5 n0 f0 n1 f1 n2 f2 n3 f3 f4) slots i → (yLt (yInt i) (yInt (sum5 n0 n1 n2 n3 n4)) = true → (yIn (yInt i) (sum5 n0 n1 n2 n3 n4) = true → (yLt (cat5 n0 f0 n1 f1 n2 f2 n3 f3 f4 (yNat (yInt i))) (1 : Int) = true → rgtI (sum5 n0 n1 n2 n3 n4) (cat5 n0 f0 n1 f1 n2 f2 n3 f3 f4) sd slots = false) ∧ (yLt (cat5 n0 f0 n1 f1 n2 f2 n3 f3 f4 (yNat (yInt i))) (1 : Int) = false → (yIn (yInt i) (sum5 n0 n1 n2 n3 n4) = true → (yLt slots (cat5 n0 f0 n1 f1 n2 f2 n3 f3 f4 (yNat (yInt i))) = true → rgtI (sum5 n0 n1 n2 n3 n4) (cat5 n0 f0 n1 f1 n2 f2 n3 f3 f4) sd slots = false) ∧ (yLt slots (cat5 n0 f0 n1 f1 n2 f2 n3 f3 f4 (yNat (yInt i))) = false → (yIn (yInt i) (Nat.succ (sum5 n0 n1 n2 n3 n4)) = true → (yIn (yInt i) (sum5 n0 n1 n2 n3 n4) = true → ((yCol (CK.int IntKind.i64) (yNat (yInt i)) fun (i : Nat) => AV.y IntKind.i64 (cat5 n0 f0 n1 f1 n2 f2 n3 f3 f4 i)) = true → (yNle (yNat (yInt i)) (nat_lit 1000000000) = true → (hasI (yNat (yInt i)) (fun (i : Nat) => cat5 n0 f0 n1 f1 n2 f2 n3 f3 f4 i) (cat5 n0 f0 n1 f1 n2 f2 n3 f3 f4 (yNat (yInt i))) = true → rgtI (sum5 n0 n1 n2 n3 n4) (cat5 n0 f0 n1 f1 n2 f2 n3 f3 f4) sd slots = false) ∧ (hasI (yNat (yInt i)) (fun (i : Nat) => cat5 n0 f0 n1 f1 n2 f2 n3 f3 f4 i) (cat5 n0 f0 n1 f1 n2 f2 n3 f3 f4 (yNat (yInt i))) = false → true = true ∧ ∃ (i' : Nat), rgtPre (sum5 n0 n1 n2 n3 n4) (cat5 n0 f0 n1 f1 n2 f2 n3 f3 f4) slots i' ∧ Nat.succ (mToR (sum5 n0 n1 n2 n3 n4) i') ≤ mToR (sum5 n0 n1 n2 n3 n4) i ∧ true = true ∧ (yAnd (yAnd (yAnd (yAnd (yNeq n0 (nat_lit 0)) (yNeq n1 (nat_lit 0))) (yNeq n2 (nat_lit 0))) (yNeq n3 (nat_lit 0))) (yNeq n4 (nat_lit 0)) = yAnd (yAnd (yAnd (yAnd (yNeq n0 (nat_lit 0)) (yNeq n1 (nat_lit 0))) (yNeq n2 (nat_lit 0))) (yNeq n3 (nat_lit 0))) (yNeq n4 (nat_lit 0)) ∧ sum5 n0 n1 n2 n3 n4 = sum5 n0 n1 n2 n3 n4 ∧ ∀ (i : Nat), Nat.succ i ≤ sum5 n0 n1 n2 n3 n4 → cat5 n0 f0 n1 f1 n2 f2 n3 f3 f4 i = cat5 n0 f0 n1 f1 n2 f2 n3 f3 f4 i ∧ True) ∧ yInt i' = yWrap IntKind.i64 (yAdd (yInt i) (1 : Int)) ∧ true = true)) ∧ (yNle (yNat (yInt i)) (nat_lit 1000000000) = false → False)) ∧ ((yCol (CK.int IntKind.i64) (yNat (yInt i)) fun (i : Nat) => AV.y IntKind.i64 (cat5 n0 f0 n1 f1 n2 f2 n3 f3 f4 i)) = false → False)) ∧ (yIn (yInt i) (sum5 n0 n1 n2 n3 n4) = false → False)) ∧ (yIn (yInt i) (Nat.succ (sum5 n0 n1 n2 n3 n4)) = false → False))) ∧ (yIn (yInt i) (sum5 n0 n1 n2 n3 n4) = false → False))) ∧ (yIn (yInt i) (sum5 n0 n1 n2 n3 n4) = false → False)) ∧ (yLt (yInt i) (yInt (sum5 n0 n1 n2 n3 n4)) = false → rgtI (sum5 n0 n1 n2 n3 n4) (cat5 n0 f0 n1 f1 n2 f2 n3 f3 f4) sd slots = true)))) ∧ (yGrow (yNadd (yNadd (yNadd (yNadd n0 n1) n2) n3) n4) (nat_lit 8) = false → False)) ∧ (yNeq (yNadd (yNadd (yNadd n0 n1) n2) n3) (yNadd (yNadd (yNadd n0 n1) n2) n3) = false → False)) ∧ (yNle (yNadd (nat_lit 0) n4) n4 = false → False)) ∧ (yGrow (yNadd (yNadd (yNadd n0 n1) n2) n3) (nat_lit 8) = false → False)) ∧ (yNeq (yNadd (yNadd n0 n1) n2) (yNadd (yNadd n0 n1) n2) = false → False)) ∧ (yNle (yNadd (nat_lit 0) n3) n3 = false → False)) ∧ (yGrow (yNadd (yNadd n0 n1) n2) (nat_lit 8) = false → False)) ∧ (yNeq (yNadd n0 n1) (yNadd n0 n1) = false → False)) ∧ (yNle (yNadd (nat_lit 0) n2) n2 = false → False)) ∧ (yGrow (yNadd n0 n1) (nat_lit 8) = false → False)) ∧ (yNeq n0 n0 = false → False)) ∧ (yNle (yNadd (nat_lit 0) n1) n1 = false → False)) ∧ (yGrow n0 (nat_lit 8) = false → False)) ∧ (yNle (yNadd (nat_lit 0) n0) n0 = false → False)) := by kernel_rfl
theorem rgtI_f {n : Nat} {f : Nat → Int} {sd : Bool} {slots : Int} (h : sd = true → (n : Int) = max 0 slots → ∃ j, j < n ∧ (1 ≤ f j → f j ≤ slots → ∃ q, q < j ∧ f q = f j)) : rgtI n f sd slots = false := by
  unfold rgtI
  rw [decide_eq_false_iff_not]
  rintro ⟨h1, h2, h3⟩
  obtain ⟨j, h4, h5⟩ := h h1 h2
  obtain ⟨h6, h7, h8⟩ := h3 j h4
  obtain ⟨q, h9, h10⟩ := h5 h6 h7
  exact h8 q h9 h10
set_option maxRecDepth 100000 in
theorem goalRgt_ok : goalRgt := by
  refine kernel_go goalRgt_eq ?_
  intro x0 n0 f0 x1 n1 f1 x2 n2 f2 x3 n3 f3 x4 n4 f4 sd slots hn
  have hsum : sum5 n0 n1 n2 n3 n4 = n0 + n1 + n2 + n3 + n4 := rfl
  have hcat : ∀ i : Nat, i.succ ≤ sum5 n0 n1 n2 n3 n4 → cat5 n0 f0 n1 f1 n2 f2 n3 f3 f4 i = ySel (yNlt i (n0 + n1 + n2 + n3)) (ySel (yNlt i (n0 + n1 + n2)) (ySel (yNlt i (n0 + n1)) (ySel (yNlt i n0) (f0 i) (f1 (i - n0))) (f2 (i - (n0 + n1)))) (f3 (i - (n0 + n1 + n2)))) (f4 (i - (n0 + n1 + n2 + n3))) := fun i _ => by
    simp only [cat5, catI, ySel, yNlt, Bool.cond_decide]
  simp only [yNot_t, yNot_f, yEq_t, yEq_f, yAnd_t, yLt_t, yLt_f, yLe_t, yLe_f, yIn_t, yIn_f, yNle_t, yNle_f, yNeq_t, yNeq_f, yGrow_t, yGrow_f, yInt_e, yNat_e, yNadd_e, yNsub_e, yAdd_e, yCol_int, true_and, and_true, Nat.zero_add, Nat.le_refl, forall_const, Bool.true_eq_false, false_implies, yCol_int] at hn ⊢
  generalize cat5 n0 f0 n1 f1 n2 f2 n3 f3 f4 = F at hcat ⊢
  generalize sum5 n0 n1 n2 n3 n4 = N at hsum hcat ⊢
  have start : rgtPre N F slots 0 := ⟨Nat.zero_le _, fun j hj => by omega⟩
  have up : ∀ i, rgtPre N F slots i → i < N → 1 ≤ F i → F i ≤ slots → hasI i F (F i) = false → ∃ i', rgtPre N F slots i' ∧ (mToR N i').succ ≤ mToR N i ∧ (∀ i : Nat, i.succ ≤ N → True) ∧ ((i' : Nat) : Int) = yWrap .i64 ((i : Int) + 1) := fun i hi h1 h2 h3 h4 => by
    refine ⟨i + 1, ⟨h1, fun j hj => ?_⟩, by unfold mToR; omega, fun _ _ => trivial, ?_⟩
    · by_cases e : j = i
      · subst e
        refine ⟨h2, h3, fun q hq e => ?_⟩
        unfold hasI at h4
        rw [decide_eq_false_iff_not] at h4
        exact h4 ⟨q, hq, e⟩
      · exact hi.2 j (by omega)
    · rw [wrap64 (by omega) (by omega)]; rfl
  have bad : ∀ i, i < N → hasI i F (F i) = true → rgtI N F sd slots = false := fun i h1 h2 => by
    unfold hasI at h2
    rw [decide_eq_true_eq] at h2
    exact rgtI_f fun _ _ => ⟨i, h1, fun _ _ => h2⟩
  have done : ∀ i, rgtPre N F slots i → N ≤ i → sd = true → (N : Int) = max 0 slots → rgtI N F sd slots = true := fun i hi h1 h2 h3 => by
    obtain rfl : i = N := by have := hi.1; omega
    unfold rgtI
    rw [decide_eq_true_eq]
    exact ⟨h2, h3, hi.2⟩
  repeat' (first | apply And.intro | intro _)
  all_goals try omega
  all_goals first
    | exact ⟨0, start, hsum, hcat, rfl⟩
    | (refine rgtI_f fun h => ?_; have h9 : sd = false := ‹sd = false›; rw [h9] at h; cases h; done)
    | (refine rgtI_f fun _ h => ?_; exfalso; omega)
    | (refine rgtI_f fun _ _ => ⟨‹Nat›, ?_, fun h1 h2 => ?_⟩ <;> omega)
    | (refine bad _ ?_ (by assumption); omega)
    | (refine up _ (by assumption) ?_ (by assumption) (by assumption) (by assumption); omega)
    | (refine done _ (by assumption) ?_ (by assumption) ?_ <;> omega)
set_option maxRecDepth 100000 in
theorem smRgt (hm : Tryz.prog.follows .mixedOrders = true) : SmCall Tryz.prog 11 (fun args h => (ctS gRgt fRgt args h).sel) :=
  ctS_ok hm (smL_ok (l := lRgt) ⟨smHas hm, trivial⟩) (by decide) (fun ds a h => by
    unfold fRgt at h
    split at h
    · simp only [Option.some.injEq, Prod.mk.injEq] at h
      obtain ⟨h1, rfl⟩ := h
      rename_i x0 n0 f0 x1 n1 f1 x2 n2 f2 x3 n3 f3 x4 n4 f4 sd slots
      have h2 := goalRgt_ok
      unfold goalRgt at h2
      exact ⟨annRgt (sum5 n0 n1 n2 n3 n4) (cat5 n0 f0 n1 f1 n2 f2 n3 f3 f4) slots, 1000, h2 x0 n0 f0 x1 n1 f1 x2 n2 f2 x3 n3 f3 x4 n4 f4 sd slots h1⟩
    · cases h)
end Go.Proofs.YtppcjdhohohcfaaGreatDoor.Ex
