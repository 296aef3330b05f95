/- Contracts: script.Line and gleaningref28.Line: an entry's line. -/
import Derived.Test.YtjelhmdkaemiiaaDoorCOp
namespace Go.Proofs.YtjelhmdkaemiiaaDoor.Ex
open Go
set_option maxRecDepth 100000

-- OPEN lineC wTick wPick wSubmit
def wTick : List UInt8 := [116, 105, 99, 107]
def wPick : List UInt8 := [112, 105, 99, 107, 32]
def wSubmit : List UInt8 := [115, 117, 98, 109, 105, 116, 32]
def zO (k key val hi most : Int) : Bool := yAnd (yEq k 0) (yAnd (yEq key 0) (yAnd (yEq val 0) (yAnd (yEq hi 0) (yEq most 0))))
/-- An entry's line; none: it has none. -/
def lineC (kd th k key val hi most : Int) : List UInt8 :=
  bif yEq kd 1 then (bif yAnd (yEq th 0) (zO k key val hi most) then wTick else [])
  else bif yLt th 0 then []
  else bif yEq kd 2 then (bif zO k key val hi most then wPick ++ fmI th else [])
  else bif yEq kd 3 then (bif ySEq (opC k key val hi most) [] then [] else wSubmit ++ fmI th ++ 32 :: opC k key val hi most)
  else []
abbrev gLine : List Ag := [.agg [none, none, none, none, none, none, none]]
abbrev dLine (kd : AV) (th k key val hi most : Int) : List Da := [.agg [.v kd, .v (.y .i64 th), .v (.y .i64 k), .v (.y .u64 key), .v (.y .u64 val), .v (.y .u64 hi), .v (.y .i64 most)]]
def inE (th key val hi : Int) : Bool := yAnd (inI th) (inO key val hi)
def fLine (ds : List Da) : Option (Bool × AV) :=
  match ds with
  | [.agg [.v (.y .i64 kd), .v (.y .i64 th), .v (.y .i64 k), .v (.y .u64 key), .v (.y .u64 val), .v (.y .u64 hi), .v (.y .i64 most)]] => some (yAnd (inI th) (inO key val hi), .ys (lineC kd th k key val hi most))
  | _ => none
def lLine : List (Nat × Sm) := [(26, .ct (ctS gOp fOp)), (10, .ct (ctS gOp fOp)), (25, .ct (ctS gI1 fInt)), (11, .ct (ctS gI1 fInt))]
def gLineg (P : Program) (f : FuncId) (kd : AV) (n : Int) : Prop := ∀ (th k key val hi most : Int), inI th = true → inO key val hi = true → wxF P (smL lLine) (fun _ => none) 1000 f (canA gLine (dLine kd th k key val hi most) []).1 (heapOf (canA gLine (dLine kd th k key val hi most) []).2) (fun v _ => cmpC (.ys (lineC n th k key val hi most)) v)
def goalLn1 : Prop := gLineg Tryd.prog 14 (.i .i64 (.ofNat 1)) 1
def goalLn2 : Prop := gLineg Tryd.prog 14 (.i .i64 (.ofNat 2)) 2
def goalLn3 : Prop := gLineg Tryd.prog 14 (.i .i64 (.ofNat 3)) 3
def goalLn0 : Prop := ∀ kd : Int, kd ≠ 1 → kd ≠ 2 → kd ≠ 3 → gLineg Tryd.prog 14 (.y .i64 kd) kd
def goalLnR1 : Prop := gLineg Tryd.prog 5 (.i .i64 (.ofNat 1)) 1
def goalLnR2 : Prop := gLineg Tryd.prog 5 (.i .i64 (.ofNat 2)) 2
def goalLnR3 : Prop := gLineg Tryd.prog 5 (.i .i64 (.ofNat 3)) 3
def goalLnR4 : Prop := ∀ n : Nat, gLineg Tryd.prog 5 (.i .i64 (.ofNat (n + 4))) (.ofNat (n + 4))
def goalLnR5 : Prop := ∀ n : Nat, gLineg Tryd.prog 5 (.i .i64 (.negSucc n)) (.negSucc n)
def goalLnR6 : Prop := gLineg Tryd.prog 5 (.i .i64 (.ofNat 0)) 0
set_option maxRecDepth 100000 in
theorem goalLn1_eq : goalLn1 = (∀ (th k key val hi most : Int), inI th = true → inO key val hi = true → (yAnd true (yAnd (yEq th (0 : Int)) (yAnd (yAnd (yEq k (0 : Int)) (yAnd (yEq key (0 : Int)) (yAnd (yEq val (0 : Int)) (yAnd (yEq hi (0 : Int)) (yAnd (yEq most (0 : Int)) true))))) true)) = true → lineC (1 : Int) th k key val hi most = [(116 : UInt8), (105 : UInt8), (99 : UInt8), (107 : UInt8)]) ∧ (yAnd true (yAnd (yEq th (0 : Int)) (yAnd (yAnd (yEq k (0 : Int)) (yAnd (yEq key (0 : Int)) (yAnd (yEq val (0 : Int)) (yAnd (yEq hi (0 : Int)) (yAnd (yEq most (0 : Int)) true))))) true)) = false → (yLt th (0 : Int) = true → lineC (1 : Int) th k key val hi most = []) ∧ (yLt th (0 : Int) = false → lineC (1 : Int) th k key val hi most = []))) := by kernel_rfl
set_option maxRecDepth 100000 in
theorem goalLn2_eq : goalLn2 = (∀ (th k key val hi most : Int), inI th = true → inO key val hi = true → (yLt th (0 : Int) = true → lineC (2 : Int) th k key val hi most = []) ∧ (yLt th (0 : Int) = false → (yAnd true (yAnd (yEq th th) (yAnd (yAnd (yEq k (0 : Int)) (yAnd (yEq key (0 : Int)) (yAnd (yEq val (0 : Int)) (yAnd (yEq hi (0 : Int)) (yAnd (yEq most (0 : Int)) true))))) true)) = true → (inI th = true → (yNle (yNadd (yLen [(112 : UInt8), (105 : UInt8), (99 : UInt8), (107 : UInt8), (32 : UInt8)]) (yLen (fmI th))) (nat_lit 9223372036854775807) = true → lineC (2 : Int) th k key val hi most = yCat [(112 : UInt8), (105 : UInt8), (99 : UInt8), (107 : UInt8), (32 : UInt8)] (fmI th)) ∧ (yNle (yNadd (yLen [(112 : UInt8), (105 : UInt8), (99 : UInt8), (107 : UInt8), (32 : UInt8)]) (yLen (fmI th))) (nat_lit 9223372036854775807) = false → False)) ∧ (inI th = false → False)) ∧ (yAnd true (yAnd (yEq th th) (yAnd (yAnd (yEq k (0 : Int)) (yAnd (yEq key (0 : Int)) (yAnd (yEq val (0 : Int)) (yAnd (yEq hi (0 : Int)) (yAnd (yEq most (0 : Int)) true))))) true)) = false → lineC (2 : Int) th k key val hi most = []))) := by kernel_rfl
set_option maxRecDepth 100000 in
theorem goalLn3_eq : goalLn3 = (∀ (th k key val hi most : Int), inI th = true → inO key val hi = true → (yLt th (0 : Int) = true → lineC (3 : Int) th k key val hi most = []) ∧ (yLt th (0 : Int) = false → (inO key val hi = true → (yNot (ySEq (opC k key val hi most) []) = true → (inI th = true → (yNle (yNadd (yLen [(115 : UInt8), (117 : UInt8), (98 : UInt8), (109 : UInt8), (105 : UInt8), (116 : UInt8), (32 : UInt8)]) (yLen (fmI th))) (nat_lit 9223372036854775807) = true → (yNle (yNadd (yLen (yCat [(115 : UInt8), (117 : UInt8), (98 : UInt8), (109 : UInt8), (105 : UInt8), (116 : UInt8), (32 : UInt8)] (fmI th))) (yLen [(32 : UInt8)])) (nat_lit 9223372036854775807) = true → (inO key val hi = true → (yNle (yNadd (yLen (yCat (yCat [(115 : UInt8), (117 : UInt8), (98 : UInt8), (109 : UInt8), (105 : UInt8), (116 : UInt8), (32 : UInt8)] (fmI th)) [(32 : UInt8)])) (yLen (opC k key val hi most))) (nat_lit 9223372036854775807) = true → lineC (3 : Int) th k key val hi most = yCat (yCat (yCat [(115 : UInt8), (117 : UInt8), (98 : UInt8), (109 : UInt8), (105 : UInt8), (116 : UInt8), (32 : UInt8)] (fmI th)) [(32 : UInt8)]) (opC k key val hi most)) ∧ (yNle (yNadd (yLen (yCat (yCat [(115 : UInt8), (117 : UInt8), (98 : UInt8), (109 : UInt8), (105 : UInt8), (116 : UInt8), (32 : UInt8)] (fmI th)) [(32 : UInt8)])) (yLen (opC k key val hi most))) (nat_lit 9223372036854775807) = false → False)) ∧ (inO key val hi = false → False)) ∧ (yNle (yNadd (yLen (yCat [(115 : UInt8), (117 : UInt8), (98 : UInt8), (109 : UInt8), (105 : UInt8), (116 : UInt8), (32 : UInt8)] (fmI th))) (yLen [(32 : UInt8)])) (nat_lit 9223372036854775807) = false → False)) ∧ (yNle (yNadd (yLen [(115 : UInt8), (117 : UInt8), (98 : UInt8), (109 : UInt8), (105 : UInt8), (116 : UInt8), (32 : UInt8)]) (yLen (fmI th))) (nat_lit 9223372036854775807) = false → False)) ∧ (inI th = false → False)) ∧ (yNot (ySEq (opC k key val hi most) []) = false → lineC (3 : Int) th k key val hi most = [])) ∧ (inO key val hi = false → False))) := by kernel_rfl
set_option maxRecDepth 100000 in
theorem goalLn0_eq : goalLn0 = (∀ (kd : Int), (kd = (1 : Int) → False) → (kd = (2 : Int) → False) → (kd = (3 : Int) → False) → ∀ (th k key val hi most : Int), inI th = true → inO key val hi = true → (yAnd (yEq kd (1 : Int)) (yAnd (yEq th (0 : Int)) (yAnd (yAnd (yEq k (0 : Int)) (yAnd (yEq key (0 : Int)) (yAnd (yEq val (0 : Int)) (yAnd (yEq hi (0 : Int)) (yAnd (yEq most (0 : Int)) true))))) true)) = true → lineC kd th k key val hi most = [(116 : UInt8), (105 : UInt8), (99 : UInt8), (107 : UInt8)]) ∧ (yAnd (yEq kd (1 : Int)) (yAnd (yEq th (0 : Int)) (yAnd (yAnd (yEq k (0 : Int)) (yAnd (yEq key (0 : Int)) (yAnd (yEq val (0 : Int)) (yAnd (yEq hi (0 : Int)) (yAnd (yEq most (0 : Int)) true))))) true)) = false → (yLt th (0 : Int) = true → lineC kd th k key val hi most = []) ∧ (yLt th (0 : Int) = false → (yAnd (yEq kd (2 : Int)) (yAnd (yEq th th) (yAnd (yAnd (yEq k (0 : Int)) (yAnd (yEq key (0 : Int)) (yAnd (yEq val (0 : Int)) (yAnd (yEq hi (0 : Int)) (yAnd (yEq most (0 : Int)) true))))) true)) = true → (inI th = true → (yNle (yNadd (yLen [(112 : UInt8), (105 : UInt8), (99 : UInt8), (107 : UInt8), (32 : UInt8)]) (yLen (fmI th))) (nat_lit 9223372036854775807) = true → lineC kd th k key val hi most = yCat [(112 : UInt8), (105 : UInt8), (99 : UInt8), (107 : UInt8), (32 : UInt8)] (fmI th)) ∧ (yNle (yNadd (yLen [(112 : UInt8), (105 : UInt8), (99 : UInt8), (107 : UInt8), (32 : UInt8)]) (yLen (fmI th))) (nat_lit 9223372036854775807) = false → False)) ∧ (inI th = false → False)) ∧ (yAnd (yEq kd (2 : Int)) (yAnd (yEq th th) (yAnd (yAnd (yEq k (0 : Int)) (yAnd (yEq key (0 : Int)) (yAnd (yEq val (0 : Int)) (yAnd (yEq hi (0 : Int)) (yAnd (yEq most (0 : Int)) true))))) true)) = false → (yEq kd (3 : Int) = true → (inO key val hi = true → (yNot (ySEq (opC k key val hi most) []) = true → (inI th = true → (yNle (yNadd (yLen [(115 : UInt8), (117 : UInt8), (98 : UInt8), (109 : UInt8), (105 : UInt8), (116 : UInt8), (32 : UInt8)]) (yLen (fmI th))) (nat_lit 9223372036854775807) = true → (yNle (yNadd (yLen (yCat [(115 : UInt8), (117 : UInt8), (98 : UInt8), (109 : UInt8), (105 : UInt8), (116 : UInt8), (32 : UInt8)] (fmI th))) (yLen [(32 : UInt8)])) (nat_lit 9223372036854775807) = true → (inO key val hi = true → (yNle (yNadd (yLen (yCat (yCat [(115 : UInt8), (117 : UInt8), (98 : UInt8), (109 : UInt8), (105 : UInt8), (116 : UInt8), (32 : UInt8)] (fmI th)) [(32 : UInt8)])) (yLen (opC k key val hi most))) (nat_lit 9223372036854775807) = true → lineC kd th k key val hi most = yCat (yCat (yCat [(115 : UInt8), (117 : UInt8), (98 : UInt8), (109 : UInt8), (105 : UInt8), (116 : UInt8), (32 : UInt8)] (fmI th)) [(32 : UInt8)]) (opC k key val hi most)) ∧ (yNle (yNadd (yLen (yCat (yCat [(115 : UInt8), (117 : UInt8), (98 : UInt8), (109 : UInt8), (105 : UInt8), (116 : UInt8), (32 : UInt8)] (fmI th)) [(32 : UInt8)])) (yLen (opC k key val hi most))) (nat_lit 9223372036854775807) = false → False)) ∧ (inO key val hi = false → False)) ∧ (yNle (yNadd (yLen (yCat [(115 : UInt8), (117 : UInt8), (98 : UInt8), (109 : UInt8), (105 : UInt8), (116 : UInt8), (32 : UInt8)] (fmI th))) (yLen [(32 : UInt8)])) (nat_lit 9223372036854775807) = false → False)) ∧ (yNle (yNadd (yLen [(115 : UInt8), (117 : UInt8), (98 : UInt8), (109 : UInt8), (105 : UInt8), (116 : UInt8), (32 : UInt8)]) (yLen (fmI th))) (nat_lit 9223372036854775807) = false → False)) ∧ (inI th = false → False)) ∧ (yNot (ySEq (opC k key val hi most) []) = false → lineC kd th k key val hi most = [])) ∧ (inO key val hi = false → False)) ∧ (yEq kd (3 : Int) = false → lineC kd th k key val hi most = []))))) := by kernel_rfl
set_option maxRecDepth 100000 in
theorem goalLnR1_eq : goalLnR1 = (∀ (th k key val hi most : Int), inI th = true → inO key val hi = true → (yLt th (0 : Int) = true → lineC (1 : Int) th k key val hi most = []) ∧ (yLt th (0 : Int) = false → (yNot (yEq th (0 : Int)) = true → lineC (1 : Int) th k key val hi most = []) ∧ (yNot (yEq th (0 : Int)) = false → (yNot (yAnd (yEq k (0 : Int)) (yAnd (yEq key (0 : Int)) (yAnd (yEq val (0 : Int)) (yAnd (yEq hi (0 : Int)) (yAnd (yEq most (0 : Int)) true))))) = true → lineC (1 : Int) th k key val hi most = []) ∧ (yNot (yAnd (yEq k (0 : Int)) (yAnd (yEq key (0 : Int)) (yAnd (yEq val (0 : Int)) (yAnd (yEq hi (0 : Int)) (yAnd (yEq most (0 : Int)) true))))) = false → lineC (1 : Int) th k key val hi most = [(116 : UInt8), (105 : UInt8), (99 : UInt8), (107 : UInt8)])))) := by kernel_rfl
set_option maxRecDepth 100000 in
theorem goalLnR2_eq : goalLnR2 = (∀ (th k key val hi most : Int), inI th = true → inO key val hi = true → (yLt th (0 : Int) = true → lineC (2 : Int) th k key val hi most = []) ∧ (yLt th (0 : Int) = false → (yNot (yAnd (yEq k (0 : Int)) (yAnd (yEq key (0 : Int)) (yAnd (yEq val (0 : Int)) (yAnd (yEq hi (0 : Int)) (yAnd (yEq most (0 : Int)) true))))) = true → lineC (2 : Int) th k key val hi most = []) ∧ (yNot (yAnd (yEq k (0 : Int)) (yAnd (yEq key (0 : Int)) (yAnd (yEq val (0 : Int)) (yAnd (yEq hi (0 : Int)) (yAnd (yEq most (0 : Int)) true))))) = false → (inI th = true → (yNle (yNadd (yLen [(112 : UInt8), (105 : UInt8), (99 : UInt8), (107 : UInt8), (32 : UInt8)]) (yLen (fmI th))) (nat_lit 9223372036854775807) = true → lineC (2 : Int) th k key val hi most = yCat [(112 : UInt8), (105 : UInt8), (99 : UInt8), (107 : UInt8), (32 : UInt8)] (fmI th)) ∧ (yNle (yNadd (yLen [(112 : UInt8), (105 : UInt8), (99 : UInt8), (107 : UInt8), (32 : UInt8)]) (yLen (fmI th))) (nat_lit 9223372036854775807) = false → False)) ∧ (inI th = false → False)))) := by kernel_rfl
set_option maxRecDepth 100000 in
theorem goalLnR3_eq : goalLnR3 = (∀ (th k key val hi most : Int), inI th = true → inO key val hi = true → (yLt th (0 : Int) = true → lineC (3 : Int) th k key val hi most = []) ∧ (yLt th (0 : Int) = false → (inO key val hi = true → (ySEq (opC k key val hi most) [] = true → lineC (3 : Int) th k key val hi most = []) ∧ (ySEq (opC k key val hi most) [] = false → (inI th = true → (yNle (yNadd (yLen [(115 : UInt8), (117 : UInt8), (98 : UInt8), (109 : UInt8), (105 : UInt8), (116 : UInt8), (32 : UInt8)]) (yLen (fmI th))) (nat_lit 9223372036854775807) = true → (yNle (yNadd (yLen (yCat [(115 : UInt8), (117 : UInt8), (98 : UInt8), (109 : UInt8), (105 : UInt8), (116 : UInt8), (32 : UInt8)] (fmI th))) (yLen [(32 : UInt8)])) (nat_lit 9223372036854775807) = true → (inO key val hi = true → (yNle (yNadd (yLen (yCat (yCat [(115 : UInt8), (117 : UInt8), (98 : UInt8), (109 : UInt8), (105 : UInt8), (116 : UInt8), (32 : UInt8)] (fmI th)) [(32 : UInt8)])) (yLen (opC k key val hi most))) (nat_lit 9223372036854775807) = true → lineC (3 : Int) th k key val hi most = yCat (yCat (yCat [(115 : UInt8), (117 : UInt8), (98 : UInt8), (109 : UInt8), (105 : UInt8), (116 : UInt8), (32 : UInt8)] (fmI th)) [(32 : UInt8)]) (opC k key val hi most)) ∧ (yNle (yNadd (yLen (yCat (yCat [(115 : UInt8), (117 : UInt8), (98 : UInt8), (109 : UInt8), (105 : UInt8), (116 : UInt8), (32 : UInt8)] (fmI th)) [(32 : UInt8)])) (yLen (opC k key val hi most))) (nat_lit 9223372036854775807) = false → False)) ∧ (inO key val hi = false → False)) ∧ (yNle (yNadd (yLen (yCat [(115 : UInt8), (117 : UInt8), (98 : UInt8), (109 : UInt8), (105 : UInt8), (116 : UInt8), (32 : UInt8)] (fmI th))) (yLen [(32 : UInt8)])) (nat_lit 9223372036854775807) = false → False)) ∧ (yNle (yNadd (yLen [(115 : UInt8), (117 : UInt8), (98 : UInt8), (109 : UInt8), (105 : UInt8), (116 : UInt8), (32 : UInt8)]) (yLen (fmI th))) (nat_lit 9223372036854775807) = false → False)) ∧ (inI th = false → False))) ∧ (inO key val hi = false → False))) := by kernel_rfl
set_option maxRecDepth 100000 in
theorem goalLnR4_eq : goalLnR4 = (∀ (n : Nat) (th k key val hi most : Int), inI th = true → inO key val hi = true → (yLt th (0 : Int) = true → lineC (Int.ofNat (Nat.succ (Nat.succ (Nat.succ (Nat.succ n))))) th k key val hi most = []) ∧ (yLt th (0 : Int) = false → lineC (Int.ofNat (Nat.succ (Nat.succ (Nat.succ (Nat.succ n))))) th k key val hi most = [])) := by kernel_rfl
set_option maxRecDepth 100000 in
theorem goalLnR5_eq : goalLnR5 = (∀ (n : Nat) (th k key val hi most : Int), inI th = true → inO key val hi = true → (yLt th (0 : Int) = true → lineC (Int.negSucc n) th k key val hi most = []) ∧ (yLt th (0 : Int) = false → lineC (Int.negSucc n) th k key val hi most = [])) := by kernel_rfl
set_option maxRecDepth 100000 in
theorem goalLnR6_eq : goalLnR6 = (∀ (th k key val hi most : Int), inI th = true → inO key val hi = true → (yLt th (0 : Int) = true → lineC (0 : Int) th k key val hi most = []) ∧ (yLt th (0 : Int) = false → lineC (0 : Int) th k key val hi most = [])) := by kernel_rfl
theorem opC_len (k key val hi most : Int) : yLen (opC k key val hi most) ≤ 100 := by
  have h1 := fm_len key
  have h2 := fm_len val
  have h3 := fm_len hi
  have h4 := fmI_len most
  unfold yLen at *
  unfold opC
  simp only [Bool.cond_eq_ite]
  repeat' split
  all_goals simp [wGet, wPut, wDelete, wScan] <;> omega
theorem zO_eq (k key val hi most : Int) : yAnd (yEq k 0) (yAnd (yEq key 0) (yAnd (yEq val 0) (yAnd (yEq hi 0) (yAnd (yEq most 0) true)))) = zO k key val hi most := by
  unfold zO; cases yEq most 0 <;> rfl
theorem lineC_1 (th k key val hi most : Int) : lineC 1 th k key val hi most = bif yAnd (yEq th 0) (zO k key val hi most) then wTick else [] := rfl
theorem lineC_2 (th k key val hi most : Int) : lineC 2 th k key val hi most = bif yLt th 0 then [] else bif zO k key val hi most then wPick ++ fmI th else [] := rfl
theorem lineC_3 (th k key val hi most : Int) : lineC 3 th k key val hi most = bif yLt th 0 then [] else bif ySEq (opC k key val hi most) [] then [] else wSubmit ++ fmI th ++ 32 :: opC k key val hi most := rfl
theorem yEq_ne {a b : Int} (h : a ≠ b) : yEq a b = false := decide_eq_false h
theorem lineC_0 {kd : Int} (h1 : kd ≠ 1) (h2 : kd ≠ 2) (h3 : kd ≠ 3) (th k key val hi most : Int) : lineC kd th k key val hi most = [] := by
  unfold lineC
  rw [yEq_ne h1, yEq_ne h2, yEq_ne h3]
  cases yLt th 0 <;> rfl
set_option maxRecDepth 100000 in
theorem goalLn1_ok : goalLn1 := by
  refine kernel_go goalLn1_eq ?_
  intro th k key val hi most hi1 ho
  have l1 := fmI_len th
  have l0 := fmI_len 0
  have l2 := opC_len k key val hi most
  rw [lineC_1]
  simp only [zO_eq, hi1, ho, yLen_cat, yLen_cons, yLen_nil]
  generalize zO k key val hi most = Z
  generalize opC k key val hi most = O at *
  cases Z <;> cases hl : yLt th 0 <;> cases hs : ySEq O [] <;> by_cases h0 : th = 0
  all_goals simp [h0, yEq, yAnd, yNot, yNle, yNadd, wTick, wPick, wSubmit, yCat]
  all_goals (repeat' (first | apply And.intro | intro _)) <;> first | omega | (simp_all [yLt]; done) | (trace_state; fail)
set_option maxRecDepth 100000 in
theorem goalLn2_ok : goalLn2 := by
  refine kernel_go goalLn2_eq ?_
  intro th k key val hi most hi1 ho
  have l1 := fmI_len th
  have l0 := fmI_len 0
  have l2 := opC_len k key val hi most
  rw [lineC_2]
  simp only [zO_eq, hi1, ho, yLen_cat, yLen_cons, yLen_nil]
  generalize zO k key val hi most = Z
  generalize opC k key val hi most = O at *
  cases Z <;> cases hl : yLt th 0 <;> cases hs : ySEq O [] <;> by_cases h0 : th = 0
  all_goals simp [h0, yEq, yAnd, yNot, yNle, yNadd, wTick, wPick, wSubmit, yCat]
  all_goals (repeat' (first | apply And.intro | intro _)) <;> first | omega | (simp_all [yLt]; done) | (trace_state; fail)
set_option maxRecDepth 100000 in
theorem goalLn3_ok : goalLn3 := by
  refine kernel_go goalLn3_eq ?_
  intro th k key val hi most hi1 ho
  have l1 := fmI_len th
  have l0 := fmI_len 0
  have l2 := opC_len k key val hi most
  rw [lineC_3]
  simp only [zO_eq, hi1, ho, yLen_cat, yLen_cons, yLen_nil]
  generalize zO k key val hi most = Z
  generalize opC k key val hi most = O at *
  cases Z <;> cases hl : yLt th 0 <;> cases hs : ySEq O [] <;> by_cases h0 : th = 0
  all_goals simp [h0, yEq, yAnd, yNot, yNle, yNadd, wTick, wPick, wSubmit, yCat]
  all_goals (repeat' (first | apply And.intro | intro _)) <;> first | omega | (simp_all [yLt]; done) | (trace_state; fail)
set_option maxRecDepth 100000 in
theorem goalLnR1_ok : goalLnR1 := by
  refine kernel_go goalLnR1_eq ?_
  intro th k key val hi most hi1 ho
  have l1 := fmI_len th
  have l0 := fmI_len 0
  have l2 := opC_len k key val hi most
  rw [lineC_1]
  simp only [zO_eq, hi1, ho, yLen_cat, yLen_cons, yLen_nil]
  generalize zO k key val hi most = Z
  generalize opC k key val hi most = O at *
  cases Z <;> cases hl : yLt th 0 <;> cases hs : ySEq O [] <;> by_cases h0 : th = 0
  all_goals simp [h0, yEq, yAnd, yNot, yNle, yNadd, wTick, wPick, wSubmit, yCat]
  all_goals (repeat' (first | apply And.intro | intro _)) <;> first | omega | (simp_all [yLt]; done) | (trace_state; fail)
set_option maxRecDepth 100000 in
theorem goalLnR2_ok : goalLnR2 := by
  refine kernel_go goalLnR2_eq ?_
  intro th k key val hi most hi1 ho
  have l1 := fmI_len th
  have l0 := fmI_len 0
  have l2 := opC_len k key val hi most
  rw [lineC_2]
  simp only [zO_eq, hi1, ho, yLen_cat, yLen_cons, yLen_nil]
  generalize zO k key val hi most = Z
  generalize opC k key val hi most = O at *
  cases Z <;> cases hl : yLt th 0 <;> cases hs : ySEq O [] <;> by_cases h0 : th = 0
  all_goals simp [h0, yEq, yAnd, yNot, yNle, yNadd, wTick, wPick, wSubmit, yCat]
  all_goals (repeat' (first | apply And.intro | intro _)) <;> first | omega | (simp_all [yLt]; done) | (trace_state; fail)
set_option maxRecDepth 100000 in
theorem goalLnR3_ok : goalLnR3 := by
  refine kernel_go goalLnR3_eq ?_
  intro th k key val hi most hi1 ho
  have l1 := fmI_len th
  have l0 := fmI_len 0
  have l2 := opC_len k key val hi most
  rw [lineC_3]
  simp only [zO_eq, hi1, ho, yLen_cat, yLen_cons, yLen_nil]
  generalize zO k key val hi most = Z
  generalize opC k key val hi most = O at *
  cases Z <;> cases hl : yLt th 0 <;> cases hs : ySEq O [] <;> by_cases h0 : th = 0
  all_goals simp [h0, yEq, yAnd, yNot, yNle, yNadd, wTick, wPick, wSubmit, yCat]
  all_goals (repeat' (first | apply And.intro | intro _)) <;> first | omega | (simp_all [yLt]; done) | (trace_state; fail)
set_option maxRecDepth 100000 in
theorem goalLn0_ok : goalLn0 := by
  refine kernel_go goalLn0_eq ?_
  intro kd n1 n2 n3 th k key val hi most hi1 ho
  rw [lineC_0 n1 n2 n3]
  simp [yEq_ne n1, yEq_ne n2, yEq_ne n3, yAnd]
theorem goalLnR4_ok : goalLnR4 := by
  refine kernel_go goalLnR4_eq ?_
  intro n th k key val hi most hi1 ho
  have e : lineC (Int.ofNat (n + 4)) th k key val hi most = [] := lineC_0 (by show ((n + 4 : Nat) : Int) ≠ 1; omega) (by show ((n + 4 : Nat) : Int) ≠ 2; omega) (by show ((n + 4 : Nat) : Int) ≠ 3; omega) _ _ _ _ _ _
  exact ⟨fun _ => e, fun _ => e⟩
theorem goalLnR5_ok : goalLnR5 := by
  refine kernel_go goalLnR5_eq ?_
  intro n th k key val hi most hi1 ho
  have e : lineC (Int.negSucc n) th k key val hi most = [] := lineC_0 (by omega) (by omega) (by omega) _ _ _ _ _ _
  exact ⟨fun _ => e, fun _ => e⟩
theorem goalLnR6_ok : goalLnR6 := by
  refine kernel_go goalLnR6_eq ?_
  intro th k key val hi most hi1 ho
  have e : lineC 0 th k key val hi most = [] := lineC_0 (by decide) (by decide) (by decide) _ _ _ _ _ _
  exact ⟨fun _ => e, fun _ => e⟩
theorem lLine_ok (hm : Tryd.prog.follows .mixedOrders = true) : SmOK Tryd.prog (smL lLine) :=
  smL_ok ⟨smOp hm, smOpRef hm, smInt hm (lFm_ok hm) @goalInt_ok, smInt hm (lFm_ok hm) @goalIntR_ok, trivial⟩
theorem smLine (hm : Tryd.prog.follows .mixedOrders = true) : SmCall Tryd.prog 14 (fun args h => (ctS gLine fLine args h).sel) :=
  ctS_any hm (by decide) (fun ds a e => by
    unfold fLine at e
    split at e
    case h_2 => cases e
    rename_i kd th k key val hi most
    simp only [Option.some.injEq, Prod.mk.injEq] at e
    obtain ⟨h1, rfl⟩ := e
    simp only [yAnd_t] at h1
    by_cases n1 : kd = 1
    · subst n1; exact ⟨_, dLine (.i .i64 (.ofNat 1)) th k key val hi most, lLine_ok hm, fun _ _ h => first_R h, _, 1000, @goalLn1_ok th k key val hi most h1.1 h1.2⟩
    by_cases n2 : kd = 2
    · subst n2; exact ⟨_, dLine (.i .i64 (.ofNat 2)) th k key val hi most, lLine_ok hm, fun _ _ h => first_R h, _, 1000, @goalLn2_ok th k key val hi most h1.1 h1.2⟩
    by_cases n3 : kd = 3
    · subst n3; exact ⟨_, dLine (.i .i64 (.ofNat 3)) th k key val hi most, lLine_ok hm, fun _ _ h => first_R h, _, 1000, @goalLn3_ok th k key val hi most h1.1 h1.2⟩
    exact ⟨_, _, lLine_ok hm, fun _ _ h => h, _, 1000, @goalLn0_ok kd n1 n2 n3 th k key val hi most h1.1 h1.2⟩)
theorem smLineR (hm : Tryd.prog.follows .mixedOrders = true) : SmCall Tryd.prog 5 (fun args h => (ctS gLine fLine args h).sel) :=
  ctS_any hm (by decide) (fun ds a e => by
    unfold fLine at e
    split at e
    case h_2 => cases e
    rename_i kd th k key val hi most
    simp only [Option.some.injEq, Prod.mk.injEq] at e
    obtain ⟨h1, rfl⟩ := e
    simp only [yAnd_t] at h1
    match kd with
    | .ofNat 0 => exact ⟨_, dLine (.i .i64 (.ofNat 0)) th k key val hi most, lLine_ok hm, fun _ _ h => first_R h, _, 1000, @goalLnR6_ok th k key val hi most h1.1 h1.2⟩
    | .ofNat 1 => exact ⟨_, dLine (.i .i64 (.ofNat 1)) th k key val hi most, lLine_ok hm, fun _ _ h => first_R h, _, 1000, @goalLnR1_ok th k key val hi most h1.1 h1.2⟩
    | .ofNat 2 => exact ⟨_, dLine (.i .i64 (.ofNat 2)) th k key val hi most, lLine_ok hm, fun _ _ h => first_R h, _, 1000, @goalLnR2_ok th k key val hi most h1.1 h1.2⟩
    | .ofNat 3 => exact ⟨_, dLine (.i .i64 (.ofNat 3)) th k key val hi most, lLine_ok hm, fun _ _ h => first_R h, _, 1000, @goalLnR3_ok th k key val hi most h1.1 h1.2⟩
    | .ofNat (n + 4) => exact ⟨_, dLine (.i .i64 (.ofNat (n + 4))) th k key val hi most, lLine_ok hm, fun _ _ h => first_R h, _, 1000, @goalLnR4_ok n th k key val hi most h1.1 h1.2⟩
    | .negSucc n => exact ⟨_, dLine (.i .i64 (.negSucc n)) th k key val hi most, lLine_ok hm, fun _ _ h => first_R h, _, 1000, @goalLnR5_ok n th k key val hi most h1.1 h1.2⟩)
end Go.Proofs.YtjelhmdkaemiiaaDoor.Ex
