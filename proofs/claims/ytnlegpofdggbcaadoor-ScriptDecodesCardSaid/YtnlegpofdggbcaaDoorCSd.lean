/- Contract: gleaningref28.Same. And the law ScriptDecodes, walked. -/
import Derived.Test.YtnlegpofdggbcaaDoorCDec
import Derived.Test.YtnlegpofdggbcaaDoorCSl
namespace Go.Proofs.YtnlegpofdggbcaaDoor.Ex
open Go

-- OPEN sameTo sameAt prSa mSa prSd mSd
def sameAt (akd ath ak akey aval ahi amost bkd bth bk bkey bval bhi bmost : Nat → Int) (j : Nat) : Bool := yAnd (yEq (akd j) (bkd j)) ( yAnd (yEq (ath j) (bth j)) ( yAnd (yEq (ak j) (bk j)) ( yAnd (yEq (akey j) (bkey j)) ( yAnd (yEq (aval j) (bval j)) ( yAnd (yEq (ahi j) (bhi j)) (yEq (amost j) (bmost j)))))))
def sameTo (akd ath ak akey aval ahi amost bkd bth bk bkey bval bhi bmost : Nat → Int) (i : Nat) : Bool := (List.range i).all fun j => sameAt akd ath ak akey aval ahi amost bkd bth bk bkey bval bhi bmost j
def prSa (n m : Nat) (akd ath ak akey aval ahi amost bkd bth bk bkey bval bhi bmost : Nat → Int) (i : Nat) : Prop := i ≤ n ∧ n = m ∧ sameTo akd ath ak akey aval ahi amost bkd bth bk bkey bval bhi bmost i = true
def mSa (n i : Nat) : Nat := n - i
abbrev gSa : List Ag := [.cell cEnt, .cell cEnt]
abbrev dSa (nilA : Bool) (n : Nat) (nilB : Bool) (m : Nat) (akd ath ak akey aval ahi amost bkd bth bk bkey bval bhi bmost : Nat → Int) : List Da := [.cell (.rows nilA n [.int .i64 akd, .int .i64 ath, .int .i64 ak, .int .u64 akey, .int .u64 aval, .int .u64 ahi, .int .i64 amost]), .cell (.rows nilB m [.int .i64 bkd, .int .i64 bth, .int .i64 bk, .int .u64 bkey, .int .u64 bval, .int .u64 bhi, .int .i64 bmost])]
def fSa (ds : List Da) : Option (Bool × AV) :=
  match ds with
  | [.cell (.rows _ n [.int .i64 akd, .int .i64 ath, .int .i64 ak, .int .u64 akey, .int .u64 aval, .int .u64 ahi, .int .i64 amost]), .cell (.rows _ m [.int .i64 bkd, .int .i64 bth, .int .i64 bk, .int .u64 bkey, .int .u64 bval, .int .u64 bhi, .int .i64 bmost])] => some (yNle n 100000, .yb (yAnd (yNeq n m) (sameTo akd ath ak akey aval ahi amost bkd bth bk bkey bval bhi bmost n)))
  | _ => none
def annSa (n m : Nat) (akd ath ak akey aval ahi amost bkd bth bk bkey bval bhi bmost : Nat → Int) (b : Nat) : Option (St → LoopA) :=
  match b with
  | 0 => some fun _ => { ι := Nat, tms := [5], tmU := fun i => [.y .i64 (yInt i)], ids := [], hpU := fun _ => [], del := [], ex := 0, pre := prSa n m akd ath ak akey aval ahi amost bkd bth bk bkey bval bhi bmost, ms := mSa n }
  | _ => none
def goalSa : Prop := ∀ (nilA : Bool) (n : Nat) (nilB : Bool) (m : Nat) (akd ath ak akey aval ahi amost bkd bth bk bkey bval bhi bmost : Nat → Int), yNle n 100000 = true →
  wxF Tryd.prog noSm (annSa n m akd ath ak akey aval ahi amost bkd bth bk bkey bval bhi bmost) 1000 8 (canA gSa (dSa nilA n nilB m akd ath ak akey aval ahi amost bkd bth bk bkey bval bhi bmost) []).1 (heapOf (canA gSa (dSa nilA n nilB m akd ath ak akey aval ahi amost bkd bth bk bkey bval bhi bmost) []).2) (fun v _ => cmpC (.yb (yAnd (yNeq n m) (sameTo akd ath ak akey aval ahi amost bkd bth bk bkey bval bhi bmost n))) v)
set_option maxRecDepth 100000 in
theorem goalSa_eq : goalSa = (∀ (nilA : Bool) (n : Nat) (nilB : Bool) (m : Nat) (akd ath ak akey aval ahi amost bkd bth bk bkey bval bhi bmost : Nat → Int), yNle n (nat_lit 100000) = true → (yNot (yEq (yInt n) (yInt m)) = true → yAnd (yNeq n m) (sameTo akd ath ak akey aval ahi amost bkd bth bk bkey bval bhi bmost n) = false) ∧ (yNot (yEq (yInt n) (yInt m)) = false → true = true ∧ (∃ (i0 : Nat), prSa n m akd ath ak akey aval ahi amost bkd bth bk bkey bval bhi bmost i0 ∧ true = true ∧ yInt i0 = (0 : Int) ∧ true = true) ∧ ∀ (_ : Nat → AV) (i : Nat), prSa n m akd ath ak akey aval ahi amost bkd bth bk bkey bval bhi bmost i → (yLt (yInt i) (yInt n) = true → (yIn (yInt i) n = true → (yNlt (yNadd (nat_lit 0) (yNat (yInt i))) n = true → (yIn (yInt i) m = true → (yNlt (yNadd (nat_lit 0) (yNat (yInt i))) m = true → (yNot (yAnd (yEq (akd (yNadd (nat_lit 0) (yNat (yInt i)))) (bkd (yNadd (nat_lit 0) (yNat (yInt i))))) (yAnd (yEq (ath (yNadd (nat_lit 0) (yNat (yInt i)))) (bth (yNadd (nat_lit 0) (yNat (yInt i))))) (yAnd (yAnd (yEq (ak (yNadd (nat_lit 0) (yNat (yInt i)))) (bk (yNadd (nat_lit 0) (yNat (yInt i))))) (yAnd (yEq (akey (yNadd (nat_lit 0) (yNat (yInt i)))) (bkey (yNadd (nat_lit 0) (yNat (yInt i))))) (yAnd (yEq (aval (yNadd (nat_lit 0) (yNat (yInt i)))) (bval (yNadd (nat_lit 0) (yNat (yInt i))))) (yAnd (yEq (ahi (yNadd (nat_lit 0) (yNat (yInt i)))) (bhi (yNadd (nat_lit 0) (yNat (yInt i))))) (yAnd (yEq (amost (yNadd (nat_lit 0) (yNat (yInt i)))) (bmost (yNadd (nat_lit 0) (yNat (yInt i))))) true))))) true))) = true → yAnd (yNeq n m) (sameTo akd ath ak akey aval ahi amost bkd bth bk bkey bval bhi bmost n) = false) ∧ (yNot (yAnd (yEq (akd (yNadd (nat_lit 0) (yNat (yInt i)))) (bkd (yNadd (nat_lit 0) (yNat (yInt i))))) (yAnd (yEq (ath (yNadd (nat_lit 0) (yNat (yInt i)))) (bth (yNadd (nat_lit 0) (yNat (yInt i))))) (yAnd (yAnd (yEq (ak (yNadd (nat_lit 0) (yNat (yInt i)))) (bk (yNadd (nat_lit 0) (yNat (yInt i))))) (yAnd (yEq (akey (yNadd (nat_lit 0) (yNat (yInt i)))) (bkey (yNadd (nat_lit 0) (yNat (yInt i))))) (yAnd (yEq (aval (yNadd (nat_lit 0) (yNat (yInt i)))) (bval (yNadd (nat_lit 0) (yNat (yInt i))))) (yAnd (yEq (ahi (yNadd (nat_lit 0) (yNat (yInt i)))) (bhi (yNadd (nat_lit 0) (yNat (yInt i))))) (yAnd (yEq (amost (yNadd (nat_lit 0) (yNat (yInt i)))) (bmost (yNadd (nat_lit 0) (yNat (yInt i))))) true))))) true))) = false → true = true ∧ ∃ (i' : Nat), prSa n m akd ath ak akey aval ahi amost bkd bth bk bkey bval bhi bmost i' ∧ Nat.succ (mSa n i') ≤ mSa n i ∧ true = true ∧ yInt i' = yWrap IntKind.i64 (yAdd (yInt i) (1 : Int)) ∧ true = true)) ∧ (yNlt (yNadd (nat_lit 0) (yNat (yInt i))) m = false → False)) ∧ (yIn (yInt i) m = false → False)) ∧ (yNlt (yNadd (nat_lit 0) (yNat (yInt i))) n = false → False)) ∧ (yIn (yInt i) n = false → False)) ∧ (yLt (yInt i) (yInt n) = false → yAnd (yNeq n m) (sameTo akd ath ak akey aval ahi amost bkd bth bk bkey bval bhi bmost n) = true))) := by kernel_rfl
def lSd : List (Nat × Sm) := [(6, .ct (ctX [roB, .sc] ownE fDec)), (9, .ct (ctX [roB, .sc] ownE fDec)), (8, .ct (ctS gSa fSa)), (7, .ct (ctS gLine fLine)), (5, .call (smB true))]
def prSd (k i : Nat) : Prop := i ≤ k
def mSd (k i : Nat) : Nat := k - i
def annSd (n : Nat) (f : Nat → Int) (t : Int) (b : Nat) : Option (St → LoopA) :=
  match b with
  | 0 => some fun _ => { ι := Nat, tms := [6], tmU := fun i => [.y .i64 (yInt i)], ids := [], hpU := fun _ => [], del := [], ex := 0, pre := prSd (decK n f t), ms := mSd (decK n f t) }
  | _ => none
abbrev gSd : List Ag := [.cell cByte, .cell none]
abbrev dSd (nil : Bool) (n : Nat) (f : Nat → Int) (t : Int) : List Da := [.cell (.rows nil n [.int .u8 f]), .cell (.v (.y .i64 t))]
def goalSd : Prop := ∀ (nil : Bool) (n : Nat) (f : Nat → Int) (t : Int), bytesOk n f = true →
  wxF Tryd.prog (smL lSd) (annSd n f t) 1000 3 (canA gSd (dSd nil n f t) []).1 (heapOf (canA gSd (dSd nil n f t) []).2) (fun r _ => cmpC (.yb true) r)
set_option maxRecDepth 100000 in
theorem goalSd_eq : goalSd = (∀ (nil : Bool) (n : Nat) (f : Nat → Int) (t : Int), bytesOk n f = true → (yLt (3000 : Int) (yInt n) = true → true = true) ∧ (yLt (3000 : Int) (yInt n) = false → (yNle (yNadd (nat_lit 0) n) n = true → ((yCol (CK.int IntKind.u8) n fun (i : Nat) => AV.y IntKind.u8 (f i)) = true → (yAnd (yNle n (nat_lit 3000)) (bytesOk n f) = true → true = true ∧ (∃ (i0 : Nat), prSd (decK n f t) i0 ∧ true = true ∧ yInt i0 = (0 : Int) ∧ true = true) ∧ ∀ (_ : Nat → AV) (i : Nat), prSd (decK n f t) i → (yLt (yInt i) (yInt (decK n f t)) = true → (yIn (yInt i) (decK n f t) = true → (yNlt (yNadd (nat_lit 0) (yNat (yInt i))) (decK n f t) = true → (yLt (eTh n f t (posD n f (yNadd (nat_lit 0) (yNat (yInt i))))) (0 : Int) = true → true = false) ∧ (yLt (eTh n f t (posD n f (yNadd (nat_lit 0) (yNat (yInt i))))) (0 : Int) = false → (yIn (yInt i) (decK n f t) = true → (yNlt (yNadd (nat_lit 0) (yNat (yInt i))) (decK n f t) = true → (yLe t (eTh n f t (posD n f (yNadd (nat_lit 0) (yNat (yInt i))))) = true → true = false) ∧ (yLe t (eTh n f t (posD n f (yNadd (nat_lit 0) (yNat (yInt i))))) = false → (yIn (yInt i) (decK n f t) = true → (yNlt (yNadd (nat_lit 0) (yNat (yInt i))) (decK n f t) = true → (yAnd (inI (eTh n f t (posD n f (yNadd (nat_lit 0) (yNat (yInt i)))))) (inO (eKey n f (posD n f (yNadd (nat_lit 0) (yNat (yInt i))))) (eVal n f (posD n f (yNadd (nat_lit 0) (yNat (yInt i))))) (eHi n f (posD n f (yNadd (nat_lit 0) (yNat (yInt i)))))) = true → (ySEq (lineC (eKd n f (posD n f (yNadd (nat_lit 0) (yNat (yInt i))))) (eTh n f t (posD n f (yNadd (nat_lit 0) (yNat (yInt i))))) (eOk n f (posD n f (yNadd (nat_lit 0) (yNat (yInt i))))) (eKey n f (posD n f (yNadd (nat_lit 0) (yNat (yInt i))))) (eVal n f (posD n f (yNadd (nat_lit 0) (yNat (yInt i))))) (eHi n f (posD n f (yNadd (nat_lit 0) (yNat (yInt i))))) (eMost n f (posD n f (yNadd (nat_lit 0) (yNat (yInt i)))))) [] = true → true = false) ∧ (ySEq (lineC (eKd n f (posD n f (yNadd (nat_lit 0) (yNat (yInt i))))) (eTh n f t (posD n f (yNadd (nat_lit 0) (yNat (yInt i))))) (eOk n f (posD n f (yNadd (nat_lit 0) (yNat (yInt i))))) (eKey n f (posD n f (yNadd (nat_lit 0) (yNat (yInt i))))) (eVal n f (posD n f (yNadd (nat_lit 0) (yNat (yInt i))))) (eHi n f (posD n f (yNadd (nat_lit 0) (yNat (yInt i))))) (eMost n f (posD n f (yNadd (nat_lit 0) (yNat (yInt i)))))) [] = false → true = true ∧ ∃ (i' : Nat), prSd (decK n f t) i' ∧ Nat.succ (mSd (decK n f t) i') ≤ mSd (decK n f t) i ∧ true = true ∧ yInt i' = yWrap IntKind.i64 (yAdd (yInt i) (1 : Int)) ∧ true = true)) ∧ (yAnd (inI (eTh n f t (posD n f (yNadd (nat_lit 0) (yNat (yInt i)))))) (inO (eKey n f (posD n f (yNadd (nat_lit 0) (yNat (yInt i))))) (eVal n f (posD n f (yNadd (nat_lit 0) (yNat (yInt i))))) (eHi n f (posD n f (yNadd (nat_lit 0) (yNat (yInt i)))))) = false → False)) ∧ (yNlt (yNadd (nat_lit 0) (yNat (yInt i))) (decK n f t) = false → False)) ∧ (yIn (yInt i) (decK n f t) = false → False))) ∧ (yNlt (yNadd (nat_lit 0) (yNat (yInt i))) (decK n f t) = false → False)) ∧ (yIn (yInt i) (decK n f t) = false → False))) ∧ (yNlt (yNadd (nat_lit 0) (yNat (yInt i))) (decK n f t) = false → False)) ∧ (yIn (yInt i) (decK n f t) = false → False)) ∧ (yLt (yInt i) (yInt (decK n f t)) = false → (yNle (yNadd (nat_lit 0) n) n = true → ((yCol (CK.int IntKind.u8) n fun (i : Nat) => AV.y IntKind.u8 (f i)) = true → (yAnd (yNle n (nat_lit 3000)) (bytesOk n f) = true → (yNle (yNadd (nat_lit 0) (decK n f t)) (decK n f t) = true → ((yCol (CK.int IntKind.i64) (decK n f t) fun (i : Nat) => AV.y IntKind.i64 (eKd n f (posD n f i))) = true → ((yCol (CK.int IntKind.i64) (decK n f t) fun (i : Nat) => AV.y IntKind.i64 (eTh n f t (posD n f i))) = true → ((yCol (CK.int IntKind.i64) (decK n f t) fun (i : Nat) => AV.y IntKind.i64 (eOk n f (posD n f i))) = true → ((yCol (CK.int IntKind.u64) (decK n f t) fun (i : Nat) => AV.y IntKind.u64 (eKey n f (posD n f i))) = true → ((yCol (CK.int IntKind.u64) (decK n f t) fun (i : Nat) => AV.y IntKind.u64 (eVal n f (posD n f i))) = true → ((yCol (CK.int IntKind.u64) (decK n f t) fun (i : Nat) => AV.y IntKind.u64 (eHi n f (posD n f i))) = true → ((yCol (CK.int IntKind.i64) (decK n f t) fun (i : Nat) => AV.y IntKind.i64 (eMost n f (posD n f i))) = true → (yNle (yNadd (nat_lit 0) (decK n f t)) (decK n f t) = true → ((yCol (CK.int IntKind.i64) (decK n f t) fun (i : Nat) => AV.y IntKind.i64 (eKd n f (posD n f i))) = true → ((yCol (CK.int IntKind.i64) (decK n f t) fun (i : Nat) => AV.y IntKind.i64 (eTh n f t (posD n f i))) = true → ((yCol (CK.int IntKind.i64) (decK n f t) fun (i : Nat) => AV.y IntKind.i64 (eOk n f (posD n f i))) = true → ((yCol (CK.int IntKind.u64) (decK n f t) fun (i : Nat) => AV.y IntKind.u64 (eKey n f (posD n f i))) = true → ((yCol (CK.int IntKind.u64) (decK n f t) fun (i : Nat) => AV.y IntKind.u64 (eVal n f (posD n f i))) = true → ((yCol (CK.int IntKind.u64) (decK n f t) fun (i : Nat) => AV.y IntKind.u64 (eHi n f (posD n f i))) = true → ((yCol (CK.int IntKind.i64) (decK n f t) fun (i : Nat) => AV.y IntKind.i64 (eMost n f (posD n f i))) = true → (yNle (decK n f t) (nat_lit 100000) = true → (yAnd (yNeq (decK n f t) (decK n f t)) (sameTo (fun (i : Nat) => eKd n f (posD n f i)) (fun (i : Nat) => eTh n f t (posD n f i)) (fun (i : Nat) => eOk n f (posD n f i)) (fun (i : Nat) => eKey n f (posD n f i)) (fun (i : Nat) => eVal n f (posD n f i)) (fun (i : Nat) => eHi n f (posD n f i)) (fun (i : Nat) => eMost n f (posD n f i)) (fun (i : Nat) => eKd n f (posD n f i)) (fun (i : Nat) => eTh n f t (posD n f i)) (fun (i : Nat) => eOk n f (posD n f i)) (fun (i : Nat) => eKey n f (posD n f i)) (fun (i : Nat) => eVal n f (posD n f i)) (fun (i : Nat) => eHi n f (posD n f i)) (fun (i : Nat) => eMost n f (posD n f i)) (decK n f t)) = true → true = true) ∧ (yAnd (yNeq (decK n f t) (decK n f t)) (sameTo (fun (i : Nat) => eKd n f (posD n f i)) (fun (i : Nat) => eTh n f t (posD n f i)) (fun (i : Nat) => eOk n f (posD n f i)) (fun (i : Nat) => eKey n f (posD n f i)) (fun (i : Nat) => eVal n f (posD n f i)) (fun (i : Nat) => eHi n f (posD n f i)) (fun (i : Nat) => eMost n f (posD n f i)) (fun (i : Nat) => eKd n f (posD n f i)) (fun (i : Nat) => eTh n f t (posD n f i)) (fun (i : Nat) => eOk n f (posD n f i)) (fun (i : Nat) => eKey n f (posD n f i)) (fun (i : Nat) => eVal n f (posD n f i)) (fun (i : Nat) => eHi n f (posD n f i)) (fun (i : Nat) => eMost n f (posD n f i)) (decK n f t)) = false → true = false)) ∧ (yNle (decK n f t) (nat_lit 100000) = false → False)) ∧ ((yCol (CK.int IntKind.i64) (decK n f t) fun (i : Nat) => AV.y IntKind.i64 (eMost n f (posD n f i))) = false → False)) ∧ ((yCol (CK.int IntKind.u64) (decK n f t) fun (i : Nat) => AV.y IntKind.u64 (eHi n f (posD n f i))) = false → False)) ∧ ((yCol (CK.int IntKind.u64) (decK n f t) fun (i : Nat) => AV.y IntKind.u64 (eVal n f (posD n f i))) = false → False)) ∧ ((yCol (CK.int IntKind.u64) (decK n f t) fun (i : Nat) => AV.y IntKind.u64 (eKey n f (posD n f i))) = false → False)) ∧ ((yCol (CK.int IntKind.i64) (decK n f t) fun (i : Nat) => AV.y IntKind.i64 (eOk n f (posD n f i))) = false → False)) ∧ ((yCol (CK.int IntKind.i64) (decK n f t) fun (i : Nat) => AV.y IntKind.i64 (eTh n f t (posD n f i))) = false → False)) ∧ ((yCol (CK.int IntKind.i64) (decK n f t) fun (i : Nat) => AV.y IntKind.i64 (eKd n f (posD n f i))) = false → False)) ∧ (yNle (yNadd (nat_lit 0) (decK n f t)) (decK n f t) = false → False)) ∧ ((yCol (CK.int IntKind.i64) (decK n f t) fun (i : Nat) => AV.y IntKind.i64 (eMost n f (posD n f i))) = false → False)) ∧ ((yCol (CK.int IntKind.u64) (decK n f t) fun (i : Nat) => AV.y IntKind.u64 (eHi n f (posD n f i))) = false → False)) ∧ ((yCol (CK.int IntKind.u64) (decK n f t) fun (i : Nat) => AV.y IntKind.u64 (eVal n f (posD n f i))) = false → False)) ∧ ((yCol (CK.int IntKind.u64) (decK n f t) fun (i : Nat) => AV.y IntKind.u64 (eKey n f (posD n f i))) = false → False)) ∧ ((yCol (CK.int IntKind.i64) (decK n f t) fun (i : Nat) => AV.y IntKind.i64 (eOk n f (posD n f i))) = false → False)) ∧ ((yCol (CK.int IntKind.i64) (decK n f t) fun (i : Nat) => AV.y IntKind.i64 (eTh n f t (posD n f i))) = false → False)) ∧ ((yCol (CK.int IntKind.i64) (decK n f t) fun (i : Nat) => AV.y IntKind.i64 (eKd n f (posD n f i))) = false → False)) ∧ (yNle (yNadd (nat_lit 0) (decK n f t)) (decK n f t) = false → False)) ∧ (yAnd (yNle n (nat_lit 3000)) (bytesOk n f) = false → False)) ∧ ((yCol (CK.int IntKind.u8) n fun (i : Nat) => AV.y IntKind.u8 (f i)) = false → False)) ∧ (yNle (yNadd (nat_lit 0) n) n = false → False))) ∧ (yAnd (yNle n (nat_lit 3000)) (bytesOk n f) = false → False)) ∧ ((yCol (CK.int IntKind.u8) n fun (i : Nat) => AV.y IntKind.u8 (f i)) = false → False)) ∧ (yNle (yNadd (nat_lit 0) n) n = false → False))) := by kernel_rfl
theorem sameAt_t {akd ath ak akey aval ahi amost bkd bth bk bkey bval bhi bmost : Nat → Int} {j : Nat} : (sameAt akd ath ak akey aval ahi amost bkd bth bk bkey bval bhi bmost j = true) = (akd j = bkd j ∧ ath j = bth j ∧ ak j = bk j ∧ akey j = bkey j ∧ aval j = bval j ∧ ahi j = bhi j ∧ amost j = bmost j) := by
  simp only [sameAt, yAnd_t, yEq_t]
theorem sameTo_succ {akd ath ak akey aval ahi amost bkd bth bk bkey bval bhi bmost : Nat → Int} {i : Nat} : sameTo akd ath ak akey aval ahi amost bkd bth bk bkey bval bhi bmost (i + 1) = (sameTo akd ath ak akey aval ahi amost bkd bth bk bkey bval bhi bmost i && sameAt akd ath ak akey aval ahi amost bkd bth bk bkey bval bhi bmost i) := by
  simp [sameTo, List.range_succ]
theorem sameTo_f {akd ath ak akey aval ahi amost bkd bth bk bkey bval bhi bmost : Nat → Int} {i n : Nat} (hi : i < n) (h : ¬ sameAt akd ath ak akey aval ahi amost bkd bth bk bkey bval bhi bmost i = true) : sameTo akd ath ak akey aval ahi amost bkd bth bk bkey bval bhi bmost n = false := by
  cases e : sameTo akd ath ak akey aval ahi amost bkd bth bk bkey bval bhi bmost n with
  | false => rfl
  | true => exact absurd (List.all_eq_true.1 e i (List.mem_range.2 hi)) h
set_option maxRecDepth 100000 in
theorem goalSa_ok : goalSa := by
  refine kernel_go goalSa_eq ?_
  intro nilA n nilB m akd ath ak akey aval ahi amost bkd bth bk bkey bval bhi bmost hn
  simp only [yNot_t, yNot_f, yEq_t, yEq_f, yAnd_t, yAnd_f, yOr_t, yOr_f, yIff_t, yIff_f, yLt_t, yLt_f, yLe_t, yLe_f, yIn_t, yIn_f, yNlt_t, yNlt_f, yNle_t, yNle_f, yNeq_t, yNeq_f, yGrow_t, yGrow_f, yInt_e, yNat_e, yNadd_e, yNsub_e, yAdd_e, ySub_e, yMul_e, yCol_int, yCol_bool, true_and, and_true, Nat.zero_add, Nat.add_zero, Nat.le_refl, forall_const, true_implies, Bool.true_eq_false, Bool.false_eq_true, false_implies] at hn ⊢
  refine ⟨fun h => ?_, fun h => ⟨⟨0, ⟨Nat.zero_le _, by omega, rfl⟩, rfl⟩, fun _ i hi => ⟨fun hlt => ?_, fun hge => ?_⟩⟩⟩
  · exact .inl (by omega)
  · obtain ⟨hi1, hi2, hi3⟩ := hi
    have w1 : yWrap .i64 ((i : Int) + 1) = ((i + 1 : Nat) : Int) := by rw [wrap64 (by omega) (by omega)]; omega
    have hst := sameAt_t (j := i) (akd := akd) (ath := ath) (ak := ak) (akey := akey) (aval := aval) (ahi := ahi) (amost := amost) (bkd := bkd) (bth := bth) (bk := bk) (bkey := bkey) (bval := bval) (bhi := bhi) (bmost := bmost)
    rw [w1]
    refine ⟨fun _ => ⟨fun _ => ⟨fun _ => ⟨fun _ => ⟨fun hd => ?_, fun hs => ?_⟩, by omega⟩, by omega⟩, by omega⟩, by omega⟩
    · refine .inr (sameTo_f (show i < n by omega) (fun e => ?_))
      rw [hst] at e
      obtain ⟨e1, e2, e3, e4, e5, e6, e7⟩ := e
      simp [e1, e2, e3, e4, e5, e6, e7] at hd
    · refine ⟨i + 1, ⟨by omega, hi2, ?_⟩, by unfold mSa; omega, rfl⟩
      rw [sameTo_succ, hi3, hst.mpr hs]; rfl
  · obtain ⟨hi1, hi2, hi3⟩ := hi
    have e : i = n := by omega
    subst e
    exact ⟨hi2, hi3⟩
theorem smSa (hm : Tryd.prog.follows .mixedOrders = true) : SmCall Tryd.prog 8 (fun args h => (ctS gSa fSa args h).sel) :=
  ctS_ok hm noSm_ok (by decide) (fun ds a e => by
    unfold fSa at e
    split at e
    · rename_i nilA n akd ath ak akey aval ahi amost nilB m bkd bth bk bkey bval bhi bmost
      simp only [Option.some.injEq, Prod.mk.injEq] at e
      obtain ⟨h1, rfl⟩ := e
      exact ⟨_, 1000, @goalSa_ok nilA n nilB m akd ath ak akey aval ahi amost bkd bth bk bkey bval bhi bmost h1⟩
    · cases e)
theorem same_self (akd ath ak akey aval ahi amost : Nat → Int) (n : Nat) : sameTo akd ath ak akey aval ahi amost akd ath ak akey aval ahi amost n = true := by
  unfold sameTo
  rw [List.all_eq_true]
  intro j _
  rw [sameAt_t]
  exact ⟨rfl, rfl, rfl, rfl, rfl, rfl, rfl⟩
theorem eTh_ok {n : Nat} {f : Nat → Int} (hb : bytesOk n f = true) {t : Int} (ht : 1 ≤ t) (p : Nat) : 0 ≤ eTh n f t p ∧ eTh n f t p < t := by
  have := bAt_b hb p
  unfold eTh
  split
  · omega
  · rw [Int.tmod_eq_emod_of_nonneg this.1]
    exact ⟨Int.emod_nonneg _ (by omega), Int.emod_lt_of_pos _ (by omega)⟩
theorem fld_ok {n : Nat} {f : Nat → Int} (hb : bytesOk n f = true) (p : Nat) : inO (eKey n f p) (eVal n f p) (eHi n f p) = true := by
  have h1 := bAt_b hb (p + 1)
  have h2 := bAt_b hb (p + 2)
  unfold eKey eVal eHi
  simp only [inO, yAnd_t, inU_t]
  refine ⟨?_, ?_, ?_⟩
  all_goals split <;> omega
theorem ne_cons {l : List UInt8} (h : l ≠ []) : ySEq l [] = false := by
  show eqS l [] = false
  rw [eqS_eq]
  cases l with
  | nil => exact absurd rfl h
  | cons x l => rfl
theorem line_ne {n : Nat} {f : Nat → Int} (hb : bytesOk n f = true) {t : Int} (ht : 1 ≤ t) (p : Nat) : ySEq (lineC (eKd n f p) (eTh n f t p) (eOk n f p) (eKey n f p) (eVal n f p) (eHi n f p) (eMost n f p)) [] = false := by
  have hth := (eTh_ok hb ht p).1
  have hc := bAt_b hb p
  have h3 := bAt_b hb (p + 3)
  have hlt : yLt (eTh n f t p) 0 = false := decide_eq_false (by omega)
  apply ne_cons
  by_cases k1 : bAt n f p < 192
  · have hk : kindD (bAt n f p) = 0 := if_pos (by omega)
    have e1 : eKd n f p = 2 := by unfold eKd; rw [if_pos k1]
    have e3 : eOk n f p = 0 := hk
    have e4 : eKey n f p = 0 := by unfold eKey; rw [if_pos (by omega)]
    have e5 : eVal n f p = 0 := by unfold eVal; rw [hk]; rfl
    have e6 : eHi n f p = 0 := by unfold eHi; rw [hk]; rfl
    have e7 : eMost n f p = 0 := by unfold eMost; rw [hk]; rfl
    rw [e1, e3, e4, e5, e6, e7, lineC_2, hlt]
    have hz : zO 0 0 0 0 0 = true := rfl
    rw [hz]
    simp [wPick]
  · by_cases k2 : bAt n f p < 208
    · have hk : kindD (bAt n f p) = 0 := if_pos (by omega)
      have e1 : eKd n f p = 1 := by unfold eKd; rw [if_neg k1, if_pos k2]
      have e2 : eTh n f t p = 0 := by unfold eTh; rw [if_pos (by omega)]
      have e3 : eOk n f p = 0 := hk
      have e4 : eKey n f p = 0 := by unfold eKey; rw [if_pos (by omega)]
      have e5 : eVal n f p = 0 := by unfold eVal; rw [hk]; rfl
      have e6 : eHi n f p = 0 := by unfold eHi; rw [hk]; rfl
      have e7 : eMost n f p = 0 := by unfold eMost; rw [hk]; rfl
      rw [e1, e2, e3, e4, e5, e6, e7, lineC_1]
      have hz : yAnd (yEq 0 0) (zO 0 0 0 0 0) = true := rfl
      rw [hz]
      simp [wTick]
    · have e1 : eKd n f p = 3 := by unfold eKd; rw [if_neg k1, if_neg k2]
      have hop : opC (eOk n f p) (eKey n f p) (eVal n f p) (eHi n f p) (eMost n f p) ≠ [] := by
        have e3 : eOk n f p = kindD (bAt n f p) := rfl
        rcases kind_le (show 208 ≤ bAt n f p by omega) hc.2 with hk | hk | hk | hk
        · have e5 : eVal n f p = 0 := by unfold eVal; rw [hk]; rfl
          have e6 : eHi n f p = 0 := by unfold eHi; rw [hk]; rfl
          have e7 : eMost n f p = 0 := by unfold eMost; rw [hk]; rfl
          rw [e3, hk, e5, e6, e7, opC_1]
          have hz : yAnd (yEq 0 0) (yAnd (yEq 0 0) (yEq 0 0)) = true := rfl
          rw [hz]; simp [wGet]
        · have e6 : eHi n f p = 0 := by unfold eHi; rw [hk]; rfl
          have e7 : eMost n f p = 0 := by unfold eMost; rw [hk]; rfl
          rw [e3, hk, e6, e7, opC_2]
          have hz : yAnd (yEq 0 0) (yEq 0 0) = true := rfl
          rw [hz]; simp [wPut]
        · have e5 : eVal n f p = 0 := by unfold eVal; rw [hk]; rfl
          have e6 : eHi n f p = 0 := by unfold eHi; rw [hk]; rfl
          have e7 : eMost n f p = 0 := by unfold eMost; rw [hk]; rfl
          rw [e3, hk, e5, e6, e7, opC_3]
          have hz : yAnd (yEq 0 0) (yAnd (yEq 0 0) (yEq 0 0)) = true := rfl
          rw [hz]; simp [wDelete]
        · have e5 : eVal n f p = 0 := by unfold eVal; rw [hk]; rfl
          have e7 : eMost n f p = bAt n f (p + 3) + 1 := by unfold eMost; rw [if_pos hk]
          have hR : rightO 4 (bAt n f (p + 3) + 1) = true := by
            show yAnd (yLe 1 _) (yLe _ 1000) = true
            simp only [yAnd_t, yLe_t]; omega
          rw [e3, hk, e5, e7, opC_4 hR]
          have hz : yEq 0 0 = true := rfl
          rw [hz]; simp [wScan]
      rw [e1, lineC_3, hlt, ne_cons hop]
      simp [wSubmit]
theorem decK_pos {n : Nat} {f : Nat → Int} {t : Int} {i : Nat} (h : i < decK n f t) : 1 ≤ t ∧ t ≤ 64 := by
  by_cases hb : t < 1 ∨ 64 < t
  · rw [decK_bad hb] at h; omega
  · omega
theorem rndD_le {n : Nat} {f : Nat → Int} : ∀ m k, rndD n f m k ≤ k + m
  | 0, k => Nat.le_refl _
  | m + 1, k => by
    unfold rndD
    split
    · have := rndD_le (n := n) (f := f) m (k + 1); omega
    · omega
theorem decK_le (n : Nat) (f : Nat → Int) (t : Int) : decK n f t ≤ n + 1 := by
  unfold decK
  split
  · omega
  · have := rndD_le (n := n) (f := f) (n + 1) 0; omega
set_option maxRecDepth 100000 in
theorem goalSd_ok : goalSd := by
  refine kernel_go goalSd_eq ?_
  intro nil n f t hb
  simp only [hb, same_self, or_false, yNot_t, yNot_f, yEq_t, yEq_f, yAnd_t, yAnd_f, yOr_t, yOr_f, yIff_t, yIff_f, yLt_t, yLt_f, yLe_t, yLe_f, yIn_t, yIn_f, yNlt_t, yNlt_f, yNle_t, yNle_f, yNeq_t, yNeq_f, yGrow_t, yGrow_f, yInt_e, yNat_e, yNadd_e, yNsub_e, yAdd_e, ySub_e, yMul_e, yCol_int, yCol_bool, true_and, and_true, Nat.zero_add, Nat.add_zero, Nat.le_refl, forall_const, true_implies, Bool.true_eq_false, Bool.false_eq_true, false_implies]
  have hk2 := decK_le n f t
  refine ⟨fun _ => trivial, fun hn => ⟨⟨fun _ => ⟨⟨0, Nat.zero_le _, rfl⟩, fun _ i hi => ⟨fun hlt => ?_, fun hge => ?_⟩⟩, fun h => by omega⟩, fun h => absurd h (Nat.lt_irrefl _)⟩⟩
  · have hik : i < decK n f t := by omega
    obtain ⟨t1, t2⟩ := decK_pos hik
    have h1 := eTh_ok hb t1 (posD n f i)
    have h2 := fld_ok hb (posD n f i)
    have h3 := line_ne hb t1 (posD n f i)
    have h4 : inI (eTh n f t (posD n f i)) = true := by
      simp only [inI, yAnd_t, yLe_t, yLt_t]; omega
    have w1 : yWrap .i64 ((i : Int) + 1) = ((i + 1 : Nat) : Int) := by rw [wrap64 (by omega) (by omega)]; omega
    have q1 : prSd (decK n f t) (i + 1) := hik
    have q2 : (mSd (decK n f t) (i + 1)).succ ≤ mSd (decK n f t) i := by unfold mSd; omega
    simp only [h2, h3, h4, w1, Bool.true_eq_false, Bool.false_eq_true, or_false, false_implies, true_and]
    repeat' (first | apply And.intro | intro _)
    all_goals first | omega | trivial | exact ⟨i + 1, q1, q2, rfl⟩ | (trace_state; fail)
  · repeat' (first | apply And.intro | intro _)
    all_goals first | omega | (simp_all; done) | (trace_state; fail)
theorem lSd_ok (hm : Tryd.prog.follows .mixedOrders = true) : SmOK Tryd.prog (smL lSd) := smL_ok ⟨smDec hm, smDecR hm, smSa hm, smLine hm, awake28 hm, trivial⟩
end Go.Proofs.YtnlegpofdggbcaaDoor.Ex
