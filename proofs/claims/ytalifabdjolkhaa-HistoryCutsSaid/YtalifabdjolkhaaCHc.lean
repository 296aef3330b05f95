/- Contracts: slices.Clone of pairs, history.Calls, history.kept, gleaningref27.SameEvents, gleaninglaw29.small. -/
import Derived.Test.YtalifabdjolkhaaCGn
namespace Go.Proofs.Ytalifabdjolkhaa.Ex
open Go

-- OPEN nilOk wfE cntU selU prKp mKp sameE prSe mSe prSl mSl prCl
abbrev kP : List CK := [.int .u64, .int .u64]
abbrev sP : Sx := .pl kP
/-- A list that is nil has nothing. -/
def nilOk (nil : Bool) (n : Nat) : Bool := yOr (yNot nil) (yNeq n 0)
def wfE (E : EvS) (n : Nat) : Bool := decide (∀ i, i < n → nilOk (eNil E i) (ePn E i) = true)
def fCln (ds : List Dx) : Option (Bool × Dx × List (List Dx)) :=
  match ds with
  | [.rows nil n [.int .u64 a, .int .u64 b]] => some (yAnd (yNle n 1000000) (nilOk nil n), .rows nil n [.int .u64 a, .int .u64 b], [])
  | _ => none
def goalCln : Prop := ∀ (nil : Bool) (n : Nat) (a b : Nat → Int), yNle n 1000000 = true → nilOk nil n = true → wxH Try.prog noSm (fun _ => none) 16 [sP] [.rows nil n [.int .u64 a, .int .u64 b]] sP (.rows nil n [.int .u64 a, .int .u64 b]) []
/-- The calls, each with pairs of its own. -/
abbrev rCl : Sx := .own 38 kCl
abbrev dCl (E : EvS) (n : Nat) : Dx := .rows (yNeq (resN E n) 0) (resN E n) (colsG E n)
def lCl : List (Nat × Sm) := [(15, .ct (ctX [sEv] rGn fGn)), (16, .ct (ctX [sP] sP fCln))]
def prCl (E : EvS) (n i : Nat) : Prop := i ≤ resN E n
def annCl (E : EvS) (n : Nat) (b : Nat) : Option (St → LoopA) :=
  match b with
  | 0 => some fun _ => { ι := Nat, tms := [13], tmU := fun i => [.y .i64 (yInt i)], ids := [0], hpU := fun _ => [.arr false 38 13 (resN E n) (colF (colsG E n))], del := [], ex := 0, pre := prCl E n, ms := mGn (resN E n) }
  | _ => none
def goalCl : Prop := ∀ (E : EvS) (nil : Bool) (n : Nat), preE E n = true → wfE E n = true → wxH Try.prog (smL lCl) (annCl E n) 9 [sEv] [.rows nil n (colsE E)] rCl (dCl E n) []
/-- Events at some places. -/
def cntU (E : EvS) (a : Int) (i : Nat) : Nat := ((List.range i).filter fun q => yLt (eAt E q) a).length
def selU (E : EvS) (a : Int) (n j : Nat) : Nat := ((List.range n).filter fun q => yLt (eAt E q) a)[j]?.getD 0
abbrev colsF (E : EvS) (s : Nat → Nat) : List Col := [.int .i64 (fun j => eKd E (s j)), .int .i64 (fun j => eTh E (s j)), .int .i64 (fun j => eId E (s j)), .int .i64 (fun j => eAt E (s j)), .int .i64 (fun j => eOk E (s j)), .int .u64 (fun j => eKey E (s j)), .int .u64 (fun j => eVal E (s j)), .int .u64 (fun j => eHi E (s j)), .int .i64 (fun j => eMost E (s j)), .int .i64 (fun j => eRk E (s j)), .int .u64 (fun j => eRv E (s j)), .ls (fun j => eNil E (s j)) (fun j => ePn E (s j)) [.int .u64 (fun j => ePk E (s j)), .int .u64 (fun j => ePv E (s j))]]
abbrev slU (id k : Nat) : AV := .ysl false (yNeq k 0) id 12 0 k
def prKp (n i : Nat) : Prop := i ≤ n
def mKp (n i : Nat) : Nat := n - i
def annKp (E : EvS) (a : Int) (n : Nat) (b : Nat) : Option (St → LoopA) :=
  match b with
  | 0 => some fun _ => { ι := Nat, tms := [5, 10], tmU := fun i => [slU 1 (cntU E a i), .y .i64 (yInt i)], ids := [1], hpU := fun i => [.arr false 32 12 (cntU E a i) (colF (colsF E (selU E a n)))], del := [], ex := 1, pre := prKp n, ms := mKp n }
  | _ => none
abbrev sKp : List Sx := [sEv, .fn 13 [.ptr 3 [.sc]]]
abbrev rKp : Sx := sEv
def goalKp : Prop := ∀ (E : EvS) (nil : Bool) (n : Nat) (a : Int), preE E n = true → wxH Try.prog noSm (annKp E a n) 12 sKp [.rows nil n (colsE E), .l [.l [.v (.y .i64 a)]]] rKp (.rows (yNeq (cntU E a n) 0) (cntU E a n) (colsF E (selU E a n))) [[.v (.y .i64 a)]]
def sameEv (E F : EvS) (j : Nat) : Bool := decide (eKd E j = eKd F j ∧ eTh E j = eTh F j ∧ eId E j = eId F j ∧ eAt E j = eAt F j ∧ (eOk E j = eOk F j ∧ eKey E j = eKey F j ∧ eVal E j = eVal F j ∧ eHi E j = eHi F j ∧ eMost E j = eMost F j) ∧ sameRes (eRk E j) (eRv E j) (ePn E j) (ePk E j) (ePv E j) (eRk F j) (eRv F j) (ePn F j) (ePk F j) (ePv F j) = true)
def sameE (E : EvS) (n : Nat) (F : EvS) (m : Nat) : Bool := decide (n = m ∧ ∀ j, j < n → sameEv E F j = true)
def prSe (E : EvS) (n : Nat) (F : EvS) (m i : Nat) : Prop := i ≤ n ∧ n = m ∧ ∀ j, j < i → sameEv E F j = true
def annSe (E : EvS) (n : Nat) (F : EvS) (m : Nat) (b : Nat) : Option (St → LoopA) :=
  match b with
  | 0 => some fun _ => { ι := Nat, tms := [5], tmU := fun i => [.y .i64 (yInt i)], ids := [], hpU := fun _ => [], del := [], ex := 0, pre := prSe E n F m, ms := mKp n }
  | _ => none
def lSe : List (Nat × Sm) := [(14, .ct (ctS gResult fSame))]
def goalSe : Prop := ∀ (E : EvS) (nil : Bool) (n : Nat) (F : EvS) (nil2 : Bool) (m : Nat), preE E n = true → wxH Try.prog (smL lSe) (annSe E n F m) 7 [sEv, sEv] [.rows nil n (colsE E), .rows nil2 m (colsE F)] .sc (.v (.yb (sameE E n F m))) []
def prSl (E : EvS) (n i : Nat) : Prop := i ≤ n ∧ ∀ j, j < i → ePn E j ≤ 50
def annSl (E : EvS) (n : Nat) (b : Nat) : Option (St → LoopA) :=
  match b with
  | 0 => some fun _ => { ι := Nat, tms := [3], tmU := fun i => [.y .i64 (yInt i)], ids := [], hpU := fun _ => [], del := [], ex := 0, pre := prSl E n, ms := mKp n }
  | _ => none
def goalSm : Prop := ∀ (E : EvS) (nil : Bool) (n : Nat), yNle n 9223372036854775807 = true → wxH Try.prog noSm (annSl E n) 4 [sEv] [.rows nil n (colsE E)] .sc (.v (.yb (preE E n))) []
end Go.Proofs.Ytalifabdjolkhaa.Ex
