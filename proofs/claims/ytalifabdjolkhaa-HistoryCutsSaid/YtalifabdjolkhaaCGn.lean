/- Contract: history.gone goes through a history: its calls, and whether it may be. -/
import Derived.Test.YtalifabdjolkhaaCSame
import Derived.Test.YtalifabdjolkhaaWo
import Derived.Test.YtalifabdjolkhaaSl
namespace Go.Proofs.Ytalifabdjolkhaa.Ex
open Go

-- OPEN eKd eTh eId eAt eOk eKey eVal eHi eMost eRk eRv eNil ePn ePk ePv gOk gN gAt gP gV gEv gEn cTo cOv cRk cRv cNil cPn cPk cPv prGn mGn preE resN rightE
/-- Events. -/
structure EvS where
  kd : Nat → Int
  th : Nat → Int
  id : Nat → Int
  at_ : Nat → Int
  ok : Nat → Int
  key : Nat → Int
  val : Nat → Int
  hi : Nat → Int
  most : Nat → Int
  rk : Nat → Int
  rv : Nat → Int
  nil : Nat → Bool
  pn : Nat → Nat
  pk : Nat → Nat → Int
  pv : Nat → Nat → Int
instance : Inhabited EvS := ⟨⟨fun _ => 0, fun _ => 0, fun _ => 0, fun _ => 0, fun _ => 0, fun _ => 0, fun _ => 0, fun _ => 0, fun _ => 0, fun _ => 0, fun _ => 0, fun _ => true, fun _ => 0, fun _ _ => 0, fun _ _ => 0⟩⟩
def eKd (E : EvS) (i : Nat) : Int := E.kd i
def eTh (E : EvS) (i : Nat) : Int := E.th i
def eId (E : EvS) (i : Nat) : Int := E.id i
def eAt (E : EvS) (i : Nat) : Int := E.at_ i
def eOk (E : EvS) (i : Nat) : Int := E.ok i
def eKey (E : EvS) (i : Nat) : Int := E.key i
def eVal (E : EvS) (i : Nat) : Int := E.val i
def eHi (E : EvS) (i : Nat) : Int := E.hi i
def eMost (E : EvS) (i : Nat) : Int := E.most i
def eRk (E : EvS) (i : Nat) : Int := E.rk i
def eRv (E : EvS) (i : Nat) : Int := E.rv i
def eNil (E : EvS) (i : Nat) : Bool := E.nil i
def ePn (E : EvS) (i : Nat) : Nat := E.pn i
def ePk (E : EvS) (i j : Nat) : Int := E.pk i j
def ePv (E : EvS) (i j : Nat) : Int := E.pv i j
abbrev kEv : List CK := [.int .i64, .int .i64, .int .i64, .int .i64, .int .i64, .int .u64, .int .u64, .int .u64, .int .i64, .int .i64, .int .u64, .ls [.int .u64, .int .u64]]
abbrev colsE (E : EvS) : List Col := [.int .i64 (eKd E), .int .i64 (eTh E), .int .i64 (eId E), .int .i64 (eAt E), .int .i64 (eOk E), .int .u64 (eKey E), .int .u64 (eVal E), .int .u64 (eHi E), .int .i64 (eMost E), .int .i64 (eRk E), .int .u64 (eRv E), .ls (eNil E) (ePn E) [.int .u64 (ePk E), .int .u64 (ePv E)]]
def rightE (k most : Int) : Bool := bif yEq k 4 then yAnd (yLe 1 most) (yLe most 1000) else yAnd (yLe 1 k) (yLe k 3)
/-- What is known behind so many events. -/
structure GS where
  ok : Bool
  n : Nat
  at_ : Int
  p : Int → Bool
  v : Int → Int
  ev : Nat → Nat
  en : Nat → Nat
def zeroR (E : EvS) (i : Nat) : Bool := sameRes (eRk E i) (eRv E i) (ePn E i) (ePk E i) (ePv E i) 0 0 0 (fun _ => 0) (fun _ => 0)
def sameOp (E : EvS) (a b : Nat) : Bool := yAnd (yEq (eOk E a) (eOk E b)) (yAnd (yEq (eKey E a) (eKey E b)) (yAnd (yEq (eVal E a) (eVal E b)) (yAnd (yEq (eHi E a) (eHi E b)) (yEq (eMost E a) (eMost E b)))))
def gs1 (E : EvS) (i : Nat) (g : GS) : GS :=
  if eAt E i < g.at_ ∨ eTh E i < 0 then { g with ok := false }
  else if eKd E i = 1 then
    (if g.p (eTh E i) = true ∨ eId E i ≠ g.n + 1 ∨ rightE (eOk E i) (eMost E i) = false ∨ zeroR E i = false then { g with ok := false }
     else { ok := true, n := g.n + 1, at_ := eAt E i, p := fun x => yOr (yEq x (eTh E i)) (g.p x), v := fun x => ySel (yEq x (eTh E i)) g.n (g.v x), ev := fun j => if j = g.n then i else g.ev j, en := fun j => if j = g.n then 0 else g.en j })
  else if eKd E i = 2 then
    (if g.p (eTh E i) = false ∨ eId E (g.ev (g.v (eTh E i)).toNat) ≠ eId E i ∨ sameOp E (g.ev (g.v (eTh E i)).toNat) i = false then { g with ok := false }
     else { g with at_ := eAt E i, p := fun x => yAnd (yNot (yEq x (eTh E i))) (g.p x), en := fun j => if j = (g.v (eTh E i)).toNat then i + 1 else g.en j })
  else { g with ok := false }
def gS (E : EvS) : Nat → GS
  | 0 => ⟨true, 0, 0, fun _ => false, fun _ => 0, fun _ => 0, fun _ => 0⟩
  | i + 1 => bif (gS E i).ok then gs1 E i (gS E i) else gS E i
def gOk (E : EvS) (i : Nat) : Bool := (gS E i).ok
def gN (E : EvS) (i : Nat) : Nat := (gS E i).n
def gAt (E : EvS) (i : Nat) : Int := (gS E i).at_
def gP (E : EvS) (i : Nat) (x : Int) : Bool := (gS E i).p x
def gV (E : EvS) (i : Nat) (x : Int) : Int := (gS E i).v x
def gEv (E : EvS) (i j : Nat) : Nat := (gS E i).ev j
def gEn (E : EvS) (i j : Nat) : Nat := (gS E i).en j
/-- A call's end: of the event ahead of number e; 0: it is open. -/
def cTo (E : EvS) (e : Nat) : Int := match e with | 0 => -1 | e + 1 => eAt E e
def cOv (e : Nat) : Bool := match e with | 0 => false | _ + 1 => true
def cRk (E : EvS) (e : Nat) : Int := match e with | 0 => 0 | e + 1 => eRk E e
def cRv (E : EvS) (e : Nat) : Int := match e with | 0 => 0 | e + 1 => eRv E e
def cNil (E : EvS) (e : Nat) : Bool := match e with | 0 => true | e + 1 => eNil E e
def cPn (E : EvS) (e : Nat) : Nat := match e with | 0 => 0 | e + 1 => ePn E e
def cPk (E : EvS) (e p : Nat) : Int := match e with | 0 => 0 | e + 1 => ePk E e p
def cPv (E : EvS) (e p : Nat) : Int := match e with | 0 => 0 | e + 1 => ePv E e p
abbrev kCl : List CK := [.int .i64, .int .i64, .int .i64, .int .u64, .int .u64, .int .u64, .int .i64, .int .i64, .int .i64, .bool, .int .i64, .int .u64, .ls [.int .u64, .int .u64]]
abbrev colsG (E : EvS) (i : Nat) : List Col := [.int .i64 (fun j => eId E (gEv E i j)), .int .i64 (fun j => eTh E (gEv E i j)), .int .i64 (fun j => eOk E (gEv E i j)), .int .u64 (fun j => eKey E (gEv E i j)), .int .u64 (fun j => eVal E (gEv E i j)), .int .u64 (fun j => eHi E (gEv E i j)), .int .i64 (fun j => eMost E (gEv E i j)), .int .i64 (fun j => eAt E (gEv E i j)), .int .i64 (fun j => cTo E (gEn E i j)), .bool (fun j => cOv (gEn E i j)), .int .i64 (fun j => cRk E (gEn E i j)), .int .u64 (fun j => cRv E (gEn E i j)), .ls (fun j => cNil E (gEn E i j)) (fun j => cPn E (gEn E i j)) [.int .u64 (fun j => cPk E (gEn E i j)), .int .u64 (fun j => cPv E (gEn E i j))]]
def prGn (E : EvS) (n i : Nat) : Prop := i ≤ n ∧ gOk E i = true
def mGn (n i : Nat) : Nat := n - i
abbrev slG (id k : Nat) : AV := .ysl false (yNeq k 0) id 13 0 k
def annGn (E : EvS) (n : Nat) (b : Nat) : Option (St → LoopA) :=
  match b with
  | 0 => some fun _ => { ι := Nat, tms := [4, 6, 14], tmU := fun i => [slG 1 (gN E i), .y .i64 (gAt E i), .y .i64 (yInt i)], ids := [0, 1], hpU := fun i => [.mapy .i64 .i64 (gP E i) (gV E i), .arr false 38 13 (gN E i) (colF (colsG E i))], del := [], ex := 1, pre := prGn E n, ms := mGn n }
  | _ => none
/-- Up to 200 events, of up to 50 pairs. -/
def preE (E : EvS) (n : Nat) : Bool := decide (n ≤ 200 ∧ ∀ i, i < n → ePn E i ≤ 50)
def resN (E : EvS) (n : Nat) : Nat := bif gOk E n then gN E n else 0
abbrev sEv : Sx := .pl kEv
abbrev rGn : Sx := .tup [.own 38 kCl, .sc]
abbrev dGn (E : EvS) (n : Nat) : Dx := .l [.rows (yNeq (resN E n) 0) (resN E n) (colsG E n), .v (.yb (gOk E n))]
def fRgE (ds : List Da) : Option (Bool × AV) :=
  match ds with
  | [.agg [.v (.y .i64 k), .v (.y .u64 _), .v (.y .u64 _), .v (.y .u64 _), .v (.y .i64 most)]] => some (true, .yb (rightE k most))
  | _ => none
abbrev gOp : List Ag := [.agg [none, none, none, none, none]]
def goalRgE : Prop := ∀ (k key val hi most : Int), wxF Try.prog noSm (fun _ => none) 1000 19 (canA gOp [.agg [.v (.y .i64 k), .v (.y .u64 key), .v (.y .u64 val), .v (.y .u64 hi), .v (.y .i64 most)]] []).1 (heapOf (canA gOp [.agg [.v (.y .i64 k), .v (.y .u64 key), .v (.y .u64 val), .v (.y .u64 hi), .v (.y .i64 most)]] []).2) (fun v _ => cmpC (.yb (rightE k most)) v)
def lGn : List (Nat × Sm) := [(19, .ct (ctS gOp fRgE)), (20, .ct (ctS gResult fSame))]
abbrev wxH (P : Program) (sm : FuncId → Option Sm) (ann : Nat → Option (St → LoopA)) (f : FuncId) (ss : List Sx) (ds : List Dx) (rs : Sx) (r : Dx) (post : List (List Dx)) : Prop :=
  wxF P sm ann 1000 f (canXs nmI ss ds []).1 (heapOf (canXs nmI ss ds []).2)
    (postX (canXs nmI ss ds []).2.length (delX 0 (canXs nmI ss ds []).2 (ptrId (canXs nmI ss ds []).1)) (ptrId (canXs nmI ss ds []).1) (expR (fun j => (canXs nmI ss ds []).2.length + j) (ptrSh ss ds) rs r post))
def fGn (ds : List Dx) : Option (Bool × Dx × List (List Dx)) :=
  match ds with
  | [.rows _ n [.int .i64 kd, .int .i64 th, .int .i64 id, .int .i64 at_, .int .i64 ok, .int .u64 key, .int .u64 val, .int .u64 hi, .int .i64 most, .int .i64 rk, .int .u64 rv, .ls nil pn [.int .u64 pk, .int .u64 pv]]] =>
    some (preE ⟨kd, th, id, at_, ok, key, val, hi, most, rk, rv, nil, pn, pk, pv⟩ n, dGn ⟨kd, th, id, at_, ok, key, val, hi, most, rk, rv, nil, pn, pk, pv⟩ n, [])
  | _ => none
def goalGn : Prop := ∀ (E : EvS) (nil : Bool) (n : Nat), preE E n = true → wxH Try.prog (smL lGn) (annGn E n) 15 [sEv] [.rows nil n (colsE E)] rGn (dGn E n) []
set_option maxRecDepth 100000 in
theorem goalRgE_eq : goalRgE = (∀ (k key val hi most : Int), (yEq k (4 : Int) = true → (yLe (1 : Int) most = true → rightE k most = yLe most (1000 : Int)) ∧ (yLe (1 : Int) most = false → rightE k most = false)) ∧ (yEq k (4 : Int) = false → (yLe (1 : Int) k = true → rightE k most = yLe k (3 : Int)) ∧ (yLe (1 : Int) k = false → rightE k most = false))) := by kernel_rfl
set_option maxRecDepth 100000 in
theorem goalGn_eq : goalGn = (∀ (E : EvS) (nil : Bool) (n : Nat), preE E n = true → true = true ∧ (∃ (i0 : Nat), prGn E n i0 ∧ true = true ∧ yNeq (gN E i0) (nat_lit 0) = true ∧ gN E i0 = nat_lit 0 ∧ gAt E i0 = (0 : Int) ∧ yInt i0 = (0 : Int) ∧ (∀ (x : Int), gP E i0 x = false) ∧ gN E i0 = nat_lit 0 ∧ true = true ∧ true = true) ∧ ∀ (g : Nat → AV) (i : Nat), prGn E n i → (yLt (yInt i) (yInt n) = true → (yIn (yInt i) n = true → (yLt (eAt E (yNat (yInt i))) (gAt E i) = true → yNeq (resN E n) (nat_lit 0) = true ∧ resN E n = nat_lit 0 ∧ gOk E n = false ∧ resN E n = nat_lit 0 ∧ true = true ∧ true = true) ∧ (yLt (eAt E (yNat (yInt i))) (gAt E i) = false → (yLt (eTh E (yNat (yInt i))) (0 : Int) = true → yNeq (resN E n) (nat_lit 0) = true ∧ resN E n = nat_lit 0 ∧ gOk E n = false ∧ resN E n = nat_lit 0 ∧ true = true ∧ true = true) ∧ (yLt (eTh E (yNat (yInt i))) (0 : Int) = false → (yEq (eKd E (yNat (yInt i))) (1 : Int) = true → (gP E i (eTh E (yNat (yInt i))) = true → yNeq (resN E n) (nat_lit 0) = true ∧ resN E n = nat_lit 0 ∧ gOk E n = false ∧ resN E n = nat_lit 0 ∧ true = true ∧ true = true) ∧ (gP E i (eTh E (yNat (yInt i))) = false → (yNot (yEq (eId E (yNat (yInt i))) (yWrap IntKind.i64 (yAdd (yInt (gN E i)) (1 : Int)))) = true → yNeq (resN E n) (nat_lit 0) = true ∧ resN E n = nat_lit 0 ∧ gOk E n = false ∧ resN E n = nat_lit 0 ∧ true = true ∧ true = true) ∧ (yNot (yEq (eId E (yNat (yInt i))) (yWrap IntKind.i64 (yAdd (yInt (gN E i)) (1 : Int)))) = false → (true = true → (yNot (rightE (eOk E (yNat (yInt i))) (eMost E (yNat (yInt i)))) = true → yNeq (resN E n) (nat_lit 0) = true ∧ resN E n = nat_lit 0 ∧ gOk E n = false ∧ resN E n = nat_lit 0 ∧ true = true ∧ true = true) ∧ (yNot (rightE (eOk E (yNat (yInt i))) (eMost E (yNat (yInt i)))) = false → ((yCol (CK.int IntKind.u64) (ePn E (yNat (yInt i))) fun (i_1 : Nat) => AV.y IntKind.u64 (ePk E (yNat (yInt i)) i_1)) = true → ((yCol (CK.int IntKind.u64) (ePn E (yNat (yInt i))) fun (i_1 : Nat) => AV.y IntKind.u64 (ePv E (yNat (yInt i)) i_1)) = true → (yNle (ePn E (yNat (yInt i))) (nat_lit 1000000) = true → (yNot (sameRes (eRk E (yNat (yInt i))) (eRv E (yNat (yInt i))) (ePn E (yNat (yInt i))) (fun (i_1 : Nat) => ePk E (yNat (yInt i)) i_1) (fun (i_1 : Nat) => ePv E (yNat (yInt i)) i_1) (0 : Int) (0 : Int) (nat_lit 0) (fun (i : Nat) => (0 : Int)) fun (i : Nat) => (0 : Int)) = true → yNeq (resN E n) (nat_lit 0) = true ∧ resN E n = nat_lit 0 ∧ gOk E n = false ∧ resN E n = nat_lit 0 ∧ true = true ∧ true = true) ∧ (yNot (sameRes (eRk E (yNat (yInt i))) (eRv E (yNat (yInt i))) (ePn E (yNat (yInt i))) (fun (i_1 : Nat) => ePk E (yNat (yInt i)) i_1) (fun (i_1 : Nat) => ePv E (yNat (yInt i)) i_1) (0 : Int) (0 : Int) (nat_lit 0) (fun (i : Nat) => (0 : Int)) fun (i : Nat) => (0 : Int)) = false → (yNeq (gN E i) (gN E i) = true → (yGrow (yNadd (gN E i) (nat_lit 1)) (nat_lit 120) = true → true = true ∧ ∃ (i' : Nat), prGn E n i' ∧ Nat.succ (mGn n i') ≤ mGn n i ∧ true = true ∧ yNeq (gN E i') (nat_lit 0) = yAnd (yNeq (gN E i) (nat_lit 0)) (yNeq (nat_lit 1) (nat_lit 0)) ∧ nat_lit 0 = nat_lit 0 ∧ gN E i' = yNadd (gN E i) (nat_lit 1) ∧ gAt E i' = eAt E (yNat (yInt i)) ∧ yInt i' = yWrap IntKind.i64 (yAdd (yInt i) (1 : Int)) ∧ (∀ (x : Int), gP E i' x = yOr (yEq x (eTh E (yNat (yInt i)))) (gP E i x) ∧ (gP E i' x = true → gV E i' x = ySel (yEq x (eTh E (yNat (yInt i)))) (yInt (gN E i)) (gV E i x))) ∧ gN E i' = yNadd (gN E i) (nat_lit 1) ∧ (∀ (i_1 : Nat), Nat.succ i_1 ≤ gN E i' → eId E (gEv E i' i_1) = ySel (yNlt i_1 (gN E i)) (eId E (gEv E i i_1)) (eId E (yNat (yInt i))) ∧ eTh E (gEv E i' i_1) = ySel (yNlt i_1 (gN E i)) (eTh E (gEv E i i_1)) (eTh E (yNat (yInt i))) ∧ eOk E (gEv E i' i_1) = ySel (yNlt i_1 (gN E i)) (eOk E (gEv E i i_1)) (eOk E (yNat (yInt i))) ∧ eKey E (gEv E i' i_1) = ySel (yNlt i_1 (gN E i)) (eKey E (gEv E i i_1)) (eKey E (yNat (yInt i))) ∧ eVal E (gEv E i' i_1) = ySel (yNlt i_1 (gN E i)) (eVal E (gEv E i i_1)) (eVal E (yNat (yInt i))) ∧ eHi E (gEv E i' i_1) = ySel (yNlt i_1 (gN E i)) (eHi E (gEv E i i_1)) (eHi E (yNat (yInt i))) ∧ eMost E (gEv E i' i_1) = ySel (yNlt i_1 (gN E i)) (eMost E (gEv E i i_1)) (eMost E (yNat (yInt i))) ∧ eAt E (gEv E i' i_1) = ySel (yNlt i_1 (gN E i)) (eAt E (gEv E i i_1)) (eAt E (yNat (yInt i))) ∧ cTo E (gEn E i' i_1) = ySel (yNlt i_1 (gN E i)) (cTo E (gEn E i i_1)) (-1 : Int) ∧ cOv (gEn E i' i_1) = ySelB (yNlt i_1 (gN E i)) (cOv (gEn E i i_1)) false ∧ cRk E (gEn E i' i_1) = ySel (yNlt i_1 (gN E i)) (cRk E (gEn E i i_1)) (0 : Int) ∧ cRv E (gEn E i' i_1) = ySel (yNlt i_1 (gN E i)) (cRv E (gEn E i i_1)) (0 : Int) ∧ (cNil E (gEn E i' i_1) = ySelB (yNlt i_1 (gN E i)) (cNil E (gEn E i i_1)) true ∧ cPn E (gEn E i' i_1) = ySelN (yNlt i_1 (gN E i)) (cPn E (gEn E i i_1)) (nat_lit 0) ∧ ∀ (i_2 : Nat), Nat.succ i_2 ≤ cPn E (gEn E i' i_1) → cPk E (gEn E i' i_1) i_2 = cPk E (gEn E i i_1) i_2 ∧ cPv E (gEn E i' i_1) i_2 = cPv E (gEn E i i_1) i_2 ∧ True) ∧ True) ∧ true = true) ∧ (yGrow (yNadd (gN E i) (nat_lit 1)) (nat_lit 120) = false → False)) ∧ (yNeq (gN E i) (gN E i) = false → False))) ∧ (yNle (ePn E (yNat (yInt i))) (nat_lit 1000000) = false → False)) ∧ ((yCol (CK.int IntKind.u64) (ePn E (yNat (yInt i))) fun (i_1 : Nat) => AV.y IntKind.u64 (ePv E (yNat (yInt i)) i_1)) = false → False)) ∧ ((yCol (CK.int IntKind.u64) (ePn E (yNat (yInt i))) fun (i_1 : Nat) => AV.y IntKind.u64 (ePk E (yNat (yInt i)) i_1)) = false → False))) ∧ (true = false → False)))) ∧ (yEq (eKd E (yNat (yInt i))) (1 : Int) = false → (yEq (eKd E (yNat (yInt i))) (2 : Int) = true → (gP E i (eTh E (yNat (yInt i))) = true → (yIn (ySel (gP E i (eTh E (yNat (yInt i)))) (gV E i (eTh E (yNat (yInt i)))) (0 : Int)) (gN E i) = true → (yNlt (yNadd (nat_lit 0) (yNat (ySel (gP E i (eTh E (yNat (yInt i)))) (gV E i (eTh E (yNat (yInt i)))) (0 : Int)))) (gN E i) = true → (yNot (yEq (eId E (gEv E i (yNadd (nat_lit 0) (yNat (ySel (gP E i (eTh E (yNat (yInt i)))) (gV E i (eTh E (yNat (yInt i)))) (0 : Int)))))) (eId E (yNat (yInt i)))) = true → yNeq (resN E n) (nat_lit 0) = true ∧ resN E n = nat_lit 0 ∧ gOk E n = false ∧ resN E n = nat_lit 0 ∧ true = true ∧ true = true) ∧ (yNot (yEq (eId E (gEv E i (yNadd (nat_lit 0) (yNat (ySel (gP E i (eTh E (yNat (yInt i)))) (gV E i (eTh E (yNat (yInt i)))) (0 : Int)))))) (eId E (yNat (yInt i)))) = false → (yIn (ySel (gP E i (eTh E (yNat (yInt i)))) (gV E i (eTh E (yNat (yInt i)))) (0 : Int)) (gN E i) = true → (yNlt (yNadd (nat_lit 0) (yNat (ySel (gP E i (eTh E (yNat (yInt i)))) (gV E i (eTh E (yNat (yInt i)))) (0 : Int)))) (gN E i) = true → (yNot (yAnd (yEq (eOk E (gEv E i (yNadd (nat_lit 0) (yNat (ySel (gP E i (eTh E (yNat (yInt i)))) (gV E i (eTh E (yNat (yInt i)))) (0 : Int)))))) (eOk E (yNat (yInt i)))) (yAnd (yEq (eKey E (gEv E i (yNadd (nat_lit 0) (yNat (ySel (gP E i (eTh E (yNat (yInt i)))) (gV E i (eTh E (yNat (yInt i)))) (0 : Int)))))) (eKey E (yNat (yInt i)))) (yAnd (yEq (eVal E (gEv E i (yNadd (nat_lit 0) (yNat (ySel (gP E i (eTh E (yNat (yInt i)))) (gV E i (eTh E (yNat (yInt i)))) (0 : Int)))))) (eVal E (yNat (yInt i)))) (yAnd (yEq (eHi E (gEv E i (yNadd (nat_lit 0) (yNat (ySel (gP E i (eTh E (yNat (yInt i)))) (gV E i (eTh E (yNat (yInt i)))) (0 : Int)))))) (eHi E (yNat (yInt i)))) (yAnd (yEq (eMost E (gEv E i (yNadd (nat_lit 0) (yNat (ySel (gP E i (eTh E (yNat (yInt i)))) (gV E i (eTh E (yNat (yInt i)))) (0 : Int)))))) (eMost E (yNat (yInt i)))) true))))) = true → yNeq (resN E n) (nat_lit 0) = true ∧ resN E n = nat_lit 0 ∧ gOk E n = false ∧ resN E n = nat_lit 0 ∧ true = true ∧ true = true) ∧ (yNot (yAnd (yEq (eOk E (gEv E i (yNadd (nat_lit 0) (yNat (ySel (gP E i (eTh E (yNat (yInt i)))) (gV E i (eTh E (yNat (yInt i)))) (0 : Int)))))) (eOk E (yNat (yInt i)))) (yAnd (yEq (eKey E (gEv E i (yNadd (nat_lit 0) (yNat (ySel (gP E i (eTh E (yNat (yInt i)))) (gV E i (eTh E (yNat (yInt i)))) (0 : Int)))))) (eKey E (yNat (yInt i)))) (yAnd (yEq (eVal E (gEv E i (yNadd (nat_lit 0) (yNat (ySel (gP E i (eTh E (yNat (yInt i)))) (gV E i (eTh E (yNat (yInt i)))) (0 : Int)))))) (eVal E (yNat (yInt i)))) (yAnd (yEq (eHi E (gEv E i (yNadd (nat_lit 0) (yNat (ySel (gP E i (eTh E (yNat (yInt i)))) (gV E i (eTh E (yNat (yInt i)))) (0 : Int)))))) (eHi E (yNat (yInt i)))) (yAnd (yEq (eMost E (gEv E i (yNadd (nat_lit 0) (yNat (ySel (gP E i (eTh E (yNat (yInt i)))) (gV E i (eTh E (yNat (yInt i)))) (0 : Int)))))) (eMost E (yNat (yInt i)))) true))))) = false → (yIn (ySel (gP E i (eTh E (yNat (yInt i)))) (gV E i (eTh E (yNat (yInt i)))) (0 : Int)) (gN E i) = true → (yNlt (yNadd (nat_lit 0) (yNat (ySel (gP E i (eTh E (yNat (yInt i)))) (gV E i (eTh E (yNat (yInt i)))) (0 : Int)))) (gN E i) = true → (yIn (ySel (gP E i (eTh E (yNat (yInt i)))) (gV E i (eTh E (yNat (yInt i)))) (0 : Int)) (gN E i) = true → (yNlt (yNadd (nat_lit 0) (yNat (ySel (gP E i (eTh E (yNat (yInt i)))) (gV E i (eTh E (yNat (yInt i)))) (0 : Int)))) (gN E i) = true → (yIn (ySel (gP E i (eTh E (yNat (yInt i)))) (gV E i (eTh E (yNat (yInt i)))) (0 : Int)) (gN E i) = true → (yNlt (yNadd (nat_lit 0) (yNat (ySel (gP E i (eTh E (yNat (yInt i)))) (gV E i (eTh E (yNat (yInt i)))) (0 : Int)))) (gN E i) = true → true = true ∧ ∃ (i' : Nat), prGn E n i' ∧ Nat.succ (mGn n i') ≤ mGn n i ∧ true = true ∧ yNeq (gN E i') (nat_lit 0) = yNeq (gN E i) (nat_lit 0) ∧ nat_lit 0 = nat_lit 0 ∧ gN E i' = gN E i ∧ gAt E i' = eAt E (yNat (yInt i)) ∧ yInt i' = yWrap IntKind.i64 (yAdd (yInt i) (1 : Int)) ∧ (∀ (x : Int), gP E i' x = yAnd (yNot (yEq x (eTh E (yNat (yInt i))))) (gP E i x) ∧ (gP E i' x = true → gV E i' x = gV E i x)) ∧ gN E i' = gN E i ∧ (∀ (i_1 : Nat), Nat.succ i_1 ≤ gN E i' → eId E (gEv E i' i_1) = eId E (gEv E i i_1) ∧ eTh E (gEv E i' i_1) = eTh E (gEv E i i_1) ∧ eOk E (gEv E i' i_1) = eOk E (gEv E i i_1) ∧ eKey E (gEv E i' i_1) = eKey E (gEv E i i_1) ∧ eVal E (gEv E i' i_1) = eVal E (gEv E i i_1) ∧ eHi E (gEv E i' i_1) = eHi E (gEv E i i_1) ∧ eMost E (gEv E i' i_1) = eMost E (gEv E i i_1) ∧ eAt E (gEv E i' i_1) = eAt E (gEv E i i_1) ∧ cTo E (gEn E i' i_1) = ySel (yNeq i_1 (yNadd (nat_lit 0) (yNat (ySel (gP E i (eTh E (yNat (yInt i)))) (gV E i (eTh E (yNat (yInt i)))) (0 : Int))))) (eAt E (yNat (yInt i))) (cTo E (gEn E i i_1)) ∧ cOv (gEn E i' i_1) = ySelB (yNeq i_1 (yNadd (nat_lit 0) (yNat (ySel (gP E i (eTh E (yNat (yInt i)))) (gV E i (eTh E (yNat (yInt i)))) (0 : Int))))) true (cOv (gEn E i i_1)) ∧ cRk E (gEn E i' i_1) = ySel (yNeq i_1 (yNadd (nat_lit 0) (yNat (ySel (gP E i (eTh E (yNat (yInt i)))) (gV E i (eTh E (yNat (yInt i)))) (0 : Int))))) (eRk E (yNat (yInt i))) (cRk E (gEn E i i_1)) ∧ cRv E (gEn E i' i_1) = ySel (yNeq i_1 (yNadd (nat_lit 0) (yNat (ySel (gP E i (eTh E (yNat (yInt i)))) (gV E i (eTh E (yNat (yInt i)))) (0 : Int))))) (eRv E (yNat (yInt i))) (cRv E (gEn E i i_1)) ∧ (cNil E (gEn E i' i_1) = ySelB (yNeq i_1 (yNadd (nat_lit 0) (yNat (ySel (gP E i (eTh E (yNat (yInt i)))) (gV E i (eTh E (yNat (yInt i)))) (0 : Int))))) (eNil E (yNat (yInt i))) (cNil E (gEn E i i_1)) ∧ cPn E (gEn E i' i_1) = ySelN (yNeq i_1 (yNadd (nat_lit 0) (yNat (ySel (gP E i (eTh E (yNat (yInt i)))) (gV E i (eTh E (yNat (yInt i)))) (0 : Int))))) (ePn E (yNat (yInt i))) (cPn E (gEn E i i_1)) ∧ ∀ (i_2 : Nat), Nat.succ i_2 ≤ cPn E (gEn E i' i_1) → cPk E (gEn E i' i_1) i_2 = ySel (yNeq i_1 (yNadd (nat_lit 0) (yNat (ySel (gP E i (eTh E (yNat (yInt i)))) (gV E i (eTh E (yNat (yInt i)))) (0 : Int))))) (ePk E (yNat (yInt i)) i_2) (cPk E (gEn E i i_1) i_2) ∧ cPv E (gEn E i' i_1) i_2 = ySel (yNeq i_1 (yNadd (nat_lit 0) (yNat (ySel (gP E i (eTh E (yNat (yInt i)))) (gV E i (eTh E (yNat (yInt i)))) (0 : Int))))) (ePv E (yNat (yInt i)) i_2) (cPv E (gEn E i i_1) i_2) ∧ True) ∧ True) ∧ true = true) ∧ (yNlt (yNadd (nat_lit 0) (yNat (ySel (gP E i (eTh E (yNat (yInt i)))) (gV E i (eTh E (yNat (yInt i)))) (0 : Int)))) (gN E i) = false → False)) ∧ (yIn (ySel (gP E i (eTh E (yNat (yInt i)))) (gV E i (eTh E (yNat (yInt i)))) (0 : Int)) (gN E i) = false → False)) ∧ (yNlt (yNadd (nat_lit 0) (yNat (ySel (gP E i (eTh E (yNat (yInt i)))) (gV E i (eTh E (yNat (yInt i)))) (0 : Int)))) (gN E i) = false → False)) ∧ (yIn (ySel (gP E i (eTh E (yNat (yInt i)))) (gV E i (eTh E (yNat (yInt i)))) (0 : Int)) (gN E i) = false → False)) ∧ (yNlt (yNadd (nat_lit 0) (yNat (ySel (gP E i (eTh E (yNat (yInt i)))) (gV E i (eTh E (yNat (yInt i)))) (0 : Int)))) (gN E i) = false → False)) ∧ (yIn (ySel (gP E i (eTh E (yNat (yInt i)))) (gV E i (eTh E (yNat (yInt i)))) (0 : Int)) (gN E i) = false → False))) ∧ (yNlt (yNadd (nat_lit 0) (yNat (ySel (gP E i (eTh E (yNat (yInt i)))) (gV E i (eTh E (yNat (yInt i)))) (0 : Int)))) (gN E i) = false → False)) ∧ (yIn (ySel (gP E i (eTh E (yNat (yInt i)))) (gV E i (eTh E (yNat (yInt i)))) (0 : Int)) (gN E i) = false → False))) ∧ (yNlt (yNadd (nat_lit 0) (yNat (ySel (gP E i (eTh E (yNat (yInt i)))) (gV E i (eTh E (yNat (yInt i)))) (0 : Int)))) (gN E i) = false → False)) ∧ (yIn (ySel (gP E i (eTh E (yNat (yInt i)))) (gV E i (eTh E (yNat (yInt i)))) (0 : Int)) (gN E i) = false → False)) ∧ (gP E i (eTh E (yNat (yInt i))) = false → yNeq (resN E n) (nat_lit 0) = true ∧ resN E n = nat_lit 0 ∧ gOk E n = false ∧ resN E n = nat_lit 0 ∧ true = true ∧ true = true)) ∧ (yEq (eKd E (yNat (yInt i))) (2 : Int) = false → yNeq (resN E n) (nat_lit 0) = true ∧ resN E n = nat_lit 0 ∧ gOk E n = false ∧ resN E n = nat_lit 0 ∧ true = true ∧ true = true))))) ∧ (yIn (yInt i) n = false → False)) ∧ (yLt (yInt i) (yInt n) = false → yNeq (resN E n) (nat_lit 0) = yNeq (gN E i) (nat_lit 0) ∧ nat_lit 0 = nat_lit 0 ∧ resN E n = gN E i ∧ gOk E n = true ∧ resN E n = gN E i ∧ (∀ (i_1 : Nat), Nat.succ i_1 ≤ resN E n → eId E (gEv E n i_1) = eId E (gEv E i i_1) ∧ eTh E (gEv E n i_1) = eTh E (gEv E i i_1) ∧ eOk E (gEv E n i_1) = eOk E (gEv E i i_1) ∧ eKey E (gEv E n i_1) = eKey E (gEv E i i_1) ∧ eVal E (gEv E n i_1) = eVal E (gEv E i i_1) ∧ eHi E (gEv E n i_1) = eHi E (gEv E i i_1) ∧ eMost E (gEv E n i_1) = eMost E (gEv E i i_1) ∧ eAt E (gEv E n i_1) = eAt E (gEv E i i_1) ∧ cTo E (gEn E n i_1) = cTo E (gEn E i i_1) ∧ cOv (gEn E n i_1) = cOv (gEn E i i_1) ∧ cRk E (gEn E n i_1) = cRk E (gEn E i i_1) ∧ cRv E (gEn E n i_1) = cRv E (gEn E i i_1) ∧ (cNil E (gEn E n i_1) = cNil E (gEn E i i_1) ∧ cPn E (gEn E n i_1) = cPn E (gEn E i i_1) ∧ ∀ (i_2 : Nat), Nat.succ i_2 ≤ cPn E (gEn E n i_1) → cPk E (gEn E n i_1) i_2 = cPk E (gEn E i i_1) i_2 ∧ cPv E (gEn E n i_1) i_2 = cPv E (gEn E i i_1) i_2 ∧ True) ∧ True) ∧ true = true)) := by kernel_rfl
set_option maxRecDepth 100000 in
theorem goalRgE_ok : goalRgE := by
  refine @kernel_go _ _ goalRgE_eq ?_
  intro k _ _ _ most
  unfold rightE
  refine ⟨fun h => ?_, fun h => ?_⟩
  · rw [h]
    exact ⟨fun h2 => by simp only [cond_true]; rw [h2]; rfl, fun h2 => by simp only [cond_true]; rw [h2]; rfl⟩
  · rw [h]
    exact ⟨fun h2 => by simp only [cond_false]; rw [h2]; rfl, fun h2 => by simp only [cond_false]; rw [h2]; rfl⟩
theorem gS_step {E : EvS} {i : Nat} (h : gOk E i = true) : gS E (i + 1) = gs1 E i (gS E i) := by
  have h : (gS E i).ok = true := h
  show (bif (gS E i).ok then gs1 E i (gS E i) else gS E i) = _
  rw [h]; rfl
theorem gOk_stay {E : EvS} {i : Nat} (h : gOk E i = false) : ∀ k, gOk E (i + k) = false
  | 0 => h
  | k + 1 => by
    have ih : (gS E (i + k)).ok = false := gOk_stay h k
    show (bif (gS E (i + k)).ok then gs1 E (i + k) (gS E (i + k)) else gS E (i + k)).ok = false
    rw [ih]; exact ih
theorem gBad {E : EvS} {i n : Nat} (hin : i < n) (h : (gs1 E i (gS E i)).ok = false) (hok : gOk E i = true) : resN E n = 0 ∧ resN E n = 0 ∧ gOk E n = false ∧ resN E n = 0 := by
  have h1 : gOk E (i + 1) = false := by
    show (gS E (i + 1)).ok = false
    rw [gS_step hok]; exact h
  have h2 := gOk_stay h1 (n - (i + 1))
  rw [show i + 1 + (n - (i + 1)) = n by omega] at h2
  have h3 : resN E n = 0 := by unfold resN; rw [h2]; rfl
  exact ⟨h3, h3, h2, h3⟩
theorem gs1_f1 {E : EvS} {i : Nat} {g : GS} (h : eAt E i < g.at_ ∨ eTh E i < 0) : (gs1 E i g).ok = false := by unfold gs1; rw [if_pos h]
theorem gs1_f2 {E : EvS} {i : Nat} {g : GS} (h1 : ¬ (eAt E i < g.at_ ∨ eTh E i < 0)) (h2 : eKd E i = 1) (h : g.p (eTh E i) = true ∨ eId E i ≠ g.n + 1 ∨ rightE (eOk E i) (eMost E i) = false ∨ zeroR E i = false) : (gs1 E i g).ok = false := by
  unfold gs1; rw [if_neg h1, if_pos h2, if_pos h]
theorem gs1_t2 {E : EvS} {i : Nat} {g : GS} (h1 : ¬ (eAt E i < g.at_ ∨ eTh E i < 0)) (h2 : eKd E i = 1) (h : ¬ (g.p (eTh E i) = true ∨ eId E i ≠ g.n + 1 ∨ rightE (eOk E i) (eMost E i) = false ∨ zeroR E i = false)) :
    gs1 E i g = { ok := true, n := g.n + 1, at_ := eAt E i, p := fun x => yOr (yEq x (eTh E i)) (g.p x), v := fun x => ySel (yEq x (eTh E i)) g.n (g.v x), ev := fun j => if j = g.n then i else g.ev j, en := fun j => if j = g.n then 0 else g.en j } := by
  unfold gs1; rw [if_neg h1, if_pos h2, if_neg h]
theorem gs1_f3 {E : EvS} {i : Nat} {g : GS} (h1 : ¬ (eAt E i < g.at_ ∨ eTh E i < 0)) (h2 : eKd E i ≠ 1) (h3 : eKd E i = 2) (h : g.p (eTh E i) = false ∨ eId E (g.ev (g.v (eTh E i)).toNat) ≠ eId E i ∨ sameOp E (g.ev (g.v (eTh E i)).toNat) i = false) : (gs1 E i g).ok = false := by
  unfold gs1; rw [if_neg h1, if_neg h2, if_pos h3, if_pos h]
theorem gs1_t3 {E : EvS} {i : Nat} {g : GS} (h1 : ¬ (eAt E i < g.at_ ∨ eTh E i < 0)) (h2 : eKd E i ≠ 1) (h3 : eKd E i = 2) (h : ¬ (g.p (eTh E i) = false ∨ eId E (g.ev (g.v (eTh E i)).toNat) ≠ eId E i ∨ sameOp E (g.ev (g.v (eTh E i)).toNat) i = false)) :
    gs1 E i g = { g with at_ := eAt E i, p := fun x => yAnd (yNot (yEq x (eTh E i))) (g.p x), en := fun j => if j = (g.v (eTh E i)).toNat then i + 1 else g.en j } := by
  unfold gs1; rw [if_neg h1, if_neg h2, if_pos h3, if_neg h]
theorem gs1_f4 {E : EvS} {i : Nat} {g : GS} (h1 : ¬ (eAt E i < g.at_ ∨ eTh E i < 0)) (h2 : eKd E i ≠ 1) (h3 : eKd E i ≠ 2) : (gs1 E i g).ok = false := by
  unfold gs1; rw [if_neg h1, if_neg h2, if_neg h3]
/-- The ways of a round. -/
theorem gs1_cases (E : EvS) (i : Nat) (g : GS) : (gs1 E i g = { g with ok := false }) ∨
    (eKd E i = 1 ∧ ¬ (eAt E i < g.at_ ∨ eTh E i < 0) ∧ ¬ (g.p (eTh E i) = true ∨ eId E i ≠ g.n + 1 ∨ rightE (eOk E i) (eMost E i) = false ∨ zeroR E i = false)) ∨
    (eKd E i = 2 ∧ ¬ (eAt E i < g.at_ ∨ eTh E i < 0) ∧ ¬ (g.p (eTh E i) = false ∨ eId E (g.ev (g.v (eTh E i)).toNat) ≠ eId E i ∨ sameOp E (g.ev (g.v (eTh E i)).toNat) i = false)) := by
  unfold gs1
  by_cases h1 : eAt E i < g.at_ ∨ eTh E i < 0
  · rw [if_pos h1]; exact .inl rfl
  · rw [if_neg h1]
    by_cases h2 : eKd E i = 1
    · rw [if_pos h2]
      by_cases h3 : g.p (eTh E i) = true ∨ eId E i ≠ g.n + 1 ∨ rightE (eOk E i) (eMost E i) = false ∨ zeroR E i = false
      · rw [if_pos h3]; exact .inl rfl
      · exact .inr (.inl ⟨h2, h1, h3⟩)
    · rw [if_neg h2]
      by_cases h3 : eKd E i = 2
      · rw [if_pos h3]
        by_cases h4 : g.p (eTh E i) = false ∨ eId E (g.ev (g.v (eTh E i)).toNat) ≠ eId E i ∨ sameOp E (g.ev (g.v (eTh E i)).toNat) i = false
        · rw [if_pos h4]; exact .inl rfl
        · exact .inr (.inr ⟨h3, h1, h4⟩)
      · rw [if_neg h3]; exact .inl rfl
/-- What holds throughout: the open calls are calls. -/
structure GInv (g : GS) (i : Nat) : Prop where
  le : g.n ≤ i
  v : ∀ x, g.p x = true → 0 ≤ g.v x ∧ g.v x < g.n
theorem gInv (E : EvS) : ∀ i, GInv (gS E i) i
  | 0 => ⟨Nat.le_refl _, fun x h => by cases h⟩
  | i + 1 => by
    have ih := gInv E i
    show GInv (bif (gS E i).ok then gs1 E i (gS E i) else gS E i) (i + 1)
    cases hok : (gS E i).ok with
    | false => exact ⟨Nat.le_succ_of_le ih.le, ih.v⟩
    | true =>
      rw [cond_true]
      rcases gs1_cases E i (gS E i) with h | ⟨h2, h1, h3⟩ | ⟨h3, h1, h4⟩
      · rw [h]; exact ⟨Nat.le_succ_of_le ih.le, ih.v⟩
      · rw [gs1_t2 h1 h2 h3]
        refine ⟨Nat.succ_le_succ ih.le, fun x hx => ?_⟩
        show 0 ≤ ySel (yEq x (eTh E i)) ((gS E i).n : Int) ((gS E i).v x) ∧ ySel (yEq x (eTh E i)) ((gS E i).n : Int) ((gS E i).v x) < (((gS E i).n + 1 : Nat) : Int)
        have hx : yOr (yEq x (eTh E i)) ((gS E i).p x) = true := hx
        cases hq : yEq x (eTh E i) with
        | true =>
          show 0 ≤ ((gS E i).n : Int) ∧ ((gS E i).n : Int) < _
          omega
        | false =>
          rw [hq] at hx
          have := ih.v x hx
          show 0 ≤ (gS E i).v x ∧ (gS E i).v x < _
          omega
      · rw [gs1_t3 h1 (by omega) h3 h4]
        refine ⟨Nat.le_succ_of_le ih.le, fun x hx => ih.v x ?_⟩
        have hx : yAnd (yNot (yEq x (eTh E i))) ((gS E i).p x) = true := hx
        simp only [yAnd_t] at hx
        exact hx.2
set_option maxRecDepth 100000 in
theorem goalGn_ok : goalGn := by
  refine @kernel_go _ _ goalGn_eq ?_
  intro E nil n hpre
  obtain ⟨hn, hp⟩ := of_decide_eq_true hpre
  simp only [yNot_t, yNot_f, yEq_t, yEq_f, yAnd_t, yAnd_f, yOr_t, yOr_f, yIff_t, yIff_f, yLt_t, yLt_f, yLe_t, yLe_f, yIn_t, yIn_f, yNlt_t, yNlt_f, yNle_t, yNle_f, yNeq_t, yNeq_f, yGrow_t, yGrow_f, yInt_e, yNat_e, yNadd_e, yNsub_e, yAdd_e, ySub_e, yMul_e, yCol_int, yCol_bool, true_and, and_true, Nat.zero_add, Nat.add_zero, Nat.le_refl, forall_const, true_implies, Bool.true_eq_false, Bool.false_eq_true, false_implies, reduceCtorEq]
  refine ⟨⟨0, ⟨Nat.zero_le _, rfl⟩, rfl, rfl, rfl, rfl, fun _ => rfl, rfl⟩, fun _ i hi => ?_⟩
  obtain ⟨hle, hok⟩ := hi
  have hI := gInv E i
  have hN : gN E i ≤ i := hI.le
  have w0 : yWrap .i64 ((gN E i : Int) + 1) = (gN E i : Int) + 1 := wrap64 (by omega) (by omega)
  have w1 : yWrap .i64 ((i : Int) + 1) = ((i + 1 : Nat) : Int) := by rw [wrap64 (by omega) (by omega)]; omega
  rw [w0]
  simp only [w1]
  refine ⟨fun hlt => ⟨fun _ => ?_, fun h => h ⟨by omega, hlt⟩⟩, fun hge => ?_⟩
  · have hin : i < n := by omega
    have hm : (mGn n (i + 1)).succ ≤ mGn n i := by unfold mGn; omega
    refine ⟨fun h1 => gBad hin (gs1_f1 (.inl h1)) hok, fun h1 => ⟨fun h2 => gBad hin (gs1_f1 (.inr h2)) hok, fun h2 => ?_⟩⟩
    have h12 : ¬ (eAt E i < (gS E i).at_ ∨ eTh E i < 0) := by
      have h1 : (gS E i).at_ ≤ eAt E i := h1
      omega
    refine ⟨fun h3 => ?_, fun h3 => ⟨fun h4 => ?_, fun h4 => gBad hin (gs1_f4 h12 h3 h4) hok⟩⟩
    · refine ⟨fun h4 => gBad hin (gs1_f2 h12 h3 (.inl h4)) hok, fun h4 => ⟨fun h5 => gBad hin (gs1_f2 h12 h3 (.inr (.inl h5))) hok, fun h5 => ⟨fun h6 => gBad hin (gs1_f2 h12 h3 (.inr (.inr (.inl h6)))) hok, fun h6 => ⟨fun _ => ⟨fun h7 => gBad hin (gs1_f2 h12 h3 (.inr (.inr (.inr h7)))) hok, fun h7 => ⟨⟨fun _ => ?_, fun h => ?_⟩, fun h => absurd rfl h⟩⟩, fun h => ?_⟩⟩⟩⟩
      · have hne : ¬ ((gS E i).p (eTh E i) = true ∨ eId E i ≠ (gS E i).n + 1 ∨ rightE (eOk E i) (eMost E i) = false ∨ zeroR E i = false) := by
          rintro (h | h | h | h)
          · exact Bool.noConfusion (h.symm.trans h4)
          · exact h h5
          · exact Bool.noConfusion (h.symm.trans h6)
          · exact Bool.noConfusion (h.symm.trans h7)
        have hS := (gS_step hok).trans (gs1_t2 h12 h3 hne)
        have eN : gN E (i + 1) = gN E i + 1 := by unfold gN; rw [hS]
        have eP : ∀ x, gP E (i + 1) x = yOr (yEq x (eTh E i)) (gP E i x) := fun x => by unfold gP; rw [hS]
        have eV : ∀ x, gV E (i + 1) x = ySel (yEq x (eTh E i)) (gN E i) (gV E i x) := fun x => by unfold gV gN; rw [hS]
        have eEv : ∀ q, gEv E (i + 1) q = if q = gN E i then i else gEv E i q := fun q => by unfold gEv gN; rw [hS]
        have eEn : ∀ q, gEn E (i + 1) q = if q = gN E i then 0 else gEn E i q := fun q => by unfold gEn gN; rw [hS]
        refine ⟨i + 1, ⟨hin, by unfold gOk; rw [hS]⟩, hm, ?_, eN, by unfold gAt; rw [hS], rfl, fun x => ⟨eP x, fun _ => eV x⟩, eN, fun q hq => ?_⟩
        · rw [eN]
          have e1 : yNeq (gN E i + 1) 0 = false := by simp only [yNeq_f]; omega
          have e2 : yNeq 1 0 = false := rfl
          rw [e1, e2]
          cases yNeq (gN E i) 0 <;> rfl
        · rw [eN] at hq
          rw [eEv, eEn]
          rcases Nat.lt_or_ge q (gN E i) with h | h
          · have hb : yNlt q (gN E i) = true := decide_eq_true h
            rw [if_neg (by omega), if_neg (by omega), hb]
            exact ⟨rfl, rfl, rfl, rfl, rfl, rfl, rfl, rfl, rfl, rfl, rfl, rfl, rfl, rfl, fun _ _ => ⟨rfl, rfl⟩⟩
          · obtain rfl : q = gN E i := by omega
            have hb : yNlt (gN E i) (gN E i) = false := decide_eq_false (by omega)
            rw [if_pos rfl, if_pos rfl, hb]
            exact ⟨rfl, rfl, rfl, rfl, rfl, rfl, rfl, rfl, rfl, rfl, rfl, rfl, rfl, rfl, fun p hp => absurd hp (Nat.not_succ_le_zero p)⟩
      · omega
      · have := hp i hin; omega
    · refine ⟨fun h5 => ?_, fun h5 => gBad hin (gs1_f3 h12 h3 h4 (.inl h5)) hok⟩
      obtain ⟨j0, j1⟩ := hI.v _ h5
      have j0 : 0 ≤ gV E i (eTh E i) := j0
      have j1 : gV E i (eTh E i) < gN E i := j1
      have hs : ySel (gP E i (eTh E i)) (gV E i (eTh E i)) 0 = gV E i (eTh E i) := by rw [h5]; rfl
      have j2 : yNat (gV E i (eTh E i)) < gN E i := by unfold yNat; omega
      simp only [hs]
      refine ⟨fun _ => ⟨fun _ => ⟨fun h6 => gBad hin (gs1_f3 h12 h3 h4 (.inr (.inl h6))) hok, fun h6 => ⟨fun _ => ⟨fun _ => ⟨fun h7 => gBad hin (gs1_f3 h12 h3 h4 (.inr (.inr ?_))) hok, fun h7 => ⟨fun _ => ⟨fun _ => ⟨fun _ => ⟨fun _ => ⟨fun _ => ⟨fun _ => ?_, fun h => ?_⟩, fun h => h ⟨j0, j1⟩⟩, fun h => ?_⟩, fun h => h ⟨j0, j1⟩⟩, fun h => ?_⟩, fun h => h ⟨j0, j1⟩⟩⟩, fun h => ?_⟩, fun h => h ⟨j0, j1⟩⟩⟩, fun h => ?_⟩, fun h => h ⟨j0, j1⟩⟩
      · show sameOp E (gEv E i (yNat (gV E i (eTh E i)))) i = false
        simpa [sameOp, yAnd_f, yEq_f] using h7
      · have hop : sameOp E (gEv E i (yNat (gV E i (eTh E i)))) i = true := by
          simp only [sameOp, yAnd_t, yEq_t]; exact h7
        have hne : ¬ ((gS E i).p (eTh E i) = false ∨ eId E ((gS E i).ev ((gS E i).v (eTh E i)).toNat) ≠ eId E i ∨ sameOp E ((gS E i).ev ((gS E i).v (eTh E i)).toNat) i = false) := by
          rintro (h | h | h)
          · exact Bool.noConfusion (h.symm.trans h5)
          · exact h h6
          · exact Bool.noConfusion (h.symm.trans hop)
        have hS := (gS_step hok).trans (gs1_t3 h12 h3 h4 hne)
        have eN : gN E (i + 1) = gN E i := by unfold gN; rw [hS]
        have eP : ∀ x, gP E (i + 1) x = yAnd (yNot (yEq x (eTh E i))) (gP E i x) := fun x => by unfold gP; rw [hS]
        have eV : ∀ x, gV E (i + 1) x = gV E i x := fun x => by unfold gV; rw [hS]
        have eEv : ∀ q, gEv E (i + 1) q = gEv E i q := fun q => by unfold gEv; rw [hS]
        have eEn : ∀ q, gEn E (i + 1) q = if q = yNat (gV E i (eTh E i)) then i + 1 else gEn E i q := fun q => by unfold gEn gV yNat; rw [hS]
        refine ⟨i + 1, ⟨hin, by unfold gOk; rw [hS]; exact hok⟩, hm, by rw [eN], eN, by unfold gAt; rw [hS], rfl, fun x => ⟨eP x, fun _ => eV x⟩, eN, fun q hq => ?_⟩
        rw [eEv, eEn]
        by_cases h : q = yNat (gV E i (eTh E i))
        · have hb : yNeq q (yNat (gV E i (eTh E i))) = true := decide_eq_true h
          rw [if_pos h, hb]
          exact ⟨rfl, rfl, rfl, rfl, rfl, rfl, rfl, rfl, rfl, rfl, rfl, rfl, rfl, rfl, fun _ _ => ⟨rfl, rfl⟩⟩
        · have hb : yNeq q (yNat (gV E i (eTh E i))) = false := decide_eq_false h
          rw [if_neg h, hb]
          exact ⟨rfl, rfl, rfl, rfl, rfl, rfl, rfl, rfl, rfl, rfl, rfl, rfl, rfl, rfl, fun _ _ => ⟨rfl, rfl⟩⟩
      all_goals omega
  · obtain rfl : i = n := by omega
    have hr : resN E i = gN E i := by unfold resN; rw [hok]; rfl
    exact ⟨by rw [hr], hr, hok, hr, fun q _ => ⟨rfl, rfl, rfl, rfl, rfl, rfl, rfl, rfl, rfl, rfl, rfl, rfl, rfl, rfl, fun _ _ => ⟨rfl, rfl⟩⟩⟩
set_option maxRecDepth 100000 in
theorem smGn (hm : Try.prog.follows .mixedOrders = true) (hs : SmOK Try.prog (smL lGn)) : SmCall Try.prog 15 (fun args h => (ctX [sEv] rGn fGn args h).sel) :=
  ctX_ok hm hs (fun ds r post h => by
    unfold fGn at h
    split at h
    · rename_i nil n kd th id at_ ok key val hi most rk rv nl pn pk pv
      simp only [Option.some.injEq, Prod.mk.injEq] at h
      obtain ⟨h1, rfl, rfl⟩ := h
      refine ⟨annGn ⟨kd, th, id, at_, ok, key, val, hi, most, rk, rv, nl, pn, pk, pv⟩ n, 1000, ?_⟩
      have h2 := @goalGn_ok
      unfold goalGn at h2
      exact @h2 ⟨kd, th, id, at_, ok, key, val, hi, most, rk, rv, nl, pn, pk, pv⟩ nil n h1
    · cases h)
end Go.Proofs.Ytalifabdjolkhaa.Ex
