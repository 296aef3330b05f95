/- The abstract machine: what a run of closed code computes, as a function. The abstract machine: regions that draw their order, and code. -/
import Derived.RangeFuncLeaves
import Derived.RangeFuncRecord
import Derived.OrdersIn
import Derived.KernelRfl
noncomputable section
namespace Go.Proofs.YtiikiphkhfmlcaaGreatDoor.Ex
open Go

/-! A finite map, by the digits of the key. -/
inductive Tr (α : Type) where
  | lf
  | nd (v : Option α) (l r : Tr α)

/- The recursors themselves stand here: a kernel that runs these takes one step where 'match' takes four. -/
def Tr.get {α : Type} (t : Tr α) : Nat → Option α :=
  Tr.rec (motive := fun _ => Nat → Option α) (fun _ => none) (fun v _ _ gl gr p => Bool.rec (motive := fun _ => Option α) (Bool.rec (motive := fun _ => Option α) (gr (Nat.div p 2)) (gl (Nat.div p 2)) (Nat.beq (Nat.mod p 2) 0)) v (Nat.beq p 1)) t
theorem Tr.get_lf {α : Type} (p : Nat) : (Tr.lf : Tr α).get p = none := rfl
theorem Tr.get_nd {α : Type} (v : Option α) (l r : Tr α) (p : Nat) : (Tr.nd v l r).get p = bif Nat.beq p 1 then v else bif Nat.beq (Nat.mod p 2) 0 then l.get (Nat.div p 2) else r.get (Nat.div p 2) := by
  show Bool.rec (motive := fun _ => Option α) (Bool.rec (motive := fun _ => Option α) (r.get (Nat.div p 2)) (l.get (Nat.div p 2)) (Nat.beq (Nat.mod p 2) 0)) v (Nat.beq p 1) = _
  cases Nat.beq p 1 with
  | true => rfl
  | false => cases Nat.beq (Nat.mod p 2) 0 <;> rfl
def setL {α : Type} (w : Option α) (r : Tr α) (x : Option (Tr α)) : Option (Tr α) := Option.rec (motive := fun _ => Option (Tr α)) none (fun l => some (.nd w l r)) x
def setR {α : Type} (w : Option α) (l : Tr α) (x : Option (Tr α)) : Option (Tr α) := Option.rec (motive := fun _ => Option (Tr α)) none (fun r => some (.nd w l r)) x
def Tr.set {α : Type} (f : Nat) : Tr α → Nat → Option α → Option (Tr α) :=
  Nat.rec (motive := fun _ => Tr α → Nat → Option α → Option (Tr α)) (fun _ _ _ => none) (fun _ ih t p v => Tr.rec (motive := fun _ => Option (Tr α))
    (Bool.rec (motive := fun _ => Option (Tr α)) (Bool.rec (motive := fun _ => Option (Tr α)) (setR none .lf (ih .lf (Nat.div p 2) v)) (setL none .lf (ih .lf (Nat.div p 2) v)) (Nat.beq (Nat.mod p 2) 0)) (some (.nd v .lf .lf)) (Nat.beq p 1))
    (fun w l r _ _ => Bool.rec (motive := fun _ => Option (Tr α)) (Bool.rec (motive := fun _ => Option (Tr α)) (setR w l (ih r (Nat.div p 2) v)) (setL w r (ih l (Nat.div p 2) v)) (Nat.beq (Nat.mod p 2) 0)) (some (.nd v l r)) (Nat.beq p 1)) t) f
theorem Tr.set_zero {α : Type} (t : Tr α) (p : Nat) (v : Option α) : Tr.set 0 t p v = none := rfl
theorem Tr.set_eq {α : Type} (f : Nat) (t : Tr α) (p : Nat) (v : Option α) : Tr.set (f + 1) t p v = (match t with
  | .lf =>
    bif Nat.beq p 1 then some (.nd v .lf .lf)
    else bif Nat.beq (Nat.mod p 2) 0 then (match Tr.set f .lf (Nat.div p 2) v with | some l => some (.nd none l .lf) | none => none)
    else (match Tr.set f .lf (Nat.div p 2) v with | some r => some (.nd none .lf r) | none => none)
  | .nd w l r =>
    bif Nat.beq p 1 then some (.nd v l r)
    else bif Nat.beq (Nat.mod p 2) 0 then (match Tr.set f l (Nat.div p 2) v with | some l' => some (.nd w l' r) | none => none)
    else (match Tr.set f r (Nat.div p 2) v with | some r' => some (.nd w l r') | none => none)) := by
  cases t with
  | lf =>
    show Bool.rec (motive := fun _ => Option (Tr α)) (Bool.rec (motive := fun _ => Option (Tr α)) (setR none .lf (Tr.set f .lf (Nat.div p 2) v)) (setL none .lf (Tr.set f .lf (Nat.div p 2) v)) (Nat.beq (Nat.mod p 2) 0)) (some (.nd v .lf .lf)) (Nat.beq p 1) = _
    cases Nat.beq p 1 with
    | true => rfl
    | false => cases Nat.beq (Nat.mod p 2) 0 <;> cases h : Tr.set f .lf (Nat.div p 2) v <;> simp [h, setL, setR]
  | nd w l r =>
    show Bool.rec (motive := fun _ => Option (Tr α)) (Bool.rec (motive := fun _ => Option (Tr α)) (setR w l (Tr.set f r (Nat.div p 2) v)) (setL w r (Tr.set f l (Nat.div p 2) v)) (Nat.beq (Nat.mod p 2) 0)) (some (.nd v l r)) (Nat.beq p 1) = _
    cases Nat.beq p 1 with
    | true => rfl
    | false => cases Nat.beq (Nat.mod p 2) 0 <;> cases h : Tr.set f l (Nat.div p 2) v <;> cases h2 : Tr.set f r (Nat.div p 2) v <;> simp [h, h2, setL, setR]

attribute [irreducible] Tr.get Tr.set

/-! Values, blocks, states. -/
inductive AV where
  | b (x : Bool)
  | i (k : IntKind) (n : Int)
  | s (l : List UInt8)
  | ptr (id off : Nat)
  | np
  | sl (id off len cap : Nat) (u : Bool)
  | ns
  | es
  | mp (id : Nat)
  | nm
  | fn (f : FuncId) (caps : List AV)
  | yl (id : Nat)
  | nf
  | ifc (t : TypeId) (v : AV)
  | ni
  | agg (l : List AV)
  | tup (l : List AV)
  | o (v : Value)
  | gl (g off : Nat)
  /- symbols: a number, a truth value, a text, a slice of a block of n elements of z cells, a pointer into such a block, a slice without room -/
  | y (k : IntKind) (n : Int)
  | yb (x : Bool)
  | ys (l : List UInt8)
  | ysl (ro nil : Bool) (id z o n : Nat)
  | ypt (ro : Bool) (id z i j : Nat)
  | ye (nil : Bool)
  /- a list: n elements of z cells each, in a block that nobody writes any more (x: it has no room behind its end); a pointer to cell j of an element of such a list -/
  | lst (x nil : Bool) (z n : Nat) (f : Nat → Nat → AV)
  | lp (z j : Nat) (g : Nat → AV)
  /- one cell, of whatever it is -/
  | jk

inductive AO where
  | cells (c : List AV) (e : TypeId) (g : Option Nat)
  | map (es : List (AV × AV × Nat)) (clock : Nat)
  | loop (st : LoopState) (pe : Option Code) (tm : Tr AV) (sz : Nat) (ps : Array Tmp) (asg bo : Code) (D : Nat)
  | dfr (op : Bool)
  | sit (l : List UInt8) (pos : Nat)
  /- n elements of z cells each, element i's cell j being f i j; ro: a part of a block that is only read -/
  | arr (ro : Bool) (e : TypeId) (z n : Nat) (f : Nat → Nat → AV)
  /- a map from numbers to numbers: which keys are there, and their values -/
  | mapy (k kv : IntKind) (p : Int → Bool) (v : Int → Int)

structure AH where
  t : Tr AO
  nx : Nat
  bs : Nat
  wl : List Nat

def memN (x : Nat) (l : List Nat) : Bool :=
  List.rec (motive := fun _ => Bool) false (fun y _ ih => Bool.rec (motive := fun _ => Bool) ih true (Nat.beq x y)) l
theorem memN_nil (x : Nat) : memN x [] = false := rfl
theorem memN_cons (x y : Nat) (l : List Nat) : memN x (y :: l) = bif Nat.beq x y then true else memN x l := by
  show Bool.rec (motive := fun _ => Bool) (memN x l) true (Nat.beq x y) = _
  cases Nat.beq x y <;> rfl

def AH.get (h : AH) (id : Nat) : Option AO := h.t.get (Nat.succ id)
def AH.put (h : AH) (id : Nat) (v : Option AO) : Option AH :=
  match Tr.set 64 h.t (Nat.succ id) v with
  | some t => some ⟨t, h.nx, h.bs, bif Nat.blt id h.bs then (bif memN id h.wl then h.wl else id :: h.wl) else h.wl⟩
  | none => none
def AH.new (h : AH) (o : AO) : Option AH :=
  match Tr.set 64 h.t (Nat.succ h.nx) (some o) with
  | some t => some ⟨t, Nat.succ h.nx, h.bs, h.wl⟩
  | none => none

structure St where
  tm : Tr AV
  sz : Nat
  df : List Nat
  rd : Option Nat
  h : AH

def ofV : Nat → Value → AV
  | _, .bool b => .b b
  | _, .int k n => .i k n
  | _, .string s => .s s.data.toList
  | _, .pointer none => .np
  | _, .slice none 0 0 => .ns
  | _, .map none => .nm
  | _, .nilFunc => .nf
  | _, .nilIface => .ni
  | n + 1, .agg cs => .agg (cs.toList.map (ofV n))
  | _, v => .o v

def undefA : AV := .tup []
def evT (tm : Tr AV) (x : Operand) : AV :=
  Operand.rec (motive := fun _ => AV) (fun t => Option.rec (motive := fun _ => AV) undefA (fun v => v) (tm.get (Nat.succ t))) (fun v => ofV 2 v) (fun g => .gl g 0) (fun f => .fn f []) x

theorem evT_tmp (tm : Tr AV) (t : Nat) : evT tm (.tmp t) = (tm.get (t + 1)).getD undefA := by
  show Option.rec (motive := fun _ => AV) undefA (fun v => v) (tm.get (Nat.succ t)) = _
  cases tm.get (Nat.succ t) <;> rfl

/-! Numbers. -/
def posLim : IntKind → Nat
  | .i8 => 128 | .i16 => 32768 | .i32 => 2147483648 | .i64 => 9223372036854775808
  | .u8 => 256 | .u16 => 65536 | .u32 => 4294967296 | .u64 => 18446744073709551616
def negLim : IntKind → Nat
  | .i8 => 128 | .i16 => 32768 | .i32 => 2147483648 | .i64 => 9223372036854775808
  | _ => 0
def wrapF (k : IntKind) : Int → Int
  | .ofNat a => bif Nat.blt a (posLim k) then .ofNat a else k.wrap (.ofNat a)
  | .negSucc a => bif Nat.blt a (negLim k) then .negSucc a else k.wrap (.negSucc a)
def ltI : Int → Int → Bool
  | .ofNat x, .ofNat y => Nat.blt x y
  | .negSucc _, .ofNat _ => true
  | .ofNat _, .negSucc _ => false
  | .negSucc x, .negSucc y => Nat.blt y x
def eqI : Int → Int → Bool
  | .ofNat x, .ofNat y => Nat.beq x y
  | .negSucc x, .negSucc y => Nat.beq x y
  | _, _ => false
def eqK : IntKind → IntKind → Bool
  | .i8, .i8 | .i16, .i16 | .i32, .i32 | .i64, .i64 | .u8, .u8 | .u16, .u16 | .u32, .u32 | .u64, .u64 => true
  | _, _ => false
def eqS : List UInt8 → List UInt8 → Bool
  | [], [] => true
  | a :: x, b :: y => bif Nat.beq a.toNat b.toNat then eqS x y else false
  | _, _ => false

def pureV : Sem Value → Option AV
  | .pure (.int k n) => some (.i k n)
  | .pure (.bool b) => some (.b b)
  | _ => none

def intBin (op : BinOp) (k : IntKind) (a b : Int) : Option AV :=
  match op with
  | .add => some (.i k (wrapF k (a + b)))
  | .sub => some (.i k (wrapF k (a - b)))
  | .mul => some (.i k (wrapF k (a * b)))
  | .quo | .rem => pureV (Op.intDiv op k a b)
  | .and | .or | .xor | .andNot => pureV (Op.intBits op k a b)
  | .eql => some (.b (eqI a b))
  | .neq => some (.b (!eqI a b))
  | .lss => some (.b (ltI a b))
  | .leq => some (.b (!ltI b a))
  | .gtr => some (.b (ltI b a))
  | .geq => some (.b (!ltI a b))
  | _ => none

def strBin (op : BinOp) (x y : List UInt8) : Option AV :=
  match op with
  | .add => bif Nat.ble (x.length + y.length) 9223372036854775807 then some (.s (x ++ y)) else none
  | .eql => some (.b (eqS x y))
  | .neq => some (.b (!eqS x y))
  | .lss => some (.b (Op.bytesLess x y))
  | .leq => some (.b (Op.bytesLess x y || eqS x y))
  | .gtr => some (.b (!(Op.bytesLess x y || eqS x y)))
  | .geq => some (.b (!Op.bytesLess x y))
  | _ => none

/-! Lists of cells. -/
def nthA (l : List AV) : Nat → Option AV :=
  List.rec (motive := fun _ => Nat → Option AV) (fun _ => none) (fun a _ ih n => Nat.rec (motive := fun _ => Option AV) (some a) (fun k _ => ih k) n) l
theorem nthA_nil (n : Nat) : nthA [] n = none := rfl
theorem nthA_cons (a : AV) (l : List AV) (n : Nat) : nthA (a :: l) n = (match n with | 0 => some a | n + 1 => nthA l n) := by cases n <;> rfl
def consO {α : Type} (a : α) (x : Option (List α)) : Option (List α) := Option.rec (motive := fun _ => Option (List α)) none (fun r => some (a :: r)) x
theorem consO_eq {α : Type} (a : α) (x : Option (List α)) : consO a x = (match x with | some r => some (a :: r) | none => none) := by cases x <;> rfl
def takeA (l : List AV) : Nat → Option (List AV) :=
  List.rec (motive := fun _ => Nat → Option (List AV)) (fun n => Nat.rec (motive := fun _ => Option (List AV)) (some []) (fun _ _ => none) n) (fun a _ ih n => Nat.rec (motive := fun _ => Option (List AV)) (some []) (fun k _ => consO a (ih k)) n) l
theorem takeA_zero (l : List AV) : takeA l 0 = some [] := by cases l <;> rfl
theorem takeA_nil (n : Nat) : takeA [] (n + 1) = none := rfl
theorem takeA_cons (a : AV) (l : List AV) (n : Nat) : takeA (a :: l) (n + 1) = (match takeA l n with | some r => some (a :: r) | none => none) := by
  show consO a (takeA l n) = _
  cases takeA l n <;> rfl
def sliceA : List AV → Nat → Nat → Option (List AV)
  | l, 0, n => takeA l n
  | [], _ + 1, _ => none
  | _ :: l, o + 1, n => sliceA l o n
def spliceA (l : List AV) : Nat → List AV → Option (List AV) :=
  List.rec (motive := fun _ => Nat → List AV → Option (List AV))
    (fun o vs => Nat.rec (motive := fun _ => Option (List AV)) (List.rec (motive := fun _ => Option (List AV)) (some []) (fun _ _ _ => none) vs) (fun _ _ => none) o)
    (fun a l ih o vs => Nat.rec (motive := fun _ => Option (List AV)) (List.rec (motive := fun _ => Option (List AV)) (some (a :: l)) (fun v vs _ => consO v (ih 0 vs)) vs) (fun k _ => consO a (ih k vs)) o) l
theorem spliceA_done (l : List AV) : spliceA l 0 [] = some l := by cases l <;> rfl
theorem spliceA_here (a : AV) (l : List AV) (v : AV) (vs : List AV) : spliceA (a :: l) 0 (v :: vs) = (match spliceA l 0 vs with | some r => some (v :: r) | none => none) := by
  show consO v (spliceA l 0 vs) = _
  cases spliceA l 0 vs <;> rfl
theorem spliceA_nil (v : AV) (vs : List AV) : spliceA [] 0 (v :: vs) = none := rfl
theorem spliceA_off (o : Nat) (vs : List AV) : spliceA [] (o + 1) vs = none := rfl
theorem spliceA_cons (a : AV) (l : List AV) (o : Nat) (vs : List AV) : spliceA (a :: l) (o + 1) vs = (match spliceA l o vs with | some r => some (a :: r) | none => none) := by
  show consO a (spliceA l o vs) = _
  cases spliceA l o vs <;> rfl
def isCell : AV → Bool
  | .agg _ | .tup _ | .o (.agg _) | .o (.tuple _) => false
  | _ => true
def allCell (l : List AV) : Bool :=
  List.rec (motive := fun _ => Bool) true (fun a _ ih => Bool.rec (motive := fun _ => Bool) false ih (isCell a)) l
theorem allCell_nil : allCell [] = true := rfl
theorem allCell_cons (a : AV) (l : List AV) : allCell (a :: l) = bif isCell a then allCell l else false := by
  show Bool.rec (motive := fun _ => Bool) false (allCell l) (isCell a) = _
  cases isCell a <;> rfl
def cellsA : AV → List AV
  | .agg l => l
  | .o (.agg cs) => cs.toList.map .o
  | v => [v]

section
variable (P : Program)

def aggT (t : TypeId) : Option Bool :=
  match P.underlying t with
  | some (.struct _) | some (.array _ _) => some true
  | some _ => some false
  | none => none
def sizeT (t : TypeId) : Option Nat :=
  match P.info? t with
  | some i => some i.size
  | none => none
def zeroT (t : TypeId) : Option AV :=
  match P.info? t with
  | some i => match i.zero with | some v => some (ofV 2 v) | none => none
  | none => none

/-- The package variables that are read, and what they hold. -/
def GL : Nat → Option (List AV) := fun g => bif Nat.beq g 0 then some [.i .u8 0, .i .u8 0, .i .u8 0, .i .u8 0, .i .u8 0, .i .u8 0, .i .u8 0, .i .u8 0, .i .u8 0, .i .u8 1, .i .u8 1, .i .u8 1, .i .u8 1, .i .u8 1, .i .u8 0, .i .u8 0, .i .u8 0, .i .u8 0, .i .u8 0, .i .u8 0, .i .u8 0, .i .u8 0, .i .u8 0, .i .u8 0, .i .u8 0, .i .u8 0, .i .u8 0, .i .u8 0, .i .u8 0, .i .u8 0, .i .u8 0, .i .u8 0, .i .u8 1, .i .u8 0, .i .u8 0, .i .u8 0, .i .u8 0, .i .u8 0, .i .u8 0, .i .u8 0, .i .u8 0, .i .u8 0, .i .u8 0, .i .u8 0, .i .u8 0, .i .u8 0, .i .u8 0, .i .u8 0, .i .u8 0, .i .u8 0, .i .u8 0, .i .u8 0, .i .u8 0, .i .u8 0, .i .u8 0, .i .u8 0, .i .u8 0, .i .u8 0, .i .u8 0, .i .u8 0, .i .u8 0, .i .u8 0, .i .u8 0, .i .u8 0, .i .u8 0, .i .u8 0, .i .u8 0, .i .u8 0, .i .u8 0, .i .u8 0, .i .u8 0, .i .u8 0, .i .u8 0, .i .u8 0, .i .u8 0, .i .u8 0, .i .u8 0, .i .u8 0, .i .u8 0, .i .u8 0, .i .u8 0, .i .u8 0, .i .u8 0, .i .u8 0, .i .u8 0, .i .u8 0, .i .u8 0, .i .u8 0, .i .u8 0, .i .u8 0, .i .u8 0, .i .u8 0, .i .u8 0, .i .u8 0, .i .u8 0, .i .u8 0, .i .u8 0, .i .u8 0, .i .u8 0, .i .u8 0, .i .u8 0, .i .u8 0, .i .u8 0, .i .u8 0, .i .u8 0, .i .u8 0, .i .u8 0, .i .u8 0, .i .u8 0, .i .u8 0, .i .u8 0, .i .u8 0, .i .u8 0, .i .u8 0, .i .u8 0, .i .u8 0, .i .u8 0, .i .u8 0, .i .u8 0, .i .u8 0, .i .u8 0, .i .u8 0, .i .u8 0, .i .u8 0, .i .u8 0, .i .u8 0, .i .u8 0, .i .u8 0, .i .u8 0, .i .u8 0, .i .u8 0, .i .u8 0, .i .u8 0, .i .u8 0, .i .u8 0, .i .u8 0, .i .u8 0, .i .u8 0, .i .u8 0, .i .u8 0, .i .u8 0, .i .u8 0, .i .u8 0, .i .u8 0, .i .u8 0, .i .u8 0, .i .u8 0, .i .u8 0, .i .u8 0, .i .u8 0, .i .u8 0, .i .u8 0, .i .u8 0, .i .u8 0, .i .u8 0, .i .u8 0, .i .u8 0, .i .u8 0, .i .u8 0, .i .u8 0, .i .u8 0, .i .u8 0, .i .u8 0, .i .u8 0, .i .u8 0, .i .u8 0, .i .u8 0, .i .u8 0, .i .u8 0, .i .u8 0, .i .u8 0, .i .u8 0, .i .u8 0, .i .u8 0, .i .u8 0, .i .u8 0, .i .u8 0, .i .u8 0, .i .u8 0, .i .u8 0, .i .u8 0, .i .u8 0, .i .u8 0, .i .u8 0, .i .u8 0, .i .u8 0, .i .u8 0, .i .u8 0, .i .u8 0, .i .u8 0, .i .u8 0, .i .u8 0, .i .u8 0, .i .u8 0, .i .u8 0, .i .u8 0, .i .u8 0, .i .u8 0, .i .u8 0, .i .u8 0, .i .u8 0, .i .u8 0, .i .u8 0, .i .u8 0, .i .u8 0, .i .u8 0, .i .u8 0, .i .u8 0, .i .u8 0, .i .u8 0, .i .u8 0, .i .u8 0, .i .u8 0, .i .u8 0, .i .u8 0, .i .u8 0, .i .u8 0, .i .u8 0, .i .u8 0, .i .u8 0, .i .u8 0, .i .u8 0, .i .u8 0, .i .u8 0, .i .u8 0, .i .u8 0, .i .u8 0, .i .u8 0, .i .u8 0, .i .u8 0, .i .u8 0, .i .u8 0, .i .u8 0, .i .u8 0, .i .u8 0, .i .u8 0, .i .u8 0, .i .u8 0, .i .u8 0, .i .u8 0, .i .u8 0, .i .u8 0, .i .u8 0, .i .u8 0, .i .u8 0, .i .u8 0, .i .u8 0, .i .u8 0, .i .u8 0, .i .u8 0, .i .u8 0, .i .u8 0, .i .u8 0, .i .u8 0, .i .u8 0, .i .u8 0] else none
def loadA (h : AH) (t : TypeId) (a : AV) : Option AV :=
  match a with
  | .ptr id off => match h.get id with
    | some (.cells c _ _) => match aggT P t with
      | some true => match sizeT P t with
        | some n => match sliceA c off n with | some l => some (.agg l) | none => none
        | none => none
      | some false => nthA c off
      | none => none
    | _ => none
  | .gl g off => match GL g with
    | some c => match aggT P t with
      | some true => match sizeT P t with
        | some n => match sliceA c off n with | some l => some (.agg l) | none => none
        | none => none
      | some false => nthA c off
      | none => none
    | none => none
  | _ => none

def storeA (h : AH) (t : TypeId) (a v : AV) : Option AH :=
  match a with
  | .ptr id off => match h.get id with
    | some (.cells c e g) => match sizeT P t with
      | some n => bif Nat.beq (cellsA v).length n then
          bif allCell (cellsA v) then match spliceA c off (cellsA v) with
            | some c' => h.put id (some (.cells c' e g))
            | none => none
          else none
        else none
      | none => none
    | _ => none
  | _ => none

def fillA (place : Nat → Option (Nat × Nat)) (cells : List AV) : List (Nat × AV) → Option (List AV)
  | [] => some cells
  | (i, v) :: rest =>
    match place i with
    | none => none
    | some (off, size) =>
      bif Nat.beq (cellsA v).length size then
        match spliceA cells off (cellsA v) with
        | some c => fillA place c rest
        | none => none
      else none

def fieldsPl : List Field → Option (List (Nat × Nat))
  | [] => some []
  | f :: l => match sizeT P f.type, fieldsPl l with
    | some n, some r => some ((f.offset, n) :: r)
    | _, _ => none
def nthP : List (Nat × Nat) → Nat → Option (Nat × Nat)
  | [], _ => none
  | a :: l, n => match n with | 0 => some a | n + 1 => nthP l n
def partsA (tm : Tr AV) (ps : List (Nat × Operand)) : List (Nat × AV) := ps.map fun p => (p.1, evT tm p.2)

def buildA (t : TypeId) (parts : List (Nat × AV)) : Option AV :=
  match zeroT P t with
  | some z => match P.underlying t with
    | some (.struct fs) => match fieldsPl P fs.toList with
      | some pl => match fillA (nthP pl) (cellsA z) parts with | some c => some (.agg c) | none => none
      | none => none
    | some (.array _ e) => match sizeT P e with
      | some n => match fillA (fun i => some (i * n, n)) (cellsA z) parts with | some c => some (.agg c) | none => none
      | none => none
    | _ => none
  | none => none

def repA : Nat → List AV → List AV
  | 0, _ => []
  | n + 1, l => l ++ repA n l

def newA (h : AH) (o : AO) (v : Nat → AV) : Option (AV × AH) :=
  match h.new o with
  | some h' => some (v h.nx, h')
  | none => none

def buildSliceA (h : AH) (t : TypeId) (len : Nat) (parts : List (Nat × AV)) : Option (AV × AH) :=
  match P.underlying t with
  | some (.slice e) => match sizeT P e with
    | some n => bif Nat.ble (len * n) 16777216 then
        match (bif Nat.beq (len * n) 0 then some [] else match zeroT P e with | some z => (bif Nat.beq (cellsA z).length n then some (repA len (cellsA z)) else none) | none => none) with
        | some z => match fillA (fun i => some (i * n, n)) z parts with
          | some c => newA h (.cells c e none) (fun id => .sl id 0 len len false)
          | none => none
        | none => none
      else none
    | none => none
  | _ => none

def makeSliceA (h : AH) (t : TypeId) (l c : Int) : Option (AV × AH) :=
  match l, c with
  | .ofNat l, .ofNat c =>
    match P.underlying t with
    | some (.slice e) => match P.info? e with
      | some i => bif Nat.ble l c && Nat.ble c 281474976710656 && Nat.ble (i.bytes * c) 140737488355328 then
          match (bif Nat.beq (c * i.size) 0 then some [] else match zeroT P e with | some z => (bif Nat.beq (cellsA z).length i.size then some (repA c (cellsA z)) else none) | none => none) with
          | some z => newA h (.cells z e none) (fun id => .sl id 0 l c false)
          | none => none
        else none
      | none => none
    | _ => none
  | _, _ => none

def nthF : List Field → Nat → Option Field
  | [], _ => none
  | a :: l, n => match n with | 0 => some a | n + 1 => nthF l n

def fieldAddrA (t : TypeId) (x : AV) (f : Nat) : Option AV :=
  match P.underlying t with
  | some (.struct fs) => match nthF fs.toList f with
    | some fd => match sizeT P fd.type with
      | some 0 => none
      | some _ => match x with | .ptr id off => some (.ptr id (off + fd.offset)) | .gl g off => some (.gl g (off + fd.offset)) | _ => none
      | none => none
    | none => none
  | _ => none

def partA (t : TypeId) (cs : List AV) (off : Nat) : Option AV :=
  match aggT P t with
  | some true => match sizeT P t with
    | some n => match sliceA cs off n with | some l => some (.agg l) | none => none
    | none => none
  | some false => nthA cs off
  | none => none

def fieldA (t : TypeId) (x : AV) (f : Nat) : Option AV :=
  match P.underlying t, x with
  | some (.struct fs), .agg cs => match nthF fs.toList f with
    | some fd => partA P fd.type cs fd.offset
    | none => none
  | _, _ => none

def indexAddrA (t : TypeId) (x ix : AV) : Option AV :=
  match ix with
  | .i _ (.ofNat n) => match P.underlying t, x with
    | some (.slice e), .sl id off len _ _ => bif Nat.blt n len then match sizeT P e with | some z => some (.ptr id (off + n * z)) | none => none else none
    | some (.array len e), .ptr id off => bif Nat.blt n len then match sizeT P e with | some z => some (.ptr id (off + n * z)) | none => none else none
    | some (.array len e), .gl g off => bif Nat.blt n len then match sizeT P e with | some z => some (.gl g (off + n * z)) | none => none else none
    | _, _ => none
  | _ => none

def indexA (t : TypeId) (x ix : AV) : Option AV :=
  match ix with
  | .i _ (.ofNat n) => match P.underlying t, x with
    | some (.array len e), .agg cs => bif Nat.blt n len then match sizeT P e with | some z => partA P e cs (n * z) | none => none else none
    | some .string, .s l => match l[n]? with | some c => some (.i .u8 (.ofNat c.toNat)) | none => none
    | _, _ => none
  | _ => none

/-- x[lo:hi:max]. -/
def boundA (d : Nat) : Option AV → Option Nat
  | none => some d
  | some (.i _ (.ofNat n)) => some n
  | _ => none
def sliceOpA (h : AH) (t : TypeId) (x : AV) (lo hi mx : Option AV) : Option AV :=
  match mx, hi with
  | some _, none => none
  | _, _ =>
  match P.underlying t, x with
  | some .string, .s l => match mx, boundA 0 lo, boundA l.length hi with
    | none, some a, some b => bif Nat.ble a b && Nat.ble b l.length then some (.s ((l.drop a).take (b - a))) else none
    | _, _, _ => none
  | some (.slice e), .ns => match sizeT P e, boundA 0 lo, boundA 0 hi, boundA 0 mx with
    | some _, some 0, some 0, some 0 => some .ns
    | _, _, _, _ => none
  | some (.slice e), .sl id off len cap false => match sizeT P e, boundA 0 lo, boundA len hi, boundA cap mx with
    | some z, some a, some b, some m => bif Nat.ble a b && Nat.ble b m && Nat.ble m cap then
        (bif Nat.beq m a then some (.sl id off (b - a) 0 false) else some (.sl id (off + a * z) (b - a) (m - a) false)) else none
    | _, _, _, _ => none
  | some (.slice e), .sl id off len cap true => match sizeT P e, boundA 0 lo, boundA len hi with
    | some z, some a, some b => match mx with
      | none => match h.get id with
        | some (.cells c _ (some z')) => bif Nat.blt 0 z && Nat.beq z z' && Nat.ble a b && Nat.ble ((cap + b) * z) c.length then
          (bif Nat.blt ((cap + a) * z) c.length then some (.sl id (off + a * z) (b - a) (cap + a) true) else some .es) else none
        | _ => none
      | some (.i _ (.ofNat m)) => match h.get id with
        | some (.cells c _ (some z')) => bif Nat.blt 0 z && Nat.beq z z' && Nat.ble a b && Nat.ble b m && Nat.ble ((cap + m) * z) c.length then
          (bif Nat.beq m a then some (.sl id off (b - a) 0 false) else some (.sl id (off + a * z) (b - a) (m - a) false)) else none
        | _ => none
      | _ => none
    | _, _, _ => none
  | some (.array n e), .ptr id off => match sizeT P e, boundA 0 lo, boundA n hi, boundA n mx with
    | some z, some a, some b, some m => bif Nat.ble a b && Nat.ble b m && Nat.ble m n then
        (bif Nat.beq m a then some (.sl id off (b - a) 0 false) else some (.sl id (off + a * z) (b - a) (m - a) false)) else none
    | _, _, _, _ => none
  | _, _ => none

/-- Equal? -/
def eqA : Nat → TypeId → AV → AV → Option Bool
  | 0, _, _, _ => none
  | d + 1, t, x, y =>
    match P.underlying t, x, y with
    | some .bool, .b a, .b b => some (a == b)
    | some (.int _), .i k a, .i k' b => bif eqK k k' then some (eqI a b) else none
    | some .string, .s a, .s b => some (eqS a b)
    | some (.pointer _), .np, .np => some true
    | some (.pointer _), .np, .ptr _ _ => some false
    | some (.pointer _), .ptr _ _, .np => some false
    | some (.slice _), .ns, .ns => some true
    | some (.slice _), .ns, .es => some false
    | some (.slice _), .es, .ns => some false
    | some (.slice _), .ns, .sl .. => some false
    | some (.slice _), .sl .., .ns => some false
    | some (.map _ _), .nm, .nm => some true
    | some (.map _ _), .nm, .mp _ => some false
    | some (.map _ _), .mp _, .nm => some false
    | some (.func _ _ _), .nf, .nf => some true
    | some (.func _ _ _), .nf, .fn _ _ => some false
    | some (.func _ _ _), .fn _ _, .nf => some false
    | some (.interface _), .ni, .ifc _ _ => some false
    | some (.interface _), .ifc _ _, .ni => some false
    | some (.interface _), .ifc tx vx, .ifc ty vy => bif Nat.beq tx ty then (match P.info? tx with
      | some i => bif i.comparable then eqA d tx vx vy else none
      | none => none) else some false
    | some (.struct fs), .agg xs, .agg ys => bif P.stoodInHeld t then none else
      fs.toList.foldr (fun f k => bif f.name == "_" then k else
        match partA P f.type xs f.offset, partA P f.type ys f.offset with
        | some a, some b => match eqA d f.type a b with
          | some true => k
          | some false => some false
          | none => none
        | _, _ => none) (some true)
    | _, _, _ => none

/-- May a struct or array be compared: no two nil values of an interface with methods. -/
def guardFree (t : TypeId) : Bool := !P.eqGuardType P.depth t

def ptrish : AV → Bool
  | .np | .ptr .. | .ns | .es | .sl .. | .nm | .mp _ | .nf | .fn .. | .ni | .ifc .. => true
  | _ => false
def litO : Operand → Operand → Bool
  | .const _, _ => true
  | _, .const _ => true
  | _, _ => false
def binA (op : BinOp) (t : TypeId) (lit : Bool) (x y : AV) : Option AV :=
  match x, y with
  | .ni, .ni => bif lit then (match P.underlying t with
    | some (.interface _) => (match op with | .eql => some (.b true) | .neq => some (.b false) | _ => none)
    | _ => none) else none
  | .i k a, .i k' b => match op with
    | .shl | .shr => pureV (Op.shift op k a k' b)
    | _ => bif eqK k k' then intBin op k a b else none
  | .s a, .s b => strBin op a b
  | .agg _, .agg _ => bif guardFree P t then match op with
    | .eql => (eqA P 64 t x y).map .b
    | .neq => (eqA P 64 t x y).map fun r => .b !r
    | _ => none else none
  | .b _a, .b _b => match op with
    | .eql => (eqA P 64 t x y).map .b
    | .neq => (eqA P 64 t x y).map fun r => .b !r
    | _ => none
  | x, y => bif ptrish x then match op with
    | .eql => (eqA P 64 t x y).map .b
    | .neq => (eqA P 64 t x y).map fun r => .b !r
    | _ => none else none

def convA (src dst : TypeId) (x : AV) : Option AV :=
  match P.underlying src, P.underlying dst, x with
  | some _, some (.int k), .i _ n => some (.i k (wrapF k n))
  | some _, some .string, .s l => some (.s l)
  | _, _, _ => none

/-- The place of a key among entries of a map whose keys are numbers. -/
def findA (k : IntKind) (n : Int) : List (AV × AV × Nat) → Nat → Option (Option (Nat × AV))
  | [], _ => some none
  | (.i k' m, v, _) :: es, j => bif eqK k k' then (bif eqI n m then some (some (j, v)) else findA k n es (j + 1)) else none
  | _ :: _, _ => none
def keyA (t : TypeId) : AV → Option (IntKind × Int)
  | .i k n => match P.underlying t with | some (.map kt _) => (match P.underlying kt with | some (.int _) => some (k, n) | _ => none) | _ => none
  | _ => none
def elemZ (t : TypeId) : Option AV := match P.underlying t with | some (.map _ e) => zeroT P e | _ => none
def lookT (t : TypeId) (ok : Bool) : Option (Nat × AV) → Option AV
  | some (_, v) => some (bif ok then .tup [v, .b true] else v)
  | none => match elemZ P t with | some z => some (bif ok then .tup [z, .b false] else z) | none => none
def entriesA (h : AH) : AV → Option (List (AV × AV × Nat))
  | .nm => some []
  | .mp id => match h.get id with | some (.map es _) => some es | _ => none
  | _ => none
/-- Keys that are structs of numbers, texts, truth values. -/
def plainK : List Field → Bool
  | [] => true
  | f :: fs => (match P.underlying f.type with | some (.int _) => true | some .string => true | some .bool => true | _ => false) && plainK fs
def partsK (xs : List AV) : List Field → Bool
  | [] => true
  | f :: fs => (match partA P f.type xs f.offset with | some _ => true | none => false) && partsK xs fs
def keyG (t : TypeId) : AV → Option TypeId
  | .agg xs => match P.underlying t with
    | some (.map kt _) => (match P.underlying kt with
      | some (.struct fs) => bif plainK P fs.toList && partsK P xs fs.toList then some kt else none
      | _ => none)
    | _ => none
  | _ => none
def findG (kt : TypeId) (k : AV) : List (AV × AV × Nat) → Nat → Option (Option (Nat × AV))
  | [], _ => some none
  | (k', v, _) :: es, j => match eqA P 64 kt k k' with
    | some true => some (some (j, v))
    | some false => findG kt k es (j + 1)
    | none => none
def lookupA (h : AH) (t : TypeId) (m k : AV) (ok : Bool) : Option AV :=
  match keyA P t k, entriesA h m with
  | some (kk, n), some es => match findA kk n es 0 with | some o => lookT P t ok o | none => none
  | none, some es => match keyG P t k with
    | some kt => (match findG P kt k es 0 with | some o => lookT P t ok o | none => none)
    | none => none
  | _, _ => none
def modA (k v : AV) : List (AV × AV × Nat) → Nat → List (AV × AV × Nat)
  | [], _ => []
  | (_, _, b) :: es, 0 => (k, v, b) :: es
  | e :: es, j + 1 => e :: modA k v es j
def delA : List (AV × AV × Nat) → Nat → List (AV × AV × Nat)
  | [], _ => []
  | _ :: es, 0 => es
  | e :: es, j + 1 => e :: delA es j
def mapUpdateG (h : AH) (t : TypeId) (m k v : AV) : Option AH :=
  match keyG P t k, m with
  | some kt, .mp id => match h.get id with
    | some (.map es c) => match findG P kt k es 0 with
      | some none => h.put id (some (.map (es ++ [(k, v, c)]) (c + 1)))
      | _ => none
    | _ => none
  | _, _ => none
def mapUpdateA (h : AH) (t : TypeId) (m k v : AV) : Option AH :=
  match keyA P t k, m with
  | none, m => mapUpdateG P h t m k v
  | some (kk, n), .mp id => match h.get id with
    | some (.map es c) => match findA kk n es 0 with
      | some (some (j, _)) => h.put id (some (.map (modA k v es j) c))
      | some none => h.put id (some (.map (es ++ [(k, v, c)]) (c + 1)))
      | none => none
    | _ => none
  | _, _ => none
def deleteA (h : AH) (t : TypeId) (m k : AV) : Option AH :=
  match keyA P t k, m with
  | some _, .nm => some h
  | some (kk, n), .mp id => match h.get id with
    | some (.map es c) => match findA kk n es 0 with
      | some (some (j, _)) => h.put id (some (.map (delA es j) c))
      | some none => h.put id (some (.map es c))
      | none => none
    | _ => none
  | _, _ => none

/-- append(s, x...): the cells of x. -/
def srcA (h : AH) (z : Nat) : AV → Option (Nat × List AV)
  | .ns => some (0, [])
  | .es => some (0, [])
  | .sl id off n _ _ => match h.get id with
    | some (.cells c _ _) => match sliceA c off (n * z) with | some l => some (n, l) | none => none
    | _ => none
  | .s l => bif Nat.beq z 1 then some (l.length, l.map fun c => .i .u8 (.ofNat c.toNat)) else none
  | _ => none
def srcOk : Option TypeDesc → Bool
  | some (.slice _) | some .string => true
  | _ => false
def growOk (n bytes : Nat) : Bool := Nat.ble (4 * n * bytes) 140737488355328
def appendA (h : AH) (t : TypeId) (at1 : Option TypeId) (s x : AV) : Option (AV × AH) :=
  match P.underlying t with
  | some (.slice e) => match P.info? e, zeroT P e with
    | some i, some z => bif srcOk (at1.bind P.underlying) && Nat.beq (cellsA z).length i.size && Nat.blt 0 i.bytes && Nat.blt 0 i.size then
      match srcA h i.size x with
      | some (n, new) => bif allCell new then
        match s with
        | .ns => bif Nat.beq n 0 then some (.ns, h) else bif growOk n i.bytes then newA h (.cells new e (some i.size)) (fun id => .sl id 0 n 0 true) else none
        | .sl id off len cap u => bif Nat.beq n 0 && Nat.ble len cap && !u then some (.sl id off len cap u, h) else
          match h.get id with
          | some (.cells c e' g) =>
            (match u with
            | false => bif Nat.ble (len + n) cap then
                (match spliceA c (off + len * i.size) new with | some c' => (match h.put id (some (.cells c' e' g)) with | some h' => some (.sl id off (len + n) cap false, h') | none => none) | none => none)
              else bif growOk (len + n) i.bytes then
                (match sliceA c off (len * i.size) with | some old => newA h (.cells (old ++ new) e (some i.size)) (fun id => .sl id 0 (len + n) 0 true) | none => none) else none
            | true =>
                match g with
                | none => none
                | some z' => bif Nat.beq z' i.size then
                  (bif Nat.ble ((cap + len + n) * i.size) c.length then
                  (match spliceA c (off + len * i.size) new with | some c' => (match h.put id (some (.cells c' e' g)) with | some h' => some (.sl id off (len + n) cap true, h') | none => none) | none => none)
                  else bif Nat.beq off 0 && Nat.beq cap 0 && Nat.beq c.length (len * i.size) && Nat.beq e e' && growOk (len + n) i.bytes then
                  (match h.put id none with | some h' => newA h' (.cells (c ++ new) e (some i.size)) (fun id => .sl id 0 (len + n) 0 true) | none => none) else none) else none)
          | _ => none
        | _ => none
        else none
      | none => none
      else none
    | _, _ => none
  | _ => none
/-- The bytes of cells that hold bytes. -/
def strL : List AV → Option (List UInt8)
  | [] => some []
  | .i k n :: l => bif eqK k .u8 then (match strL l with | some r => some (UInt8.ofNat n.toNat :: r) | none => none) else none
  | _ => none
/-- Is it a conversion of bytes to a text? -/
def byteSl (src dst : TypeId) : Bool :=
  match P.underlying src, P.underlying dst with
  | some (.slice e), some .string => (match P.underlying e with | some (.int k) => eqK k .u8 | _ => false)
  | _, _ => false
def slV : AV → Bool
  | .ns | .es | .sl .. | .ysl .. | .lst .. | .ye _ => true
  | _ => false
/-- A conversion, that of bytes to a text too. -/
def convHA (h : AH) (src dst : TypeId) (x : AV) : Option AV :=
  bif slV x then
    (bif byteSl P src dst then (match srcA h 1 x with
      | some (_, new) => bif allCell new then (match strL new with | some l => some (.s l) | none => none) else none
      | none => none) else none)
  else convA P src dst x
def copyA (h : AH) (t : TypeId) (d x : AV) : Option (AV × AH) :=
  match P.underlying t with
  | some (.slice e) => match sizeT P e with
    | some z => match d with
      | .ns => match srcA h z x with | some (_, new) => bif allCell new then some (.i .i64 0, h) else none | none => none
      | .sl id off len _ _ => match srcA h z x with
        | some (n, new) => match h.get id with
          | some (.cells c e' g) => bif !allCell new then none else match takeA new ((min n len) * z) with
            | some vs => match spliceA c off vs with
              | some c' => match h.put id (some (.cells c' e' g)) with | some h' => some (.i .i64 (.ofNat (min n len)), h') | none => none
              | none => none
            | none => none
          | _ => none
        | none => none
      | _ => none
    | none => none
  | _ => none
def lenA (h : AH) (t : TypeId) (x : AV) : Option AV :=
  match P.underlying t, x with
  | some .string, .s l => some (.i .i64 (.ofNat l.length))
  | some (.slice _), .ns => some (.i .i64 0)
  | some (.slice _), .es => some (.i .i64 0)
  | some (.slice _), .sl _ _ n _ _ => some (.i .i64 (.ofNat n))
  | some (.array n _), _ => some (.i .i64 (.ofNat n))
  | some (.map _ _), .nm => some (.i .i64 0)
  | some (.map _ _), .mp id => match h.get id with | some (.map es _) => some (.i .i64 (.ofNat es.length)) | _ => none
  | _, _ => none
def capA (t : TypeId) (x : AV) : Option AV :=
  match P.underlying t, x with
  | some (.slice _), .ns => some (.i .i64 0)
  | some (.slice _), .sl _ _ _ c false => some (.i .i64 (.ofNat c))
  | some (.array n _), _ => some (.i .i64 (.ofNat n))
  | _, _ => none
def clearA (h : AH) (t : TypeId) (x : AV) : Option AH :=
  match P.underlying t, x with
  | some (.slice _), .ns => some h
  | some (.slice _), .es => some h
  | some (.slice e), .sl id off n _ _ => bif Nat.beq n 0 then some h else match sizeT P e, zeroT P e, h.get id with
    | some z, some v, some (.cells c e' g) => bif Nat.beq (cellsA v).length z && Nat.blt 0 z && allCell (cellsA v) then
      (match spliceA c off (repA n (cellsA v)) with | some c' => h.put id (some (.cells c' e' g)) | none => none) else none
    | _, _, _ => none
  | _, _ => none
def minA : AV → AV → Option AV
  | .i k x, .i _ y => some (.i k (bif ltI y x then y else x))
  | _, _ => none
def maxA : AV → AV → Option AV
  | .i k x, .i _ y => some (.i k (bif ltI x y then y else x))
  | _, _ => none

/-! What an operation comes to. -/
inductive OutA where
  | val (v : AV) (h : AH)
  | enter (f : FuncId) (args : List AV) (h : AH)
  | yld (l : Nat) (args : List AV) (h : AH)

def val? (h : AH) : Option AV → Option OutA
  | some v => some (.val v h)
  | none => none
def val2 : Option (AV × AH) → Option OutA
  | some (v, h) => some (.val v h)
  | none => none
def skip? : Option AH → Option OutA
  | some h => some (.val undefA h)
  | none => none

/-- By the kind of operation: the ways are closed terms, so that little is copied where one is taken. -/
def opD (op : Op) : Program → Tr AV → AH → Option OutA :=
  @Op.rec (fun _ => Program → Tr AV → AH → Option OutA)
    (fun x => fun P tm h => some (.val (evT tm x) h))
    (fun x => fun P tm h => some (.val (evT tm x) h))
    (fun c a b => fun P tm h => match evT tm c with | .b t => some (.val (bif t then evT tm a else evT tm b) h) | _ => none)
    (fun t => fun P tm h => match zeroT P t with | some z => val2 (newA h (.cells (cellsA z) t none) (fun id => .ptr id 0)) | none => none)
    (fun t x => fun P tm h => val2 (newA h (.cells (cellsA (evT tm x)) t none) (fun id => .ptr id 0)))
    (fun t ps => fun P tm h => val? h (buildA P t (partsA tm ps.toList)))
    (fun t n ps => fun P tm h => val2 (buildSliceA P h t n (partsA tm ps.toList)))
    (fun t m k v => fun P tm h => skip? (mapUpdateA P h t (evT tm m) (evT tm k) (evT tm v)))
    (fun t a => fun P tm h => val? h (loadA P h t (evT tm a)))
    (fun t a v => fun P tm h => skip? (storeA P h t (evT tm a) (evT tm v)))
    (fun _ => fun _ _ _ => none)
    (fun _ => fun _ _ _ => none)
    (fun x => fun P tm h => match evT tm x with
      | .ptr id off => some (.val (.ptr id off) h)
      | .fn f c => some (.val (.fn f c) h)
      | .yl l => some (.val (.yl l) h)
      | .gl g off => some (.val (.gl g off) h)
      | _ => none)
    (fun op t x y _ => fun P tm h => val? h (binA P op t (litO x y) (evT tm x) (evT tm y)))
    (fun op _ x => fun P tm h => match op, evT tm x with
      | .not, .b t => some (.val (.b !t) h)
      | op, .i k n => val? h (pureV (Op.unary op (.int k n)))
      | _, _ => none)
    (fun src dst x => fun P tm h => val? h (convHA P h src dst (evT tm x)))
    (fun _ _ => fun _ _ _ => none)
    (fun t x => fun P tm h => match P.underlying t with
      | some (.interface _) => none
      | some _ => some (.val (.ifc t (evT tm x)) h)
      | none => none)
    (fun fn first caps => fun P tm h => match fn with
      | .func f => bif Nat.beq first.size 0 then some (.val (.fn f (caps.toList.map (evT tm))) h) else none
      | _ => none)
    (fun _ r => fun P tm h => match r with
      | none => val2 (newA h (.map [] 0) (fun id => .mp id))
      | some _ => none)
    (fun _ _ => fun _ _ _ => none)
    (fun t l c => fun P tm h => match evT tm l, evT tm c with
      | .i _ l, .i _ c => val2 (makeSliceA P h t l c)
      | _, _ => none)
    (fun t x lo hi mx => fun P tm h => val? h (sliceOpA P h t (evT tm x) (lo.map (evT tm)) (hi.map (evT tm)) (mx.map (evT tm))))
    (fun t x f => fun P tm h => val? h (fieldAddrA P t (evT tm x) f))
    (fun t x f => fun P tm h => val? h (fieldA P t (evT tm x) f))
    (fun t x ix => fun P tm h => val? h (indexAddrA P t (evT tm x) (evT tm ix)))
    (fun t x ix => fun P tm h => val? h (indexA P t (evT tm x) (evT tm ix)))
    (fun t m k ok => fun P tm h => val? h (lookupA P h t (evT tm m) (evT tm k) ok))
    (fun t m k v => fun P tm h => skip? (mapUpdateA P h t (evT tm m) (evT tm k) (evT tm v)))
    (fun _ _ _ => fun _ _ _ => none)
    (fun _ _ _ _ => fun _ _ _ => none)
    (fun _ _ => fun _ _ _ => none)
    (fun _ _ => fun _ _ _ => none)
    (fun _ => fun _ _ _ => none)
    (fun _ _ _ _ => fun _ _ _ => none)
    (fun x n => fun P tm h => match evT tm x with
      | .tup l => val? h (nthA l n)
      | _ => none)
    (fun c => fun P tm h => match c.callee with
      | .value f => match evT tm f with
        | .fn f caps => some (.enter f (c.args.toList.map (evT tm) ++ caps) h)
        | .yl l => some (.yld l (c.args.toList.map (evT tm)) h)
        | _ => none
      | .builtin .len => match c.argTypes.toList, c.args.toList with
        | t :: _, x :: _ => val? h (lenA P h t (evT tm x))
        | _, _ => none
      | .builtin .cap => match c.argTypes.toList, c.args.toList with
        | t :: _, x :: _ => val? h (capA P t (evT tm x))
        | _, _ => none
      | .builtin .append => match c.argTypes.toList, c.args.toList with
        | t :: ts, x :: y :: _ => val2 (appendA P h t ts.head? (evT tm x) (evT tm y))
        | _, _ => none
      | .builtin .copy => match c.argTypes.toList, c.args.toList with
        | t :: _, x :: y :: _ => val2 (copyA P h t (evT tm x) (evT tm y))
        | _, _ => none
      | .builtin .delete => match c.argTypes.toList, c.args.toList with
        | t :: _, x :: y :: _ => match deleteA P h t (evT tm x) (evT tm y) with | some h' => some (.val undefA h') | none => none
        | _, _ => none
      | .builtin .clear => match c.argTypes.toList, c.args.toList with
        | t :: _, x :: _ => skip? (clearA P h t (evT tm x))
        | _, _ => none
      | .builtin .min => match c.args.toList with
        | [x, y] => val? h (minA (evT tm x) (evT tm y))
        | _ => none
      | .builtin .max => match c.args.toList with
        | [x, y] => val? h (maxA (evT tm x) (evT tm y))
        | _ => none
      | _ => none)
    (fun _ => fun _ _ _ => none)
    (fun _ => fun _ _ _ => none)
    (fun _ => fun _ _ _ => none)
    (fun _ _ => fun _ _ _ => none)
    (fun _ _ _ => fun _ _ _ => none)
    (fun _ _ => fun _ _ _ => none)
    op
def opA (tm : Tr AV) (o : Oper) (h : AH) : Option OutA := opD o.op P tm h
theorem opA_eq (P : Program) (tm : Tr AV) (o : Oper) (h : AH) : opA P tm o h = (match o.op with
  | .move x | .assign x => some (.val (evT tm x) h)
  | .pick c a b => match evT tm c with | .b t => some (.val (bif t then evT tm a else evT tm b) h) | _ => none
  | .alloc t => match zeroT P t with | some z => val2 (newA h (.cells (cellsA z) t none) (fun id => .ptr id 0)) | none => none
  | .box t x => val2 (newA h (.cells (cellsA (evT tm x)) t none) (fun id => .ptr id 0))
  | .build t ps => val? h (buildA P t (partsA tm ps.toList))
  | .buildSlice t n ps => val2 (buildSliceA P h t n (partsA tm ps.toList))
  | .load t a => val? h (loadA P h t (evT tm a))
  | .store t a v => skip? (storeA P h t (evT tm a) (evT tm v))
  | .nilCheck x => match evT tm x with
    | .ptr id off => some (.val (.ptr id off) h)
    | .fn f c => some (.val (.fn f c) h)
    | .yl l => some (.val (.yl l) h)
    | .gl g off => some (.val (.gl g off) h)
    | _ => none
  | .binOp op t x y _ => val? h (binA P op t (litO x y) (evT tm x) (evT tm y))
  | .unOp op _ x => match op, evT tm x with
    | .not, .b t => some (.val (.b !t) h)
    | op, .i k n => val? h (pureV (Op.unary op (.int k n)))
    | _, _ => none
  | .convert src dst x => val? h (convHA P h src dst (evT tm x))
  | .makeInterface t x => match P.underlying t with
    | some (.interface _) => none
    | some _ => some (.val (.ifc t (evT tm x)) h)
    | none => none
  | .makeFunc (.func f) first caps => bif Nat.beq first.size 0 then some (.val (.fn f (caps.toList.map (evT tm))) h) else none
  | .makeMap _ none => val2 (newA h (.map [] 0) (fun id => .mp id))
  | .makeSlice t l c => match evT tm l, evT tm c with
    | .i _ l, .i _ c => val2 (makeSliceA P h t l c)
    | _, _ => none
  | .slice t x lo hi mx => val? h (sliceOpA P h t (evT tm x) (lo.map (evT tm)) (hi.map (evT tm)) (mx.map (evT tm)))
  | .fieldAddr t x f => val? h (fieldAddrA P t (evT tm x) f)
  | .field t x f => val? h (fieldA P t (evT tm x) f)
  | .indexAddr t x ix => val? h (indexAddrA P t (evT tm x) (evT tm ix))
  | .index t x ix => val? h (indexA P t (evT tm x) (evT tm ix))
  | .lookup t m k ok => val? h (lookupA P h t (evT tm m) (evT tm k) ok)
  | .mapUpdate t m k v => skip? (mapUpdateA P h t (evT tm m) (evT tm k) (evT tm v))
  | .insert t m k v => skip? (mapUpdateA P h t (evT tm m) (evT tm k) (evT tm v))
  | .extract x n => match evT tm x with
    | .tup l => val? h (nthA l n)
    | _ => none
  | .call c => match c.callee with
    | .value f => match evT tm f with
      | .fn f caps => some (.enter f (c.args.toList.map (evT tm) ++ caps) h)
      | .yl l => some (.yld l (c.args.toList.map (evT tm)) h)
      | _ => none
    | .builtin .len => match c.argTypes.toList, c.args.toList with
      | t :: _, x :: _ => val? h (lenA P h t (evT tm x))
      | _, _ => none
    | .builtin .cap => match c.argTypes.toList, c.args.toList with
      | t :: _, x :: _ => val? h (capA P t (evT tm x))
      | _, _ => none
    | .builtin .append => match c.argTypes.toList, c.args.toList with
      | t :: ts, x :: y :: _ => val2 (appendA P h t ts.head? (evT tm x) (evT tm y))
      | _, _ => none
    | .builtin .copy => match c.argTypes.toList, c.args.toList with
      | t :: _, x :: y :: _ => val2 (copyA P h t (evT tm x) (evT tm y))
      | _, _ => none
    | .builtin .delete => match c.argTypes.toList, c.args.toList with
      | t :: _, x :: y :: _ => match deleteA P h t (evT tm x) (evT tm y) with | some h' => some (.val undefA h') | none => none
      | _, _ => none
    | .builtin .clear => match c.argTypes.toList, c.args.toList with
      | t :: _, x :: _ => skip? (clearA P h t (evT tm x))
      | _, _ => none
    | .builtin .min => match c.args.toList with
      | [x, y] => val? h (minA (evT tm x) (evT tm y))
      | _ => none
    | .builtin .max => match c.args.toList with
      | [x, y] => val? h (maxA (evT tm x) (evT tm y))
      | _ => none
    | _ => none
  | _ => none) := by
  unfold opA opD
  generalize o.op = op
  cases op <;> first | rfl | (rename_i a _ _; cases a <;> rfl) | (rename_i a; cases a <;> rfl)

end
/-! Symbols: what is known of them is decided later. -/
inductive T (α : Type) where
  | ret (a : α)
  | br (b : Bool) (t e : T α)
  | no
def T.sel {α : Type} : T α → Option α
  | .ret a => some a
  | .br b t e => bif b then t.sel else e.sel
  | .no => none
def T.bind {α β : Type} : T α → (α → T β) → T β
  | .ret a, f => f a
  | .br b t e, f => .br b (t.bind f) (e.bind f)
  | .no, _ => .no
def T.all {α : Type} (p : α → Prop) : T α → Prop
  | .ret a => p a
  | .br b t e => (b = true → t.all p) ∧ (b = false → e.all p)
  | .no => False
def T.must {α : Type} (b : Bool) (t : T α) : T α := .br b t .no
def T.of {α : Type} : Option α → T α
  | some a => .ret a
  | none => .no

def yAdd (a b : Int) : Int := a + b
def ySub (a b : Int) : Int := a - b
def yMul (a b : Int) : Int := a * b
def yQuo (k : IntKind) (a b : Int) : Int := k.wrap (a.tdiv b)
def yRem (a b : Int) : Int := a.tmod b
def yWrap (k : IntKind) (a : Int) : Int := k.wrap a
def yBits (op : BinOp) (k : IntKind) (a b : Int) : Int := match Op.intBits op k a b with | .pure (.int _ n) => n | _ => 0
def yShl (k : IntKind) (a b : Int) : Int := k.wrap (a * 2 ^ (min b.toNat k.bits))
def yShr (k : IntKind) (a b : Int) : Int := a.fdiv (2 ^ (min b.toNat k.bits))
def yLt (a b : Int) : Bool := decide (a < b)
def yLe (a b : Int) : Bool := decide (a ≤ b)
def yEq (a b : Int) : Bool := decide (a = b)
def yNot (a : Bool) : Bool := !a
def yAnd (a b : Bool) : Bool := a && b
def yIff (a b : Bool) : Bool := a == b
def yIn (a : Int) (n : Nat) : Bool := decide (0 ≤ a ∧ a < n)
def yNat (a : Int) : Nat := a.toNat
def yInt (n : Nat) : Int := n
def yNadd (a b : Nat) : Nat := a + b
def yNsub (a b : Nat) : Nat := a - b
def yNlt (a b : Nat) : Bool := decide (a < b)
def yNle (a b : Nat) : Bool := decide (a ≤ b)
def yNeq (a b : Nat) : Bool := decide (a = b)
def ySel (b : Bool) (x y : Int) : Int := bif b then x else y
def ySelB (b x y : Bool) : Bool := bif b then x else y
def ySelN (b : Bool) (x y : Nat) : Nat := bif b then x else y
def yLen (l : List UInt8) : Nat := l.length
def yCat (a b : List UInt8) : List UInt8 := a ++ b
def ySlice (l : List UInt8) (a b : Nat) : List UInt8 := (l.drop a).take (b - a)
def yByte (l : List UInt8) (i : Nat) : Int := ((l.getD i 0).toNat : Int)
def ySEq (a b : List UInt8) : Bool := eqS a b
def ySLt (a b : List UInt8) : Bool := Op.bytesLess a b
def yOr (a b : Bool) : Bool := a || b
/-- An array of so many elements may grow. -/
def yGrow (n bytes : Nat) : Bool := growOk n bytes

def yI : AV → Option (IntKind × Int)
  | .i k n => some (k, n)
  | .y k n => some (k, n)
  | _ => none
def yB : AV → Option Bool
  | .b x => some x
  | .yb x => some x
  | _ => none
def yS : AV → Option (List UInt8)
  | .s l => some l
  | .ys l => some l
  | _ => none
/-- An index, as a whole number and as a natural one. -/
def yIx : AV → Option (Int × Nat)
  | .i _ (.ofNat n) => some (.ofNat n, n)
  | .y _ n => some (n, yNat n)
  | _ => none
def selA (b : Bool) (x y : AV) : AV :=
  match x, y with
  | .y k a, .y k' c => bif eqK k k' then .y k (ySel b a c) else bif b then x else y
  | .i k a, .y k' c => bif eqK k k' then .y k (ySel b a c) else bif b then x else y
  | .y k a, .i k' c => bif eqK k k' then .y k (ySel b a c) else bif b then x else y
  | .i k a, .i k' c => bif eqK k k' then .y k (ySel b a c) else bif b then x else y
  | .yb a, .yb c => .yb (ySelB b a c)
  | .b a, .yb c => .yb (ySelB b a c)
  | .yb a, .b c => .yb (ySelB b a c)
  | .b a, .b c => .yb (ySelB b a c)
  | .lst x nil z n f, .lst x' nil' z' n' f' => bif Nat.beq z z' then .lst (x && x') (ySelB b nil nil') z (ySelN b n n') (fun i j => selA b (f i j) (f' i j)) else bif b then .lst x nil z n f else .lst x' nil' z' n' f'
  | .lst x nil z n f, .ns => .lst x (ySelB b nil true) z (ySelN b n 0) f
  | .ns, .lst x nil z n f => .lst x (ySelB b true nil) z (ySelN b 0 n) f
  | x, y => bif b then x else y

def intY (op : BinOp) (k : IntKind) (a b : Int) : T AV :=
  match op with
  | .add => .ret (.y k (yWrap k (yAdd a b)))
  | .sub => .ret (.y k (yWrap k (ySub a b)))
  | .mul => .ret (.y k (yWrap k (yMul a b)))
  | .quo => .br (yEq b 0) .no (.ret (.y k (yQuo k a b)))
  | .rem => .br (yEq b 0) .no (.ret (.y k (yRem a b)))
  | .and | .or | .xor | .andNot => .ret (.y k (yBits op k a b))
  | .eql => .ret (.yb (yEq a b))
  | .neq => .ret (.yb (yNot (yEq a b)))
  | .lss => .ret (.yb (yLt a b))
  | .leq => .ret (.yb (yLe a b))
  | .gtr => .ret (.yb (yLt b a))
  | .geq => .ret (.yb (yLe b a))
  | _ => .no
def shiftY (op : BinOp) (k : IntKind) (a b : Int) : T AV :=
  match op with
  | .shl => .must (yLe 0 b) (.ret (.y k (yShl k a b)))
  | .shr => .must (yLe 0 b) (.ret (.y k (yShr k a b)))
  | _ => .no
def strY (op : BinOp) (x y : List UInt8) : T AV :=
  match op with
  | .add => .must (yNle (yNadd (yLen x) (yLen y)) 9223372036854775807) (.ret (.ys (yCat x y)))
  | .eql => .ret (.yb (ySEq x y))
  | .neq => .ret (.yb (yNot (ySEq x y)))
  | .lss => .ret (.yb (ySLt x y))
  | .leq => .ret (.yb (yOr (ySLt x y) (ySEq x y)))
  | .gtr => .ret (.yb (yNot (yOr (ySLt x y) (ySEq x y))))
  | .geq => .ret (.yb (yNot (ySLt x y)))
  | _ => .no

section
variable (P : Program)
def eqY : Nat → TypeId → AV → AV → Option Bool
  | 0, _, _, _ => none
  | d + 1, t, x, y =>
    match eqA P (d + 1) t x y with
    | some b => some b
    | none =>
    match P.underlying t, x, y with
    | some .bool, x, y => match yB x, yB y with | some a, some b => some (yIff a b) | _, _ => none
    | some (.int _), x, y => match yI x, yI y with | some (k, a), some (k', b) => bif eqK k k' then some (yEq a b) else none | _, _ => none
    | some .string, x, y => match yS x, yS y with | some a, some b => some (ySEq a b) | _, _ => none
    | some (.struct fs), .agg xs, .agg ys => bif P.stoodInHeld t then none else
      fs.toList.foldr (fun f k => bif f.name == "_" then k else
        match partA P f.type xs f.offset, partA P f.type ys f.offset with
        | some a, some b => match eqY d f.type a b, k with
          | some r, some r' => some (yAnd r r')
          | _, _ => none
        | _, _ => none) (some true)
    | _, _, _ => none
def nilY : AV → AV → Option Bool
  | .ysl _ n .., .ns => some n
  | .ns, .ysl _ n .. => some n
  | .ye n, .ns => some n
  | .ns, .ye n => some n
  | .lst _ n _ _ _, .ns => some n
  | .ns, .lst _ n _ _ _ => some n
  | _, _ => none
def binY (op : BinOp) (t : TypeId) (x y : AV) : T AV :=
  match x, y with
  | .agg _, .agg _ => bif guardFree P t then match op with
    | .eql => match eqY P 64 t x y with | some b => .ret (.yb b) | none => .no
    | .neq => match eqY P 64 t x y with | some b => .ret (.yb (yNot b)) | none => .no
    | _ => .no else .no
  | _, _ => match yI x, yI y with
    | some (k, a), some (k', b) => match op with
      | .shl | .shr => shiftY op k a b
      | _ => bif eqK k k' then intY op k a b else .no
    | _, _ => match yB x, yB y with
      | some a, some b => match op with
        | .eql => (match P.underlying t with | some .bool => .ret (.yb (yIff a b)) | _ => .no)
        | .neq => (match P.underlying t with | some .bool => .ret (.yb (yNot (yIff a b))) | _ => .no)
        | _ => .no
      | _, _ => match yS x, yS y with
        | some a, some b => strY op a b
        | _, _ => match P.underlying t, nilY x y with
          | some (.slice _), some b => match op with
            | .eql => .ret (.yb b)
            | .neq => .ret (.yb (yNot b))
            | _ => .no
          | _, _ => .no

/-- Which of some places is it. -/
def enumT {α : Type} (x : Int) : Nat → Nat → (Nat → T α) → T α
  | 0, _, _ => .no
  | n + 1, m, f => .br (yEq x (.ofNat m)) (f m) (enumT x n (Nat.succ m) f)
def indexAddrY (t : TypeId) (x ix : AV) : T AV :=
  match yIx ix with
  | none => .no
  | some (iz, i) => match P.underlying t, x with
    | some (.slice e), .ysl ro _ id z o n => match sizeT P e with
      | some z' => bif Nat.beq z z' then .must (yIn iz n) (.ret (.ypt ro id z (yNadd o i) 0)) else .no
      | none => .no
    | some (.slice e), .lst _ _ z n f => match sizeT P e with
      | some z' => bif Nat.beq z z' then .must (yIn iz n) (.ret (.lp z 0 (f i))) else .no
      | none => .no
    | some (.slice e), .sl id off len _ _ => match sizeT P e with
      | some z => enumT iz len 0 (fun m => .ret (.ptr id (off + m * z)))
      | none => .no
    | some (.array len e), .ptr id off => match sizeT P e with
      | some z => enumT iz len 0 (fun m => .ret (.ptr id (off + m * z)))
      | none => .no
    | _, _ => .no
def indexY (t : TypeId) (x ix : AV) : T AV :=
  match yIx ix with
  | none => .no
  | some (iz, i) => match P.underlying t, x with
    | some (.array len e), .agg cs => match sizeT P e with
      | some z => enumT iz len 0 (fun m => .of (partA P e cs (m * z)))
      | none => .no
    | some .string, x => match yS x with
      | some l => .must (yIn iz (yLen l)) (.ret (.y .u8 (yByte l i)))
      | none => .no
    | _, _ => .no
def cellsF (f : Nat → AV) : Nat → Nat → List AV
  | 0, _ => []
  | n + 1, j => f j :: cellsF f n (Nat.succ j)
def partF (t : TypeId) (z : Nat) (f : Nat → AV) (j : Nat) : Option AV :=
  match aggT P t with
  | some true => match sizeT P t with
    | some n => bif Nat.ble (j + n) z then some (.agg (cellsF f n j)) else none
    | none => none
  | some false => bif Nat.blt j z then some (f j) else none
  | none => none
def loadY (h : AH) (t : TypeId) (a : AV) : T AV :=
  match a with
  | .ypt ro id z i j => match h.get id with
    | some (.arr ro' _ z' n f) => bif (ro == ro') && Nat.beq z z' then
        (match partF P t z (f i) j with | some v => .must (yNlt i n) (.ret v) | none => .no) else .no
    | _ => .no
  | .lp z j g => match partF P t z g j with | some v => .ret v | none => .no
  | _ => .no
/-- Element i's cells from cell j on are others. -/
def setF (f : Nat → Nat → AV) (i j : Nat) (l : List AV) : Nat → Nat → AV := fun p q =>
  bif Nat.ble j q then (match nthA l (q - j) with | some v => selA (yNeq p i) v (f p q) | none => f p q) else f p q
def storeY (h : AH) (t : TypeId) (a v : AV) : T AH :=
  match a with
  | .ypt false id z i j => match h.get id with
    | some (.arr false e z' n f) => match sizeT P t with
      | some m => bif Nat.beq z z' && Nat.beq (cellsA v).length m && Nat.ble (j + m) z && allCell (cellsA v) then
          (match h.put id (some (.arr false e z n (setF f i j (cellsA v)))) with | some h' => .must (yNlt i n) (.ret h') | none => .no) else .no
      | none => .no
    | _ => .no
  | _ => .no
def yBound (d : Nat) : Option AV → Option (Option Int × Nat)
  | none => some (none, d)
  | some v => match yIx v with | some (x, n) => some (some x, n) | none => none
/-- 0 ≤ x ≤ n, where x is said. -/
def mustLe {α : Type} (x : Option Int) (n : Nat) (t : T α) : T α :=
  match x with
  | none => t
  | some a => .must (yIn a (Nat.succ n)) t
/-- Elements from one on. -/
def shY (lo : Option AV) (a : Nat) (f : Nat → Nat → AV) : Nat → Nat → AV :=
  match lo with
  | none => f
  | some _ => fun i j => f (yNadd a i) j
def cutN (lo : Option AV) (a b : Nat) : Nat :=
  match lo with
  | none => b
  | some _ => yNsub b a
def sliceL (t : TypeId) (x : AV) (lo hi mx : Option AV) : T AV :=
  match P.underlying t, x with
  | some (.slice e), .lst x nil z n f => match sizeT P e, yBound 0 lo, yBound n hi with
    | some z', some (xa, a), some (xb, b) => bif Nat.beq z z' then (match mx with
      | none => mustLe xb n (mustLe xa b (.ret (.lst (bif hi.isNone then x else false) nil z (cutN lo a b) (shY lo a f))))
      | some m => match yIx m, hi with
        | some (xm, m), some _ => .must (yIn xm (Nat.succ n)) (.must (yNeq b m) (mustLe xb n (mustLe xa b (.ret (.lst true nil z (cutN lo a b) (shY lo a f))))))
        | _, _ => .no) else .no
    | _, _, _ => .no
  | _, _ => .no
def sliceY (t : TypeId) (x : AV) (lo hi mx : Option AV) : T AV :=
  match x with
  | .lst .. => sliceL P t x lo hi mx
  | _ =>
  match mx with
  | some (.i _ (.ofNat 0)) => match P.underlying t, x, hi, lo with
    | some (.slice e), .ysl _ nil _ _ _ _, some (.i _ (.ofNat 0)), none => (match sizeT P e with | some _ => .ret (.ye nil) | none => .no)
    | some (.slice e), .ysl _ nil _ _ _ _, some (.i _ (.ofNat 0)), some (.i _ (.ofNat 0)) => (match sizeT P e with | some _ => .ret (.ye nil) | none => .no)
    | _, _, _, _ => .no
  | some _ => .no
  | none => match P.underlying t, x with
    | some (.slice e), .ysl true nil id z o n => match sizeT P e, yBound 0 lo, yBound n hi with
      | some z', some (xa, a), some (xb, b) => bif Nat.beq z z' then mustLe xb n (mustLe xa b (.ret (.ysl true nil id z (yNadd o a) (yNsub b a)))) else .no
      | _, _, _ => .no
    | some .string, x => match yS x with
      | some l => match yBound 0 lo, yBound (yLen l) hi with
        | some (xa, a), some (xb, b) => mustLe xb (yLen l) (mustLe xa b (.ret (.ys (ySlice l a b))))
        | _, _ => .no
      | none => .no
    | _, _ => .no
def lenY (t : TypeId) (x : AV) : T AV :=
  match P.underlying t, x with
  | some (.slice _), .ysl _ _ _ _ _ n => .ret (.y .i64 (yInt n))
  | some (.slice _), .lst _ _ _ n _ => .ret (.y .i64 (yInt n))
  | some (.slice _), .ye _ => .ret (.i .i64 0)
  | some .string, .ys l => .ret (.y .i64 (yInt (yLen l)))
  | _, _ => .no

/-- Elements behind n others: written out, or those of a block. -/
def catLit (z : Nat) : Nat → Nat → Option (Nat → Nat → AV) → List AV → Option (Nat → Nat → AV)
  | 0, _, f, _ => f
  | m + 1, n, none, new => catLit z m (yNadd n 1) (some fun _ j => match nthA new j with | some v => v | none => .np) (new.drop z)
  | m + 1, n, some f, new => catLit z m (yNadd n 1) (some fun i j => match nthA new j with | some v => selA (yNlt i n) (f i j) v | none => f i j) (new.drop z)
def catF (n : Nat) (f : Option (Nat → Nat → AV)) (o : Nat) (g : Nat → Nat → AV) : Nat → Nat → AV :=
  match f with
  | none => fun i j => g (yNadd o i) j
  | some f => fun i j => selA (yNlt i n) (f i j) (g (yNadd o (yNsub i n)) j)
def orNp : Option (Nat → Nat → AV) → Nat → Nat → AV
  | some f => f
  | none => fun _ _ => .np
/-- What is appended: how many elements, and the cells behind n others. -/
def srcY (h : AH) (z : Nat) (n : Nat) (f : Option (Nat → Nat → AV)) : AV → T (Nat × (Nat → Nat → AV))
  | .ysl ro _ id z' o m => match h.get id with
    | some (.arr ro' _ z2 k g) => bif (ro == ro') && Nat.beq z z' && Nat.beq z z2 then .must (yNle (yNadd o m) k) (.ret (m, catF n f o g)) else .no
    | _ => .no
  | .lst _ _ z' m g => bif Nat.beq z z' then .ret (m, catF n f 0 g) else .no
  | x => match srcA h z x with
    | some (m, new) => bif allCell new then .ret (m, orNp (catLit z m n f new)) else .no
    | none => .no
def u8A (a : AV) : Bool := match yI a with | some (k, _) => eqK k .u8 | none => false
/-- All elements are bytes; the text of them. -/
def yU8 (n : Nat) (f : Nat → Nat → AV) : Bool := (List.range n).all fun i => u8A (f i 0)
def byteA (a : AV) : UInt8 := match yI a with | some (_, n) => UInt8.ofNat n.toNat | none => 0
def yStr (n : Nat) (f : Nat → Nat → AV) : List UInt8 := (List.range n).map fun i => byteA (f i 0)
def newArr (h : AH) (e : TypeId) (z m : Nat) (nil : Bool) (f : Nat → Nat → AV) : T (AV × AH) :=
  match h.new (.arr false e z m f) with
  | some h' => .ret (.ysl false nil h.nx z 0 m, h')
  | none => .no
def appendY0 (h : AH) (t : TypeId) (at1 : Option TypeId) (s x : AV) : T (AV × AH) :=
  match P.underlying t with
  | some (.slice e) => match P.info? e, zeroT P e with
    | some i, some zv => bif srcOk (at1.bind P.underlying) && Nat.beq (cellsA zv).length i.size && Nat.blt 0 i.bytes && Nat.blt 0 i.size then
      match s with
      | .ns => (srcY h i.size 0 none x).bind fun (m, f) => .must (yGrow m i.bytes) (newArr h e i.size m (yNeq m 0) f)
      | .ye nil => (srcY h i.size 0 none x).bind fun (m, f) => .must (yGrow m i.bytes) (newArr h e i.size m (yAnd nil (yNeq m 0)) f)
      | .lst true nil z n f => bif Nat.beq z i.size then
          (srcY h i.size n (some f) x).bind fun (m, g) => .br (yNeq m 0) (.ret (.lst true nil z n f, h)) (.must (yGrow (yNadd n m) i.bytes) (newArr h e i.size (yNadd n m) false g)) else .no
      | .sl id off len cap false => match h.get id with
        | some (.cells c _ _) => match sliceA c off (len * i.size) with
          | some old => bif Nat.beq len cap && allCell old then
              (srcY h i.size len (catLit i.size len 0 none old) x).bind fun (m, g) => .br (yNeq m 0) (.ret (.sl id off len cap false, h)) (.must (yGrow (yNadd len m) i.bytes) (newArr h e i.size (yNadd len m) false g)) else .no
          | none => .no
        | _ => .no
      | .ysl false nil id z 0 n => match h.get id with
        | some (.arr false e' z' n' f) => bif Nat.beq z i.size && Nat.beq z z' && Nat.beq e e' then
            (srcY h i.size n (some f) x).bind fun (m, g) => .must (yNeq n n') (.must (yGrow (yNadd n m) i.bytes) (match h.put id none with
            | some h1 => newArr h1 e i.size (yNadd n m) (yAnd nil (yNeq m 0)) g
            | none => .no)) else .no
        | _ => .no
      | .sl id 0 0 0 true => match h.get id with
        | some (.cells [] e' (some z')) => bif Nat.beq z' i.size && Nat.beq e e' then
            (srcY h i.size 0 none x).bind fun (m, g) => .br (yNeq m 0) (.ret (.sl id 0 0 0 true, h)) (.must (yGrow m i.bytes) (match h.put id none with
            | some h1 => newArr h1 e i.size m false g
            | none => .no)) else .no
        | _ => .no
      | _ => .no
      else .no
    | _, _ => .no
  | _ => .no
/-- A row that is written out, with room behind it, as elements. -/
def rowOf (h : AH) (z : Nat) (e : TypeId) (s : AV) : Option (AV × AH) :=
  match s with
  | .sl id 0 (Nat.succ len) 0 true => match h.get id with
    | some (.cells c e' (some z')) => bif Nat.beq z' z && Nat.beq e e' && Nat.beq c.length (Nat.succ len * z) && allCell c && Nat.blt 0 z then
        (match h.put id (some (.arr false e z (Nat.succ len) (orNp (catLit z (Nat.succ len) 0 none c)))) with
        | some h1 => some (.ysl false false id z 0 (Nat.succ len), h1)
        | none => none) else none
    | _ => none
  | _ => none
def appendY (h : AH) (t : TypeId) (at1 : Option TypeId) (s x : AV) : T (AV × AH) :=
  match P.underlying t with
  | some (.slice e) => match P.info? e with
    | some i => match rowOf h i.size e s with
      | some p => appendY0 P p.2 t at1 p.1 x
      | none => appendY0 P h t at1 s x
    | none => .no
  | _ => .no
def makeSliceY (h : AH) (t : TypeId) (l c : AV) : T (AV × AH) :=
  match l, c with
  | .y _ l, .y _ c => match P.underlying t with
    | some (.slice e) => match P.info? e, zeroT P e with
      | some i, some zv => bif Nat.beq (cellsA zv).length i.size && Nat.blt 0 i.bytes && Nat.blt 0 i.size && allCell (cellsA zv) then
          .must (yLe 0 l) (.must (yEq l c) (.must (yGrow (yNat l) i.bytes) (match h.new (.arr false e i.size (yNat l) (fun _ j => match nthA (cellsA zv) j with | some v => v | none => .np)) with
            | some h' => .ret (.ysl false false h.nx i.size 0 (yNat l), h')
            | none => .no))) else .no
      | _, _ => .no
    | _ => .no
  | _, _ => .no
def unY (op : UnOp) (x : AV) : T AV :=
  match op, x with
  | .not, .yb t => .ret (.yb (yNot t))
  | .neg, .y k n => .ret (.y k (yWrap k (ySub 0 n)))
  | .xor, .y k n => .ret (.y k (yBits .xor k (bif k.signed then -1 else k.max) n))
  | _, _ => .no
def convY (src dst : TypeId) (x : AV) : T AV :=
  match P.underlying src, P.underlying dst, x with
  | some _, some (.int k), .y _ n => .ret (.y k (yWrap k n))
  | some _, some .string, .ys l => .ret (.ys l)
  | _, _, _ => .no
def convHY (h : AH) (src dst : TypeId) (x : AV) : T AV :=
  bif slV x then
    (bif byteSl P src dst then (srcY h 1 0 none x).bind fun (n, f) => .must (yU8 n f) (.ret (.ys (yStr n f))) else .no)
  else convY P src dst x
def pickY (c a b : AV) : T AV :=
  match c with
  | .yb t => match a, b with
    | .y k x, .y k' y => bif eqK k k' then .ret (.y k (ySel t x y)) else .br t (.ret a) (.ret b)
    | .yb x, .yb y => .ret (.yb (ySelB t x y))
    | a, b => .br t (.ret a) (.ret b)
  | _ => .no
def minY (a b : AV) : T AV :=
  match yI a, yI b with
  | some (k, x), some (k', y) => bif eqK k k' then .ret (.y k (ySel (yLt y x) y x)) else .no
  | _, _ => .no
def maxY (a b : AV) : T AV :=
  match yI a, yI b with
  | some (k, x), some (k', y) => bif eqK k k' then .ret (.y k (ySel (yLt x y) y x)) else .no
  | _, _ => .no

def valT (h : AH) (t : T AV) : T OutA := t.bind fun v => .ret (.val v h)
def valT2 (t : T (AV × AH)) : T OutA := t.bind fun (v, h) => .ret (.val v h)
def keyY (t : TypeId) (a : AV) : Option (IntKind × Int) :=
  match yI a with
  | some (k, n) => match P.underlying t with
    | some (.map kt _) => match P.underlying kt with
      | some (.int _) => some (k, n)
      | _ => none
    | _ => none
  | none => none
def lookupY (h : AH) (t : TypeId) (m k : AV) (ok : Bool) : Option AV :=
  match keyY P t k, m, elemZ P t with
  | some (kk, n), .mp id, some (.i kz z0) => match h.get id with
    | some (.mapy k' kv p v) => bif eqK kk k' && eqK kz kv then (bif ok then some (.tup [.y kv (ySel (p n) (v n) z0), .yb (p n)]) else some (.y kv (ySel (p n) (v n) z0))) else none
    | _ => none
  | _, _, _ => none
def mapUpdateY (h : AH) (t : TypeId) (m k x : AV) : Option AH :=
  match keyY P t k, m, yI x with
  | some (kk, n), .mp id, some (kx, y) => match h.get id with
    | some (.mapy k' kv p v) => bif eqK kk k' && eqK kx kv then h.put id (some (.mapy k' kv (fun i => yOr (yEq i n) (p i)) (fun i => ySel (yEq i n) y (v i)))) else none
    | _ => none
  | _, _, _ => none
def deleteY (h : AH) (t : TypeId) (m k : AV) : Option AH :=
  match keyY P t k, m with
  | some (kk, n), .mp id => match h.get id with
    | some (.mapy k' kv p v) => bif eqK kk k' then h.put id (some (.mapy k' kv (fun i => yAnd (yNot (yEq i n)) (p i)) v)) else none
    | _ => none
  | _, _ => none
def opY (tm : Tr AV) (o : Oper) (h : AH) : T OutA :=
  match o.op with
  | .pick c a b => valT h (pickY (evT tm c) (evT tm a) (evT tm b))
  | .load t a => valT h (loadY P h t (evT tm a))
  | .store t a v => (storeY P h t (evT tm a) (evT tm v)).bind fun h' => .ret (.val undefA h')
  | .nilCheck x => match evT tm x with
    | .ypt ro id z i j => .ret (.val (.ypt ro id z i j) h)
    | .lp z j g => .ret (.val (.lp z j g) h)
    | _ => .no
  | .binOp op t x y _ => valT h (binY P op t (evT tm x) (evT tm y))
  | .unOp op _ x => valT h (unY op (evT tm x))
  | .convert src dst x => valT h (convHY P h src dst (evT tm x))
  | .makeSlice t l c => valT2 (makeSliceY P h t (evT tm l) (evT tm c))
  | .slice t x lo hi mx => valT h (sliceY P t (evT tm x) (lo.map (evT tm)) (hi.map (evT tm)) (mx.map (evT tm)))
  | .fieldAddr t x f => match P.underlying t, evT tm x with
    | some (.struct fs), .ypt ro id z i j => match nthF fs.toList f with
      | some fd => match sizeT P fd.type with
        | some 0 => .no
        | some _ => .ret (.val (.ypt ro id z i (j + fd.offset)) h)
        | none => .no
      | none => .no
    | some (.struct fs), .lp z j g => match nthF fs.toList f with
      | some fd => match sizeT P fd.type with
        | some 0 => .no
        | some _ => .ret (.val (.lp z (j + fd.offset) g) h)
        | none => .no
      | none => .no
    | _, _ => .no
  | .lookup t m k ok => valT h (.of (lookupY P h t (evT tm m) (evT tm k) ok))
  | .mapUpdate t m k v => (T.of (mapUpdateY P h t (evT tm m) (evT tm k) (evT tm v))).bind fun h' => .ret (.val undefA h')
  | .indexAddr t x ix => valT h (indexAddrY P t (evT tm x) (evT tm ix))
  | .index t x ix => valT h (indexY P t (evT tm x) (evT tm ix))
  | .call c => match c.callee with
    | .builtin .len => match c.argTypes.toList, c.args.toList with
      | t :: _, x :: _ => valT h (lenY P t (evT tm x))
      | _, _ => .no
    | .builtin .append => match c.argTypes.toList, c.args.toList with
      | t :: ts, x :: y :: _ => valT2 (appendY P h t ts.head? (evT tm x) (evT tm y))
      | _, _ => .no
    | .builtin .delete => match c.argTypes.toList, c.args.toList with
      | t :: _, x :: y :: _ => (T.of (deleteY P h t (evT tm x) (evT tm y))).bind fun h' => .ret (.val undefA h')
      | _, _ => .no
    | .builtin .min => match c.args.toList with
      | [x, y] => valT h (minY (evT tm x) (evT tm y))
      | _ => .no
    | .builtin .max => match c.args.toList with
      | [x, y] => valT h (maxY (evT tm x) (evT tm y))
      | _ => .no
    | _ => .no
  | _ => .no
/-- A truth value that is moved is decided (a guard is a move). -/
def mvD (op : Op) : Tr AV → Option Bool :=
  @Op.rec (fun _ => Tr AV → Option Bool)
    (fun x => fun tm => match evT tm x with | .yb b => some b | _ => none)
    (fun _ => fun _ => none)
    (fun _ _ _ => fun _ => none)
    (fun _ => fun _ => none)
    (fun _ _ => fun _ => none)
    (fun _ _ => fun _ => none)
    (fun _ _ _ => fun _ => none)
    (fun _ _ _ _ => fun _ => none)
    (fun _ _ => fun _ => none)
    (fun _ _ _ => fun _ => none)
    (fun _ => fun _ => none)
    (fun _ => fun _ => none)
    (fun _ => fun _ => none)
    (fun _ _ _ _ _ => fun _ => none)
    (fun _ _ _ => fun _ => none)
    (fun _ _ _ => fun _ => none)
    (fun _ _ => fun _ => none)
    (fun _ _ => fun _ => none)
    (fun _ _ _ => fun _ => none)
    (fun _ _ => fun _ => none)
    (fun _ _ => fun _ => none)
    (fun _ _ _ => fun _ => none)
    (fun _ _ _ _ _ => fun _ => none)
    (fun _ _ _ => fun _ => none)
    (fun _ _ _ => fun _ => none)
    (fun _ _ _ => fun _ => none)
    (fun _ _ _ => fun _ => none)
    (fun _ _ _ _ => fun _ => none)
    (fun _ _ _ _ => fun _ => none)
    (fun _ _ _ => fun _ => none)
    (fun _ _ _ _ => fun _ => none)
    (fun _ _ => fun _ => none)
    (fun _ _ => fun _ => none)
    (fun _ => fun _ => none)
    (fun _ _ _ _ => fun _ => none)
    (fun _ _ => fun _ => none)
    (fun _ => fun _ => none)
    (fun _ => fun _ => none)
    (fun _ => fun _ => none)
    (fun _ => fun _ => none)
    (fun _ _ => fun _ => none)
    (fun _ _ _ => fun _ => none)
    (fun _ _ => fun _ => none)
    op
def mvA (tm : Tr AV) (o : Oper) : Option Bool := mvD o.op tm
theorem mvA_eq (tm : Tr AV) (o : Oper) : mvA tm o = (match o.op with
  | .move x => match evT tm x with | .yb b => some b | _ => none
  | _ => none) := by
  unfold mvA mvD
  generalize o.op = op
  cases op <;> rfl
/-- An operation: by what is known, else by symbols. -/
def opT (tm : Tr AV) (o : Oper) (h : AH) : T OutA :=
  match mvA tm o with
  | some b => .br b (.ret (.val (.b true) h)) (.ret (.val (.b false) h))
  | none => match opA P tm o h with
    | some r => .ret r
    | none => opY P tm o h
def opS (tm : Tr AV) (o : Oper) (h : AH) : Option OutA :=
  Option.rec (motive := fun _ => Option OutA) (Option.rec (motive := fun _ => Option OutA) (opY P tm o h).sel (fun r => some r) (opA P tm o h)) (fun b => some (.val (.b b) h)) (mvA tm o)
theorem opS_eq (tm : Tr AV) (o : Oper) (h : AH) : opS P tm o h = (match mvA tm o with
  | some b => some (.val (.b b) h)
  | none => match opA P tm o h with
    | some r => some r
    | none => (opY P tm o h).sel) := by
  unfold opS
  cases mvA tm o with
  | some b => rfl
  | none => cases opA P tm o h <;> rfl
end

section
variable (P : Program)
/-! Code. -/
inductive AX where
  | nm
  | ex (id : Nat)
  | rt

def initT : Tr AV → Nat → List AV → Option (Tr AV)
  | t, _, [] => some t
  | t, n, a :: l => match Tr.set 64 t (Nat.succ n) (some a) with | some t' => initT t' (Nat.succ n) l | none => none
def takeAll (h : AH) : List Nat → Option AH
  | [] => some h
  | d :: l => match h.get d with
    | some (.dfr true) => match h.put d (some (.dfr false)) with | some h' => takeAll h' l | none => none
    | _ => none
def resOne (tm : Tr AV) (h : AH) : ResultVar → Option AV
  | .tmp t => some (evT tm (.tmp t))
  | .cell a t => loadA P h t (evT tm (.tmp a))
def resAll (tm : Tr AV) (h : AH) : List ResultVar → Option (List AV)
  | [] => some []
  | r :: l => match resOne P tm h r with
    | some v => match resAll tm h l with | some vs => some (v :: vs) | none => none
    | none => none
def resA (tm : Tr AV) (h : AH) (l : List ResultVar) : Option AV :=
  match resAll P tm h l with
  | some [v] => some v
  | some vs => some (.tup vs)
  | none => none

def okFn (fn : Func) : Bool := !(fn.name == "runtime.NumGoroutine")

/-- What stands for a function's text: a contract; a value that a function without a text hands back. -/
inductive Sm where
  | call (g : List AV → AH → Option (AV × AH))
  | ct (g : List AV → AH → T (AV × AH))
  | val (g : List AV → Option AV)
structure Rc where
  code : Code → St → Option (AX × St)
  sm : FuncId → Option Sm

section
variable (rec : Rc)

def callA (f : FuncId) (args : List AV) (h : AH) : Option (AV × AH) :=
  match rec.sm f with
  | some (.call g) => g args h
  | some (.ct g) => (g args h).sel
  | some (.val _) => none
  | none =>
  match P.funcs[f]? with
  | some fn => bif okFn fn then match fn.body with
    | some c => match initT .lf 0 args with
      | some tm => match rec.code c ⟨tm, max fn.ntmps args.length, [], none, h⟩ with
        | some (.nm, s) | some (.rt, s) => match takeAll s.h s.df with
          | some h' => match resA P s.tm h' fn.results.toList with
            | some v => some (v, h')
            | none => none
          | none => none
        | _ => none
      | none => none
    | none => none
    else none
  | none => none

def setPs : Tr AV → Nat → List Tmp → List AV → Option (Tr AV)
  | t, _, [], [] => some t
  | t, sz, p :: ps, a :: l => bif Nat.blt p sz then match Tr.set 64 t (Nat.succ p) (some a) with | some t' => setPs t' sz ps l | none => none else none
  | _, _, _, _ => none

/-- A round's end: the loop's block, which nothing saw meanwhile, is there again. -/
def endRd (h : AH) (l : Nat) (wl : Bool) (o : AO) : Option AH :=
  match h.get l with
  | some _ => none
  | none => match h.put l (some o) with
    | some h' => some ⟨h'.t, h'.nx, h'.bs, bif wl then h'.wl else h.wl⟩
    | none => none
def hideRd (h : AH) (l : Nat) : Option AH :=
  match h.put l none with
  | some h' => some ⟨h'.t, h'.nx, h'.bs, h.wl⟩
  | none => none

def roundA (l : Nat) (args : List AV) (h : AH) : Option (AV × AH) :=
  match h.get l with
  | some (.loop .ready none tm0 sz ps asg bo D) => match setPs tm0 sz ps.toList args with
    | some tm => match hideRd h l with
      | some h1 => match rec.code asg ⟨tm, sz, [], some l, h1⟩ with
        | some (.nm, s) => match s.df with
          | [] => match rec.code bo ⟨s.tm, s.sz, [], some l, s.h⟩ with
            | some (.nm, s2) => match endRd s2.h l false (.loop .ready none tm0 sz ps asg bo D) with | some h3 => some (.b true, h3) | none => none
            | some (.rt, s2) => match endRd s2.h l true (.loop .done (some .ret) tm0 sz ps asg bo D) with | some h3 => some (.b false, h3) | none => none
            | some (.ex id, s2) => match endRd s2.h l true (.loop .done (some (.exit id)) tm0 sz ps asg bo D) with | some h3 => some (.b false, h3) | none => none
            | none => none
          | _ => none
        | _ => none
      | none => none
    | none => none
  | _ => none

def opF (tm : Tr AV) (o : Oper) (h : AH) : Option (AV × AH) :=
  Option.rec (motive := fun _ => Option (AV × AH)) none (fun out => OutA.rec (motive := fun _ => Option (AV × AH))
    (fun v h' => Bool.rec (motive := fun _ => Option (AV × AH)) none (some (v, h')) (Nat.ble h.nx h'.nx))
    (fun f args _ => match rec.sm f with
      | some (.val g) => match g args with | some v => some (v, h) | none => none
      | _ => callA P rec f args h)
    (fun l args _ => roundA rec l args h) out) (opS P tm o h)
theorem opF_eq (tm : Tr AV) (o : Oper) (h : AH) : opF P rec tm o h = (match opS P tm o h with
  | some (.val v h') => bif Nat.ble h.nx h'.nx then some (v, h') else none
  | some (.enter f args _) => match rec.sm f with
    | some (.val g) => match g args with | some v => some (v, h) | none => none
    | _ => callA P rec f args h
  | some (.yld l args _) => roundA rec l args h
  | none => none) := by
  unfold opF
  cases opS P tm o h with
  | none => rfl
  | some out => cases out with
    | val v h' => show Bool.rec (motive := fun _ => Option (AV × AH)) none (some (v, h')) (Nat.ble h.nx h'.nx) = _; simp only; cases Nat.ble h.nx h'.nx <;> rfl
    | enter f args h' => rfl
    | yld l args h' => rfl

/-- Is it wanted? -/
def wantG (ops : List Oper) (tm : Tr AV) (j : Nat) (want : Bool) : Option Bool :=
  match ops[j]? with
  | some g => match g.dst with
    | some d => match evT tm (.tmp d) with
      | .b x => some (x == want)
      | .tup [] => some false
      | _ => none
    | none => none
  | none => none
def wantA (ops : List Oper) (tm : Tr AV) (o : Oper) : Option Bool :=
  Option.rec (motive := fun _ => Option Bool) (some true) (fun p => Prod.rec (motive := fun _ => Option Bool) (fun j want => wantG ops tm j want) p) o.guard
theorem wantA_eq (ops : List Oper) (tm : Tr AV) (o : Oper) : wantA ops tm o = (match o.guard with
  | none => some true
  | some (j, want) => match ops[j]? with
    | some g => match g.dst with
      | some d => match evT tm (.tmp d) with
        | .b x => some (x == want)
        | .tup [] => some false
        | _ => none
      | none => none
    | none => none) := by
  unfold wantA
  cases o.guard with
  | none => rfl
  | some p => rfl
/- A state is taken apart at each step: a chain of projections would be walked anew at each look. -/
def putA (s : St) (dst : Option Tmp) (v : AV) : Option St :=
  St.rec (motive := fun _ => Option St) (fun tm sz df rd h => Option.rec (motive := fun _ => Option St) (some ⟨tm, sz, df, rd, h⟩)
    (fun d => Bool.rec (motive := fun _ => Option St) none (Option.rec (motive := fun _ => Option St) none (fun t => some ⟨t, sz, df, rd, h⟩) (Tr.set 64 tm (Nat.succ d) (some v))) (Nat.blt d sz)) dst) s
theorem putA_eq (s : St) (dst : Option Tmp) (v : AV) : putA s dst v = (match dst with
  | none => some s
  | some d => bif Nat.blt d s.sz then match Tr.set 64 s.tm (Nat.succ d) (some v) with | some t => some { s with tm := t } | none => none else none) := by
  cases s with | mk tm sz df rd h =>
  cases dst with
  | none => rfl
  | some d =>
    show Bool.rec (motive := fun _ => Option St) none (Option.rec (motive := fun _ => Option St) none (fun t => some ⟨t, sz, df, rd, h⟩) (Tr.set 64 tm (Nat.succ d) (some v))) (Nat.blt d sz) = (bif Nat.blt d sz then match Tr.set 64 tm (Nat.succ d) (some v) with | some t => some ⟨t, sz, df, rd, h⟩ | none => none else none)
    cases Nat.blt d sz with
    | false => rfl
    | true => cases Tr.set 64 tm (Nat.succ d) (some v) <;> rfl

def opsA (ops : List Oper) (l : List Oper) : St → Option St :=
  List.rec (motive := fun _ => St → Option St) (fun s => some s) (fun o _ ih s => St.rec (motive := fun _ => Option St) (fun tm sz df rd h =>
    Option.rec (motive := fun _ => Option St) none (fun b => Bool.rec (motive := fun _ => Option St)
      (Option.rec (motive := fun _ => Option St) none ih (putA ⟨tm, sz, df, rd, h⟩ o.dst undefA))
      (Option.rec (motive := fun _ => Option St) none (fun p => Prod.rec (motive := fun _ => Option St) (fun v h' => Option.rec (motive := fun _ => Option St) none ih (putA ⟨tm, sz, df, rd, h'⟩ o.dst v)) p) (opF P rec tm o h)) b) (wantA ops tm o)) s) l
theorem opsA_nil (ops : List Oper) (s : St) : opsA P rec ops [] s = some s := rfl
theorem opsA_cons (ops : List Oper) (o : Oper) (rest : List Oper) (s : St) : opsA P rec ops (o :: rest) s = (match wantA ops s.tm o with
    | some true => match opF P rec s.tm o s.h with
      | some (v, h) => match putA { s with h := h } o.dst v with
        | some s' => opsA P rec ops rest s'
        | none => none
      | none => none
    | some false => match putA s o.dst undefA with
      | some s' => opsA P rec ops rest s'
      | none => none
    | none => none) := by
  cases s with | mk tm sz df rd h =>
  show Option.rec (motive := fun _ => Option St) none _ (wantA ops tm o) = _
  cases wantA ops tm o with
  | none => rfl
  | some b => cases b with
    | false =>
      show Option.rec (motive := fun _ => Option St) none (opsA P rec ops rest) (putA ⟨tm, sz, df, rd, h⟩ o.dst undefA) = _
      simp only
      cases putA ⟨tm, sz, df, rd, h⟩ o.dst undefA <;> rfl
    | true =>
      show Option.rec (motive := fun _ => Option St) none _ (opF P rec tm o h) = _
      simp only
      cases opF P rec tm o h with
      | none => rfl
      | some p =>
        obtain ⟨v, h'⟩ := p
        show Option.rec (motive := fun _ => Option St) none (opsA P rec ops rest) (putA ⟨tm, sz, df, rd, h'⟩ o.dst v) = _
        simp only
        cases putA ⟨tm, sz, df, rd, h'⟩ o.dst v <;> rfl
end
end
end Go.Proofs.YtiikiphkhfmlcaaGreatDoor.Ex
noncomputable section
namespace Go.Proofs.YtiikiphkhfmlcaaGreatDoor.Ex
open Go

section
variable (P : Program) (rec : Rc)

/-- What is kept of an operation of a region that draws its order. -/
structure DR where
  i : Nat
  pm : Nat
  dst : Option Tmp
  looks : List Tmp
  lo : Nat
  hi : Nat
  wr : List Nat
  full : Bool
  ld : Option Nat

def looksA (ops : List Oper) (o : Oper) : List Tmp :=
  (o.op.operands.toList.filterMap fun | .tmp t => some t | _ => none) ++
  (match o.guard with
   | some (g, _) => match ops[g]? with | some x => x.dst.toList | none => []
   | none => [])

/-- The binding edges lead back; the operations that come first, as digits. -/
def predsA (i : Nat) (recs : List DR) : List Edge → Option Nat
  | [] => some 0
  | e :: l => match predsA i recs l with
    | some m => bif Region.binds .any e then
        (match recs.find? (fun r => Nat.beq r.i e.on) with
        | some r => some (Nat.lor m (Nat.lor (Nat.shiftLeft 1 e.on) r.pm))
        | none => none)
      else some m
    | none => none

inductive Kind where
  | pure
  | make
  | read (id : Nat)
  | full

def kindA (tm : Tr AV) : Op → Kind
  | .move _ | .assign _ | .pick .. | .build .. | .nilCheck _ | .binOp .. | .unOp .. | .makeInterface .. | .makeFunc .. | .fieldAddr .. | .field .. | .indexAddr .. | .index .. | .extract .. => .pure
  | .alloc _ | .box .. | .buildSlice .. | .makeMap .. | .makeSlice .. => .make
  | .slice _ x _ _ _ => match evT tm x with | .sl id _ _ _ true => .read id | _ => .pure
  | .convert _ _ x => match evT tm x with | .sl id _ _ _ _ => .read id | .ysl _ _ id _ _ _ => .read id | _ => .pure
  | .load _ a => match evT tm a with | .ptr id _ => .read id | .ypt _ id _ _ _ => .read id | .lp .. => .pure | _ => .full
  | .call { callee := .builtin .len, args := as, .. } => match as.toList with
    | [x] => match evT tm x with | .mp id => .read id | _ => .pure
    | _ => .full
  | .call { callee := .builtin .cap, .. } => .pure
  | _ => .full

def memT (x : Option Tmp) (l : List Tmp) : Bool := match x with | some t => memN t l | none => false
def sameT : Option Tmp → Option Tmp → Bool
  | some a, some b => Nat.beq a b
  | _, _ => false
/-- No two operations that are unordered meet at a temporary. -/
def apartT (dst : Option Tmp) (looks : List Tmp) (r : DR) : Bool :=
  !memT r.dst looks && !sameT r.dst dst && !memT dst r.looks
def inDR (x : Nat) (r : DR) : Bool := (Nat.ble r.lo x && Nat.blt x r.hi) || memN x r.wr

def rangeL : Nat → Nat → Nat → List Nat
  | 0, _, _ => []
  | f + 1, lo, hi => bif Nat.blt lo hi then lo :: rangeL f (Nat.succ lo) hi else []
/-- The blocks that an unordered elder has made or written. -/
def hideL : List DR → Option (List Nat)
  | [] => some []
  | r :: l => bif Nat.ble r.hi (r.lo + 40) then match hideL l with | some x => some (rangeL 40 r.lo r.hi ++ r.wr ++ x) | none => none else none
def hideA (h : AH) : List Nat → Option (AH × List (Nat × AO))
  | [] => some (h, [])
  | x :: l => match h.get x with
    | some o => match h.put x none with
      | some h' => match hideA h' l with | some (h2, sv) => some (h2, (x, o) :: sv) | none => none
      | none => none
    | none => hideA h l
def showA (h : AH) : List (Nat × AO) → Option AH
  | [] => some h
  | (x, o) :: l => match h.get x with
    | some _ => none
    | none => match h.put x (some o) with | some h' => showA h' l | none => none
def mergeW (bs : Nat) (wl : List Nat) : List Nat → List Nat
  | [] => wl
  | x :: l => bif Nat.blt x bs && !memN x wl then x :: mergeW bs wl l else mergeW bs wl l

/-- One operation of such a region: the value, the heap, and what it wrote. -/
def viewRun (tm : Tr AV) (o : Oper) (h : AH) (un : List DR) : Option (AV × AH × List Nat × Bool × Option Nat) :=
  match kindA tm o.op with
  | .pure => match opF P rec tm o ⟨.lf, h.nx, h.nx, []⟩ with
    | some (v, h') => bif Nat.beq h'.nx h.nx then some (v, h, [], false, none) else none
    | none => none
  | .make => match opF P rec tm o ⟨.lf, h.nx, h.nx, []⟩ with
    | some (v, h') => bif Nat.beq h'.nx h.nx then some (v, h, [], false, none) else bif Nat.beq h'.nx (Nat.succ h.nx) then
        (match h'.get h.nx with
        | some o => match h.new o with | some h2 => some (v, h2, [], false, none) | none => none
        | none => none)
      else none
    | none => none
  | .read id => match h.get id with
    | some ob => bif un.any (inDR id) then none else
      match Tr.set 64 .lf (Nat.succ id) (some ob) with
      | some t => match opF P rec tm o ⟨t, h.nx, h.nx, []⟩ with
        | some (v, h') => bif Nat.beq h'.nx h.nx then (match h'.wl with | [] => some (v, h, [], false, some id) | _ => none) else none
        | none => none
      | none => none
    | none => none
  | .full => match hideL un with
    | some l => match hideA h l with
      | some (hv, sv) => match opF P rec tm o ⟨hv.t, hv.nx, hv.nx, []⟩ with
        | some (v, h') => match showA ⟨h'.t, h'.nx, 0, []⟩ sv with
          | some h2 => some (v, ⟨h2.t, h2.nx, h.bs, mergeW h.bs h.wl h'.wl⟩, h'.wl, true, none)
          | none => none
        | none => none
      | none => none
    | none => none

def noneW (nx : Nat) (wr : List Nat) (un : List DR) : Bool :=
  match wr with
  | [] => true
  | _ => wr.all (fun x => Nat.blt x nx) && un.all fun r => !r.full && (match r.ld with | some x => !memN x wr | none => true) && wr.all (fun x => !inDR x r)

def drawA (ops : List Oper) : List Oper → Nat → List DR → St → Option St
  | [], _, _, s => some s
  | o :: rest, i, recs, ⟨tm, sz, df, rd, h⟩ =>
    match predsA i recs o.after.toList with
    | none => none
    | some pm =>
      let un := recs.filter fun r => !Nat.testBit pm r.i
      let lk := looksA ops o
      bif un.all (apartT o.dst lk) then
        match wantA ops tm o with
        | some true => match viewRun P rec tm o h un with
          | some (v, h2, wr, full, ld) => bif noneW h.nx wr un then
              (match putA ⟨tm, sz, df, rd, h2⟩ o.dst v with
              | some s' => drawA ops rest (Nat.succ i) (⟨i, pm, o.dst, lk, h.nx, h2.nx, wr, full, ld⟩ :: recs) s'
              | none => none) else none
          | none => none
        | some false => match putA ⟨tm, sz, df, rd, h⟩ o.dst undefA with
          | some s' => drawA ops rest (Nat.succ i) (⟨i, pm, o.dst, lk, h.nx, h.nx, [], false, none⟩ :: recs) s'
          | none => none
        | none => none
      else none
theorem drawA_cons (ops : List Oper) (o : Oper) (rest : List Oper) (i : Nat) (recs : List DR) (s : St) : drawA P rec ops (o :: rest) i recs s = (
    match predsA i recs o.after.toList with
    | none => none
    | some pm =>
      let un := recs.filter fun r => !Nat.testBit pm r.i
      let lk := looksA ops o
      bif un.all (apartT o.dst lk) then
        match wantA ops s.tm o with
        | some true => match viewRun P rec s.tm o s.h un with
          | some (v, h, wr, full, ld) => bif noneW s.h.nx wr un then
              (match putA { s with h := h } o.dst v with
              | some s' => drawA P rec ops rest (Nat.succ i) (⟨i, pm, o.dst, lk, s.h.nx, h.nx, wr, full, ld⟩ :: recs) s'
              | none => none) else none
          | none => none
        | some false => match putA s o.dst undefA with
          | some s' => drawA P rec ops rest (Nat.succ i) (⟨i, pm, o.dst, lk, s.h.nx, s.h.nx, [], false, none⟩ :: recs) s'
          | none => none
        | none => none
      else none) := by cases s; rfl

def rangeFuncA (f : Operand) (ps : Array Tmp) (asg bo : Code) (s : St) : Option (AX × St) :=
  match evT s.tm f with
  | .fn gf caps =>
    match (match s.rd with
      | none => match s.h.new (.dfr true) with | some h => some (s.h.nx, s.h.nx :: s.df, h) | none => none
      | some l => match s.h.get l with | some (.loop _ _ _ _ _ _ _ D) => some (D, s.df, s.h) | _ => none) with
    | some (D, df, h) => match h.new (.loop .ready none s.tm s.sz ps asg bo D) with
      | some h1 => match callA P rec gf (.yl h.nx :: caps) h1 with
        | some (_, h2) => match h2.get h.nx with
          | some (.loop .busy _ _ _ _ _ _ _) => none
          | some (.loop _ pe tm sz ps' asg' bo' D') => match h2.put h.nx (some (.loop .exhausted pe tm sz ps' asg' bo' D')) with
            | some h3 => match pe with
              | none => some (.nm, { s with df := df, h := h3 })
              | some .ret => rec.code .ret { s with df := df, h := h3 }
              | some (.exit id) => rec.code (.exit id) { s with df := df, h := h3 }
              | some _ => none
            | none => none
          | _ => none
        | none => none
      | none => none
    | none => none
  | _ => none

def loopA : Nat → Code → St → Option (AX × St)
  | 0, _, _ => none
  | m + 1, c, s => match rec.code c s with | some (.nm, s') => loopA m c s' | r => r

def codeD (c : Code) : Program → Rc → Nat → St → Option (AX × St) :=
  @Code.rec (fun _ => Program → Rc → Nat → St → Option (AX × St))
    (fun _ _ _ s => some (.nm, s))
    (fun _ ops draw P rec _ s => Bool.rec (motive := fun _ => Option (AX × St)) (Option.rec (motive := fun _ => Option (AX × St)) none (fun s' => some (.nm, s')) (opsA P rec ops.toList ops.toList s)) (Option.rec (motive := fun _ => Option (AX × St)) none (fun s' => some (.nm, s')) (drawA P rec ops.toList ops.toList 0 [] s)) draw)
    (fun a b _ _ _ rec _ s => match rec.code a s with | some (.nm, s') => rec.code b s' | r => r)
    (fun c t e _ _ _ rec _ s => match evT s.tm c with | .b x => bif x then rec.code t s else rec.code e s | .yb x => bif x then rec.code t s else rec.code e s | _ => none)
    (fun id c _ _ rec _ s => match rec.code c s with | some (.ex j, s') => bif Nat.beq j id then some (.nm, s') else some (.ex j, s') | r => r)
    (fun c _ _ rec n s => loopA rec n c s)
    (fun f ps asg bo _ _ P rec _ s => rangeFuncA P rec f ps asg bo s)
    (fun id _ _ _ s => some (.ex id, s))
    (fun c _ _ rec _ s => rec.code c s)
    (fun _ _ _ _ s => some (.nm, s))
    (fun _ _ _ _ _ => none)
    (fun _ _ _ s => some (.rt, s))
    (fun _ _ _ _ _ => none) c
def execStep (n : Nat) (c : Code) (s : St) : Option (AX × St) := codeD c P rec n s
theorem execStep_eq (n : Nat) (c : Code) (s : St) : execStep P rec n c s = (match c with
  | .skip | .label _ => some (.nm, s)
  | .seq a b => match rec.code a s with | some (.nm, s') => rec.code b s' | r => r
  | .cond c t e => match evT s.tm c with | .b x => bif x then rec.code t s else rec.code e s | .yb x => bif x then rec.code t s else rec.code e s | _ => none
  | .block id c => match rec.code c s with | some (.ex j, s') => bif Nat.beq j id then some (.nm, s') else some (.ex j, s') | r => r
  | .loop c => loopA rec n c s
  | .exit id => some (.ex id, s)
  | .ret => some (.rt, s)
  | .region _ ops false => match opsA P rec ops.toList ops.toList s with | some s' => some (.nm, s') | none => none
  | .region _ ops true => match drawA P rec ops.toList ops.toList 0 [] s with | some s' => some (.nm, s') | none => none
  | .rangeFunc f ps asg bo => rangeFuncA P rec f ps asg bo s
  | .scope c => rec.code c s
  | _ => none) := by
  unfold execStep codeD
  cases c <;> first | rfl | skip
  rename_i id ops draw
  cases draw with
  | false =>
    show Option.rec (motive := fun _ => Option (AX × St)) none _ (opsA P rec ops.toList ops.toList s) = _
    simp only
    cases opsA P rec ops.toList ops.toList s <;> rfl
  | true =>
    show Option.rec (motive := fun _ => Option (AX × St)) none _ (drawA P rec ops.toList ops.toList 0 [] s) = _
    simp only
    cases drawA P rec ops.toList ops.toList 0 [] s <;> rfl
end

def exec (P : Program) (sm : FuncId → Option Sm) : Nat → Code → St → Option (AX × St)
  | 0, _, _ => none
  | n + 1, c, s => execStep P ⟨exec P sm n, sm⟩ n c s
def noSm : FuncId → Option Sm := fun _ => none

def isB (b : Bool) : Option (AV × AH) → Bool
  | some (.b x, _) => x == b
  | _ => false
end Go.Proofs.YtiikiphkhfmlcaaGreatDoor.Ex
