/- The abstract machine: regions that draw their order, and code. -/
import Derived.Test.YtlfehgagnelbhaaGreatDoorExA
namespace Go.Proofs.YtlfehgagnelbhaaGreatDoor.Ex
open Go

section
variable (P : Program) (rec : Rc)

/-- What is kept of an operation of a region that draws its order. -/
structure DR where
  i : Nat
  pm : Nat
  dst : Option Tmp
  looks : List Tmp
  lo : Nat
  hi : Nat
  wr : List Nat
  full : Bool
  ld : Option Nat

def looksA (ops : List Oper) (o : Oper) : List Tmp :=
  (o.op.operands.toList.filterMap fun | .tmp t => some t | _ => none) ++
  (match o.guard with
   | some (g, _) => match ops[g]? with | some x => x.dst.toList | none => []
   | none => [])

/-- The binding edges lead back; the operations that come first, as digits. -/
def predsA (i : Nat) (recs : List DR) : List Edge → Option Nat
  | [] => some 0
  | e :: l => match predsA i recs l with
    | some m => bif Region.binds .any e then
        (match recs.find? (fun r => Nat.beq r.i e.on) with
        | some r => some (Nat.lor m (Nat.lor (Nat.shiftLeft 1 e.on) r.pm))
        | none => none)
      else some m
    | none => none

inductive Kind where
  | pure
  | make
  | read (id : Nat)
  | full

def kindA (tm : Tr AV) : Op → Kind
  | .move _ | .assign _ | .pick .. | .build .. | .nilCheck _ | .binOp .. | .unOp .. | .makeInterface .. | .makeFunc .. | .fieldAddr .. | .field .. | .indexAddr .. | .index .. | .extract .. => .pure
  | .alloc _ | .box .. | .buildSlice .. | .makeMap .. | .makeSlice .. => .make
  | .slice _ x _ _ _ => match evT tm x with | .sl id _ _ _ true => .read id | _ => .pure
  | .convert _ _ x => match evT tm x with | .sl id _ _ _ _ => .read id | .ysl _ _ id _ _ _ => .read id | _ => .pure
  | .load _ a => match evT tm a with | .ptr id _ => .read id | .ypt _ id _ _ _ => .read id | _ => .full
  | .call { callee := .builtin .len, args := as, .. } => match as.toList with
    | [x] => match evT tm x with | .mp id => .read id | _ => .pure
    | _ => .full
  | .call { callee := .builtin .cap, .. } => .pure
  | _ => .full

def memT (x : Option Tmp) (l : List Tmp) : Bool := match x with | some t => memN t l | none => false
def sameT : Option Tmp → Option Tmp → Bool
  | some a, some b => Nat.beq a b
  | _, _ => false
/-- No two operations that are unordered meet at a temporary. -/
def apartT (dst : Option Tmp) (looks : List Tmp) (r : DR) : Bool :=
  !memT r.dst looks && !sameT r.dst dst && !memT dst r.looks
def inDR (x : Nat) (r : DR) : Bool := (Nat.ble r.lo x && Nat.blt x r.hi) || memN x r.wr

def rangeL : Nat → Nat → Nat → List Nat
  | 0, _, _ => []
  | f + 1, lo, hi => bif Nat.blt lo hi then lo :: rangeL f (Nat.succ lo) hi else []
/-- The blocks that an unordered elder has made or written. -/
def hideL : List DR → Option (List Nat)
  | [] => some []
  | r :: l => bif Nat.ble r.hi (r.lo + 40) then match hideL l with | some x => some (rangeL 40 r.lo r.hi ++ r.wr ++ x) | none => none else none
def hideA (h : AH) : List Nat → Option (AH × List (Nat × AO))
  | [] => some (h, [])
  | x :: l => match h.get x with
    | some o => match h.put x none with
      | some h' => match hideA h' l with | some (h2, sv) => some (h2, (x, o) :: sv) | none => none
      | none => none
    | none => hideA h l
def showA (h : AH) : List (Nat × AO) → Option AH
  | [] => some h
  | (x, o) :: l => match h.get x with
    | some _ => none
    | none => match h.put x (some o) with | some h' => showA h' l | none => none
def mergeW (bs : Nat) (wl : List Nat) : List Nat → List Nat
  | [] => wl
  | x :: l => bif Nat.blt x bs && !memN x wl then x :: mergeW bs wl l else mergeW bs wl l

/-- One operation of such a region: the value, the heap, and what it wrote. -/
def viewRun (tm : Tr AV) (o : Oper) (h : AH) (un : List DR) : Option (AV × AH × List Nat × Bool × Option Nat) :=
  match kindA tm o.op with
  | .pure => match opF P rec tm o ⟨.lf, h.nx, h.nx, []⟩ with
    | some (v, h') => bif Nat.beq h'.nx h.nx then some (v, h, [], false, none) else none
    | none => none
  | .make => match opF P rec tm o ⟨.lf, h.nx, h.nx, []⟩ with
    | some (v, h') => bif Nat.beq h'.nx h.nx then some (v, h, [], false, none) else bif Nat.beq h'.nx (Nat.succ h.nx) then
        (match h'.get h.nx with
        | some o => match h.new o with | some h2 => some (v, h2, [], false, none) | none => none
        | none => none)
      else none
    | none => none
  | .read id => match h.get id with
    | some ob => bif un.any (inDR id) then none else
      match Tr.set 64 .lf (Nat.succ id) (some ob) with
      | some t => match opF P rec tm o ⟨t, h.nx, h.nx, []⟩ with
        | some (v, h') => bif Nat.beq h'.nx h.nx then (match h'.wl with | [] => some (v, h, [], false, some id) | _ => none) else none
        | none => none
      | none => none
    | none => none
  | .full => match hideL un with
    | some l => match hideA h l with
      | some (hv, sv) => match opF P rec tm o ⟨hv.t, hv.nx, hv.nx, []⟩ with
        | some (v, h') => match showA ⟨h'.t, h'.nx, 0, []⟩ sv with
          | some h2 => some (v, ⟨h2.t, h2.nx, h.bs, mergeW h.bs h.wl h'.wl⟩, h'.wl, true, none)
          | none => none
        | none => none
      | none => none
    | none => none

def noneW (nx : Nat) (wr : List Nat) (un : List DR) : Bool :=
  match wr with
  | [] => true
  | _ => wr.all (fun x => Nat.blt x nx) && un.all fun r => !r.full && (match r.ld with | some x => !memN x wr | none => true) && wr.all (fun x => !inDR x r)

def drawA (ops : List Oper) : List Oper → Nat → List DR → St → Option St
  | [], _, _, s => some s
  | o :: rest, i, recs, s =>
    match predsA i recs o.after.toList with
    | none => none
    | some pm =>
      let un := recs.filter fun r => !Nat.testBit pm r.i
      let lk := looksA ops o
      bif un.all (apartT o.dst lk) then
        match wantA ops s.tm o with
        | some true => match viewRun P rec s.tm o s.h un with
          | some (v, h, wr, full, ld) => bif noneW s.h.nx wr un then
              (match putA { s with h := h } o.dst v with
              | some s' => drawA ops rest (Nat.succ i) (⟨i, pm, o.dst, lk, s.h.nx, h.nx, wr, full, ld⟩ :: recs) s'
              | none => none) else none
          | none => none
        | some false => match putA s o.dst undefA with
          | some s' => drawA ops rest (Nat.succ i) (⟨i, pm, o.dst, lk, s.h.nx, s.h.nx, [], false, none⟩ :: recs) s'
          | none => none
        | none => none
      else none

def rangeFuncA (f : Operand) (ps : Array Tmp) (asg bo : Code) (s : St) : Option (AX × St) :=
  match evT s.tm f with
  | .fn gf caps =>
    match (match s.rd with
      | none => match s.h.new (.dfr true) with | some h => some (s.h.nx, s.h.nx :: s.df, h) | none => none
      | some l => match s.h.get l with | some (.loop _ _ _ _ _ _ _ D) => some (D, s.df, s.h) | _ => none) with
    | some (D, df, h) => match h.new (.loop .ready none s.tm s.sz ps asg bo D) with
      | some h1 => match callA P rec gf (.yl h.nx :: caps) h1 with
        | some (_, h2) => match h2.get h.nx with
          | some (.loop .busy _ _ _ _ _ _ _) => none
          | some (.loop _ pe tm sz ps' asg' bo' D') => match h2.put h.nx (some (.loop .exhausted pe tm sz ps' asg' bo' D')) with
            | some h3 => match pe with
              | none => some (.nm, { s with df := df, h := h3 })
              | some .ret => rec.code .ret { s with df := df, h := h3 }
              | some (.exit id) => rec.code (.exit id) { s with df := df, h := h3 }
              | some _ => none
            | none => none
          | _ => none
        | none => none
      | none => none
    | none => none
  | _ => none

def loopA : Nat → Code → St → Option (AX × St)
  | 0, _, _ => none
  | m + 1, c, s => match rec.code c s with | some (.nm, s') => loopA m c s' | r => r

def execStep (n : Nat) (c : Code) (s : St) : Option (AX × St) :=
  match c with
  | .skip | .label _ => some (.nm, s)
  | .seq a b => match rec.code a s with | some (.nm, s') => rec.code b s' | r => r
  | .cond c t e => match evT s.tm c with | .b x => bif x then rec.code t s else rec.code e s | .yb x => bif x then rec.code t s else rec.code e s | _ => none
  | .block id c => match rec.code c s with | some (.ex j, s') => bif Nat.beq j id then some (.nm, s') else some (.ex j, s') | r => r
  | .loop c => loopA rec n c s
  | .exit id => some (.ex id, s)
  | .ret => some (.rt, s)
  | .region _ ops false => match opsA P rec ops.toList ops.toList s with | some s' => some (.nm, s') | none => none
  | .region _ ops true => match drawA P rec ops.toList ops.toList 0 [] s with | some s' => some (.nm, s') | none => none
  | .rangeFunc f ps asg bo => rangeFuncA P rec f ps asg bo s
  | .scope c => rec.code c s
  | _ => none
end

def exec (P : Program) (sm : FuncId → Option Sm) : Nat → Code → St → Option (AX × St)
  | 0, _, _ => none
  | n + 1, c, s => execStep P ⟨exec P sm n, sm⟩ n c s
def noSm : FuncId → Option Sm := fun _ => none

def isB (b : Bool) : Option (AV × AH) → Bool
  | some (.b x, _) => x == b
  | _ => false
end Go.Proofs.YtlfehgagnelbhaaGreatDoor.Ex
