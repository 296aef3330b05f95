/- The texts ExA, ExB, ExC, ExD, ExE, ExF, ExG, ExH, ExI: The abstract machine: what a run of closed code computes, as a function. The abstract machine: regions that draw their order, and code. The abstract machine: what its states mean, and how they stay .. -/
import Derived.RangeFuncLeaves
import Derived.RangeFuncRecord
import Derived.OrdersIn
import Derived.KernelRfl
import Derived.Laws.CopyRow
import Derived.Deep.AppendSrc
import Derived.Laws.StructEq
set_option linter.all false
set_option maxRecDepth 100000
section
noncomputable section
namespace Go.Proofs.Ytknfdbilpfblnaa.Ex
open Go
theorem sI {α:Type}(a b:α):(some a=some b)=(a=b):=Option.some.injEq a b
inductive Tr (α:Type) where
 | lf
 | nd (v:Option α) (l r:Tr α)
/- The recursors themselves stand here: a kernel that runs these takes one step where 'match' takes four. -/
def Tr.get {α:Type}(t:Tr α):Nat->Option α:=
 Tr.rec (motive:=λ _=>Nat->Option α) (λ _=>none) (λ v _ _ gl gr p=>Bool.rec (motive:=λ _=>Option α) (Bool.rec (motive:=λ _=>Option α) (gr (Nat.div p 2)) (gl (Nat.div p 2)) (Nat.beq (Nat.mod p 2) 0)) v (Nat.beq p 1)) t
theorem Tr.get_lf {α:Type}(p:Nat):(Tr.lf:Tr α).get p=none:=rfl
theorem Tr.get_nd {α:Type}(v:Option α)(l r:Tr α)(p:Nat):(Tr.nd v l r).get p=bif Nat.beq p 1 then v else bif Nat.beq (Nat.mod p 2) 0 then l.get (Nat.div p 2) else r.get (Nat.div p 2):=by
 show Bool.rec (motive:=λ _=>Option α) (Bool.rec (motive:=λ _=>Option α) (r.get (Nat.div p 2)) (l.get (Nat.div p 2)) (Nat.beq (Nat.mod p 2) 0)) v (Nat.beq p 1)=_
 cases Nat.beq p 1 with
 | true=>rfl
 | false=>cases Nat.beq (Nat.mod p 2) 0 <;> rfl
def setL {α:Type}(w:Option α)(r:Tr α)(x:Option (Tr α)):Option (Tr α):=Option.rec (motive:=λ _=>Option (Tr α)) none (λ l=>some (.nd w l r)) x
def setR {α:Type}(w:Option α)(l:Tr α)(x:Option (Tr α)):Option (Tr α):=Option.rec (motive:=λ _=>Option (Tr α)) none (λ r=>some (.nd w l r)) x
def Tr.set {α:Type}(f:Nat):Tr α->Nat->Option α->Option (Tr α):=
 Nat.rec (motive:=λ _=>Tr α->Nat->Option α->Option (Tr α)) (λ _ _ _=>none) (λ _ ih t p v=>Tr.rec (motive:=λ _=>Option (Tr α))
  (Bool.rec (motive:=λ _=>Option (Tr α)) (Bool.rec (motive:=λ _=>Option (Tr α)) (setR none .lf (ih .lf (Nat.div p 2) v)) (setL none .lf (ih .lf (Nat.div p 2) v)) (Nat.beq (Nat.mod p 2) 0)) (some (.nd v .lf .lf)) (Nat.beq p 1))
  (λ w l r _ _=>Bool.rec (motive:=λ _=>Option (Tr α)) (Bool.rec (motive:=λ _=>Option (Tr α)) (setR w l (ih r (Nat.div p 2) v)) (setL w r (ih l (Nat.div p 2) v)) (Nat.beq (Nat.mod p 2) 0)) (some (.nd v l r)) (Nat.beq p 1)) t) f
theorem Tr.set_zero {α:Type}(t:Tr α)(p:Nat)(v:Option α):Tr.set 0 t p v=none:=rfl
theorem Tr.set_eq {α:Type}(f:Nat)(t:Tr α)(p:Nat)(v:Option α):Tr.set (f + 1) t p v=(match t with
 | .lf=>
   bif Nat.beq p 1 then some (.nd v .lf .lf)
   else bif Nat.beq (Nat.mod p 2) 0 then (match Tr.set f .lf (Nat.div p 2) v with | some l=>some (.nd none l .lf) | none=>none)
   else (match Tr.set f .lf (Nat.div p 2) v with | some r=>some (.nd none .lf r) | none=>none)
 | .nd w l r=>
   bif Nat.beq p 1 then some (.nd v l r)
   else bif Nat.beq (Nat.mod p 2) 0 then (match Tr.set f l (Nat.div p 2) v with | some l'=>some (.nd w l' r) | none=>none)
   else (match Tr.set f r (Nat.div p 2) v with | some r'=>some (.nd w l r') | none=>none)):=by
 cases t with
 | lf=>
   show Bool.rec (motive:=λ _=>Option (Tr α)) (Bool.rec (motive:=λ _=>Option (Tr α)) (setR none .lf (Tr.set f .lf (Nat.div p 2) v)) (setL none .lf (Tr.set f .lf (Nat.div p 2) v)) (Nat.beq (Nat.mod p 2) 0)) (some (.nd v .lf .lf)) (Nat.beq p 1)=_
   cases Nat.beq p 1 with
   | true=>rfl
   | false=>cases Nat.beq (Nat.mod p 2) 0 <;> cases h:Tr.set f .lf (Nat.div p 2) v <;> simp [h,setL,setR]
 | nd w l r=>
   show Bool.rec (motive:=λ _=>Option (Tr α)) (Bool.rec (motive:=λ _=>Option (Tr α)) (setR w l (Tr.set f r (Nat.div p 2) v)) (setL w r (Tr.set f l (Nat.div p 2) v)) (Nat.beq (Nat.mod p 2) 0)) (some (.nd v l r)) (Nat.beq p 1)=_
   cases Nat.beq p 1 with
   | true=>rfl
   | false=>cases Nat.beq (Nat.mod p 2) 0 <;> cases h:Tr.set f l (Nat.div p 2) v <;> cases h2:Tr.set f r (Nat.div p 2) v <;> simp [h,h2,setL,setR]
attribute [irreducible] Tr.get Tr.set
inductive AV where
 | b (x:Bool)
 | i (k:IntKind) (n:Int)
 | s (l:List UInt8)
 | ptr (id off:Nat)
 | np
 | sl (id off len cap:Nat) (u:Bool)
 | ns
 | es
 | mp (id:Nat)
 | nm
 | fn (f:FuncId) (caps:List AV)
 | yl (id:Nat)
 | nf
 | ifc (t:TypeId) (v:AV)
 | ni
 | agg (l:List AV)
 | tup (l:List AV)
 | o (v:Value)
 | gl (g off:Nat)
 /- symbols: a number,a truth value,a text,a slice of a block of n elements of z cells,a pointer into such a block,a slice without room -/
 | y (k:IntKind) (n:Int)
 | yb (x:Bool)
 | ys (l:List UInt8)
 | ysl (ro nil:Bool) (id z o n:Nat)
 | ypt (ro:Bool) (id z i j:Nat)
 | ye (nil:Bool)
 /- a list: n elements of z cells each,in a block that nobody writes any more (x: it has no room behind its end);a pointer to cell j of an element of such a list -/
 | lst (x nil:Bool) (z n:Nat) (f:Nat->Nat->AV)
 | lp (z j:Nat) (g:Nat->AV)
 /- one cell,of whatever it is -/
 | jk
 /- a row of one's own,from its block's beginning on: n elements,maybe none,with room behind them -/
 | yr (nil:Bool) (id z n:Nat)
inductive AO where
 | cells (c:List AV) (e:TypeId) (g:Option Nat)
 | map (es:List (AV × AV × Nat)) (clock:Nat)
 | loop (st:LoopState) (pe:Option Code) (tm:Tr AV) (sz:Nat) (ps:Array Tmp) (asg bo:Code) (D:Nat)
 | dfr (op:Bool)
 | sit (l:List UInt8) (pos:Nat)
 /- n elements of z cells each,element i's cell j being f i j;ro: a part of a block that is only read -/
 | arr (ro:Bool) (e:TypeId) (z n:Nat) (f:Nat->Nat->AV)
 /- a map from numbers to numbers: which keys are there,and their values -/
 | mapy (k kv:IntKind) (p:Int->Bool) (v:Int->Int)
 /- a map from numbers to structs of z cells: which keys are there,and the cells of their values -/
 | mapz (k:IntKind) (z:Nat) (p:Int->Bool) (f:Int->Nat->AV)
structure AH where
 t:Tr AO
 nx:Nat
 bs:Nat
 wl:List Nat
def memN (x:Nat)(l:List Nat):Bool:=
 List.rec (motive:=λ _=>Bool) false (λ y _ ih=>Bool.rec (motive:=λ _=>Bool) ih true (Nat.beq x y)) l
theorem memN_nil (x:Nat):memN x []=false:=rfl
theorem memN_cons (x y:Nat)(l:List Nat):memN x (y :: l)=bif Nat.beq x y then true else memN x l:=by
 show Bool.rec (motive:=λ _=>Bool) (memN x l) true (Nat.beq x y)=_
 cases Nat.beq x y <;> rfl
def AH.get (h:AH)(id:Nat):Option AO:=h.t.get (Nat.succ id)
def AH.put (h:AH)(id:Nat)(v:Option AO):Option AH:=
 match Tr.set 64 h.t (Nat.succ id) v with
 | some t=>some ⟨t,h.nx,h.bs,bif Nat.blt id h.bs then (bif memN id h.wl then h.wl else id :: h.wl) else h.wl⟩
 | none=>none
def AH.new (h:AH)(o:AO):Option AH:=
 match Tr.set 64 h.t (Nat.succ h.nx) (some o) with
 | some t=>some ⟨t,Nat.succ h.nx,h.bs,h.wl⟩
 | none=>none
structure St where
 tm:Tr AV
 sz:Nat
 df:List Nat
 rd:Option Nat
 h:AH
def ofV:Nat->Value->AV
 | _,.bool b=>.b b
 | _,.int k n=>.i k n
 | _,.string s=>.s s.data.toList
 | _,.pointer none=>.np
 | _,.slice none 0 0=>.ns
 | _,.map none=>.nm
 | _,.nilFunc=>.nf
 | _,.nilIface=>.ni
 | n + 1,.agg cs=>.agg (cs.toList.map (ofV n))
 | _,v=>.o v
def undefA:AV:=.tup []
def evT (tm:Tr AV)(x:Operand):AV:=
 Operand.rec (motive:=λ _=>AV) (λ t=>Option.rec (motive:=λ _=>AV) undefA (λ v=>v) (tm.get (Nat.succ t))) (λ v=>ofV 2 v) (λ g=>.gl g 0) (λ f=>.fn f []) x
theorem evT_tmp (tm:Tr AV)(t:Nat):evT tm (.tmp t)=(tm.get (t + 1)).getD undefA:=by
 show Option.rec (motive:=λ _=>AV) undefA (λ v=>v) (tm.get (Nat.succ t))=_
 cases tm.get (Nat.succ t) <;> rfl
def posLim:IntKind->Nat
 | .i8=>128 | .i16=>32768 | .i32=>2147483648 | .i64=>9223372036854775808
 | .u8=>256 | .u16=>65536 | .u32=>4294967296 | .u64=>18446744073709551616
def negLim:IntKind->Nat
 | .i8=>128 | .i16=>32768 | .i32=>2147483648 | .i64=>9223372036854775808
 | _=>0
def wrapF (k:IntKind):Int->Int
 | .ofNat a=>bif Nat.blt a (posLim k) then .ofNat a else k.wrap (.ofNat a)
 | .negSucc a=>bif Nat.blt a (negLim k) then .negSucc a else k.wrap (.negSucc a)
def ltI:Int->Int->Bool
 | .ofNat x,.ofNat y=>Nat.blt x y
 | .negSucc _,.ofNat _=>true
 | .ofNat _,.negSucc _=>false
 | .negSucc x,.negSucc y=>Nat.blt y x
def eqI:Int->Int->Bool
 | .ofNat x,.ofNat y=>Nat.beq x y
 | .negSucc x,.negSucc y=>Nat.beq x y
 | _,_=>false
def eqK:IntKind->IntKind->Bool
 | .i8,.i8 | .i16,.i16 | .i32,.i32 | .i64,.i64 | .u8,.u8 | .u16,.u16 | .u32,.u32 | .u64,.u64=>true
 | _,_=>false
def eqS:List UInt8->List UInt8->Bool
 | [],[]=>true
 | a :: x,b :: y=>bif Nat.beq a.toNat b.toNat then eqS x y else false
 | _,_=>false
def pureV:Sem Value->Option AV
 | .pure (.int k n)=>some (.i k n)
 | .pure (.bool b)=>some (.b b)
 | _=>none
def intBin (op:BinOp)(k:IntKind)(a b:Int):Option AV:=
 match op with
 | .add=>some (.i k (wrapF k (a + b)))
 | .sub=>some (.i k (wrapF k (a - b)))
 | .mul=>some (.i k (wrapF k (a * b)))
 | .quo | .rem=>pureV (Op.intDiv op k a b)
 | .and | .or | .xor | .andNot=>pureV (Op.intBits op k a b)
 | .eql=>some (.b (eqI a b))
 | .neq=>some (.b (!eqI a b))
 | .lss=>some (.b (ltI a b))
 | .leq=>some (.b (!ltI b a))
 | .gtr=>some (.b (ltI b a))
 | .geq=>some (.b (!ltI a b))
 | _=>none
def strBin (op:BinOp)(x y:List UInt8):Option AV:=
 match op with
 | .add=>bif Nat.ble (x.length + y.length) 9223372036854775807 then some (.s (x ++ y)) else none
 | .eql=>some (.b (eqS x y))
 | .neq=>some (.b (!eqS x y))
 | .lss=>some (.b (Op.bytesLess x y))
 | .leq=>some (.b (Op.bytesLess x y || eqS x y))
 | .gtr=>some (.b (!(Op.bytesLess x y || eqS x y)))
 | .geq=>some (.b (!Op.bytesLess x y))
 | _=>none
def nthA (l:List AV):Nat->Option AV:=
 List.rec (motive:=λ _=>Nat->Option AV) (λ _=>none) (λ a _ ih n=>Nat.rec (motive:=λ _=>Option AV) (some a) (λ k _=>ih k) n) l
theorem nthA_nil (n:Nat):nthA [] n=none:=rfl
theorem nthA_cons (a:AV)(l:List AV)(n:Nat):nthA (a :: l) n=(match n with | 0=>some a | n + 1=>nthA l n):=by cases n <;> rfl
def consO {α:Type}(a:α)(x:Option (List α)):Option (List α):=Option.rec (motive:=λ _=>Option (List α)) none (λ r=>some (a :: r)) x
def takeA (l:List AV):Nat->Option (List AV):=
 List.rec (motive:=λ _=>Nat->Option (List AV)) (λ n=>Nat.rec (motive:=λ _=>Option (List AV)) (some []) (λ _ _=>none) n) (λ a _ ih n=>Nat.rec (motive:=λ _=>Option (List AV)) (some []) (λ k _=>consO a (ih k)) n) l
theorem takeA_zero (l:List AV):takeA l 0=some []:=by cases l <;> rfl
theorem takeA_nil (n:Nat):takeA [] (n + 1)=none:=rfl
theorem takeA_cons (a:AV)(l:List AV)(n:Nat):takeA (a :: l) (n + 1)=(match takeA l n with | some r=>some (a :: r) | none=>none):=by
 show consO a (takeA l n)=_
 cases takeA l n <;> rfl
def sliceA:List AV->Nat->Nat->Option (List AV)
 | l,0,n=>takeA l n
 | [],_ + 1,_=>none
 | _ :: l,o + 1,n=>sliceA l o n
def spliceA (l:List AV):Nat->List AV->Option (List AV):=
 List.rec (motive:=λ _=>Nat->List AV->Option (List AV))
  (λ o vs=>Nat.rec (motive:=λ _=>Option (List AV)) (List.rec (motive:=λ _=>Option (List AV)) (some []) (λ _ _ _=>none) vs) (λ _ _=>none) o)
  (λ a l ih o vs=>Nat.rec (motive:=λ _=>Option (List AV)) (List.rec (motive:=λ _=>Option (List AV)) (some (a :: l)) (λ v vs _=>consO v (ih 0 vs)) vs) (λ k _=>consO a (ih k vs)) o) l
theorem spliceA_done (l:List AV):spliceA l 0 []=some l:=by cases l <;> rfl
theorem spliceA_here (a:AV)(l:List AV)(v:AV)(vs:List AV):spliceA (a :: l) 0 (v :: vs)=(match spliceA l 0 vs with | some r=>some (v :: r) | none=>none):=by
 show consO v (spliceA l 0 vs)=_
 cases spliceA l 0 vs <;> rfl
theorem spliceA_nil (v:AV)(vs:List AV):spliceA [] 0 (v :: vs)=none:=rfl
theorem spliceA_off (o:Nat)(vs:List AV):spliceA [] (o + 1) vs=none:=rfl
theorem spliceA_cons (a:AV)(l:List AV)(o:Nat)(vs:List AV):spliceA (a :: l) (o + 1) vs=(match spliceA l o vs with | some r=>some (a :: r) | none=>none):=by
 show consO a (spliceA l o vs)=_
 cases spliceA l o vs <;> rfl
def isCell:AV->Bool
 | .agg _ | .tup _ | .o (.agg _) | .o (.tuple _)=>false
 | _=>true
def allCell (l:List AV):Bool:=
 List.rec (motive:=λ _=>Bool) true (λ a _ ih=>Bool.rec (motive:=λ _=>Bool) false ih (isCell a)) l
theorem allCell_cons (a:AV)(l:List AV):allCell (a :: l)=bif isCell a then allCell l else false:=by
 show Bool.rec (motive:=λ _=>Bool) false (allCell l) (isCell a)=_
 cases isCell a <;> rfl
def cellsA:AV->List AV
 | .agg l=>l
 | .o (.agg cs)=>cs.toList.map .o
 | v=>[v]
section
variable (P : Program)
def aggT (t:TypeId):Option Bool:=
 match P.underlying t with
 | some (.struct _) | some (.array _ _)=>some true
 | some _=>some false
 | none=>none
def sizeT (t:TypeId):Option Nat:=
 match P.info? t with
 | some i=>some i.size
 | none=>none
def zeroT (t:TypeId):Option AV:=
 match P.info? t with
 | some i=>match i.zero with | some v=>some (ofV 2 v) | none=>none
 | none=>none
def GL:Nat->Option (List AV):=λ _=>none
def loadA (h:AH)(t:TypeId)(a:AV):Option AV:=
 match a with
 | .ptr id off=>match h.get id with
   | some (.cells c _ _)=>match aggT P t with
     | some true=>match sizeT P t with
       | some n=>match sliceA c off n with | some l=>some (.agg l) | none=>none
       | none=>none
     | some false=>nthA c off
     | none=>none
   | _=>none
 | .gl g off=>match GL g with
   | some c=>match aggT P t with
     | some true=>match sizeT P t with
       | some n=>match sliceA c off n with | some l=>some (.agg l) | none=>none
       | none=>none
     | some false=>nthA c off
     | none=>none
   | none=>none
 | _=>none
def storeA (h:AH)(t:TypeId)(a v:AV):Option AH:=
 match a with
 | .ptr id off=>match h.get id with
   | some (.cells c e g)=>match sizeT P t with
     | some n=>bif Nat.beq (cellsA v).length n then
        bif allCell (cellsA v) then match spliceA c off (cellsA v) with
         | some c'=>h.put id (some (.cells c' e g))
         | none=>none
        else none
       else none
     | none=>none
   | _=>none
 | _=>none
def fillA (place:Nat->Option (Nat × Nat))(cells:List AV):List (Nat × AV)->Option (List AV)
 | []=>some cells
 | (i,v) :: rest=>
   match place i with
   | none=>none
   | some (off,size)=>
     bif Nat.beq (cellsA v).length size then
      match spliceA cells off (cellsA v) with
      | some c=>fillA place c rest
      | none=>none
     else none
def fieldsPl:List Field->Option (List (Nat × Nat))
 | []=>some []
 | f :: l=>match sizeT P f.type,fieldsPl l with
   | some n,some r=>some ((f.offset,n) :: r)
   | _,_=>none
def nthP:List (Nat × Nat)->Nat->Option (Nat × Nat)
 | [],_=>none
 | a :: l,n=>match n with | 0=>some a | n + 1=>nthP l n
def partsA (tm:Tr AV)(ps:List (Nat × Operand)):List (Nat × AV):=ps.map λ p=>(p.1,evT tm p.2)
def buildA (t:TypeId)(parts:List (Nat × AV)):Option AV:=
 match zeroT P t with
 | some z=>match P.underlying t with
   | some (.struct fs)=>match fieldsPl P fs.toList with
     | some pl=>match fillA (nthP pl) (cellsA z) parts with | some c=>some (.agg c) | none=>none
     | none=>none
   | some (.array _ e)=>match sizeT P e with
     | some n=>match fillA (λ i=>some (i * n,n)) (cellsA z) parts with | some c=>some (.agg c) | none=>none
     | none=>none
   | _=>none
 | none=>none
def repA:Nat->List AV->List AV
 | 0,_=>[]
 | n + 1,l=>l ++ repA n l
def newA (h:AH)(o:AO)(v:Nat->AV):Option (AV × AH):=
 match h.new o with
 | some h'=>some (v h.nx,h')
 | none=>none
def fullG (z len:Nat)(c:List AV):Option Nat:=bif Nat.blt 1 z && Nat.beq c.length (len * z) then some z else none
def buildSliceA (h:AH)(t:TypeId)(len:Nat)(parts:List (Nat × AV)):Option (AV × AH):=
 match P.underlying t with
 | some (.slice e)=>match sizeT P e with
   | some n=>bif Nat.ble (len * n) 16777216 then
      match (bif Nat.beq (len * n) 0 then some [] else match zeroT P e with | some z=>(bif Nat.beq (cellsA z).length n then some (repA len (cellsA z)) else none) | none=>none) with
      | some z=>match fillA (λ i=>some (i * n,n)) z parts with
        | some c=>newA h (.cells c e (fullG n len c)) (λ id=>.sl id 0 len len false)
        | none=>none
      | none=>none
     else none
   | none=>none
 | _=>none
def makeSliceA (h:AH)(t:TypeId)(l c:Int):Option (AV × AH):=
 match l,c with
 | .ofNat l,.ofNat c=>
   match P.underlying t with
   | some (.slice e)=>match P.info? e with
     | some i=>bif Nat.ble l c && Nat.ble c 281474976710656 && Nat.ble (i.bytes * c) 140737488355328 then
        match (bif Nat.beq (c * i.size) 0 then some [] else match zeroT P e with | some z=>(bif Nat.beq (cellsA z).length i.size then some (repA c (cellsA z)) else none) | none=>none) with
        | some z=>newA h (.cells z e none) (λ id=>.sl id 0 l c false)
        | none=>none
       else none
     | none=>none
   | _=>none
 | _,_=>none
def nthF:List Field->Nat->Option Field
 | [],_=>none
 | a :: l,n=>match n with | 0=>some a | n + 1=>nthF l n
def fieldAddrA (t:TypeId)(x:AV)(f:Nat):Option AV:=
 match P.underlying t with
 | some (.struct fs)=>match nthF fs.toList f with
   | some fd=>match sizeT P fd.type with
     | some 0=>none
     | some _=>match x with | .ptr id off=>some (.ptr id (off + fd.offset)) | .gl g off=>some (.gl g (off + fd.offset)) | _=>none
     | none=>none
   | none=>none
 | _=>none
def partA (t:TypeId)(cs:List AV)(off:Nat):Option AV:=
 match aggT P t with
 | some true=>match sizeT P t with
   | some n=>match sliceA cs off n with | some l=>some (.agg l) | none=>none
   | none=>none
 | some false=>nthA cs off
 | none=>none
def fieldA (t:TypeId)(x:AV)(f:Nat):Option AV:=
 match P.underlying t,x with
 | some (.struct fs),.agg cs=>match nthF fs.toList f with
   | some fd=>partA P fd.type cs fd.offset
   | none=>none
 | _,_=>none
def indexAddrA (t:TypeId)(x ix:AV):Option AV:=
 match ix with
 | .i _ (.ofNat n)=>match P.underlying t,x with
   | some (.slice e),.sl id off len _ _=>bif Nat.blt n len then match sizeT P e with | some z=>some (.ptr id (off + n * z)) | none=>none else none
   | some (.array len e),.ptr id off=>bif Nat.blt n len then match sizeT P e with | some z=>some (.ptr id (off + n * z)) | none=>none else none
   | some (.array len e),.gl g off=>bif Nat.blt n len then match sizeT P e with | some z=>some (.gl g (off + n * z)) | none=>none else none
   | _,_=>none
 | _=>none
def indexA (t:TypeId)(x ix:AV):Option AV:=
 match ix with
 | .i _ (.ofNat n)=>match P.underlying t,x with
   | some (.array len e),.agg cs=>bif Nat.blt n len then match sizeT P e with | some z=>partA P e cs (n * z) | none=>none else none
   | some .string,.s l=>match l[n]? with | some c=>some (.i .u8 (.ofNat c.toNat)) | none=>none
   | _,_=>none
 | _=>none
def boundA (d:Nat):Option AV->Option Nat
 | none=>some d
 | some (.i _ (.ofNat n))=>some n
 | _=>none
def sliceOpA (h:AH)(t:TypeId)(x:AV)(lo hi mx:Option AV):Option AV:=
 match mx,hi with
 | some _,none=>none
 | _,_=>
 match P.underlying t,x with
 | some .string,.s l=>match mx,boundA 0 lo,boundA l.length hi with
   | none,some a,some b=>bif Nat.ble a b && Nat.ble b l.length then some (.s ((l.drop a).take (b - a))) else none
   | _,_,_=>none
 | some (.slice e),.ns=>match sizeT P e,boundA 0 lo,boundA 0 hi,boundA 0 mx with
   | some _,some 0,some 0,some 0=>some .ns
   | _,_,_,_=>none
 | some (.slice e),.sl id off len cap false=>match sizeT P e,boundA 0 lo,boundA len hi,boundA cap mx with
   | some z,some a,some b,some m=>bif Nat.ble a b && Nat.ble b m && Nat.ble m cap then
      (bif Nat.beq m a then some (.sl id off (b - a) 0 false) else some (.sl id (off + a * z) (b - a) (m - a) false)) else none
   | _,_,_,_=>none
 | some (.slice e),.sl id off len cap true=>match sizeT P e,boundA 0 lo,boundA len hi with
   | some z,some a,some b=>match mx with
     | none=>match h.get id with
       | some (.cells c _ (some z'))=>bif Nat.blt 0 z && Nat.beq z z' && Nat.ble a b && Nat.ble ((cap + b) * z) c.length then
         (bif Nat.blt ((cap + a) * z) c.length then some (.sl id (off + a * z) (b - a) (cap + a) true) else some .es) else none
       | _=>none
     | some (.i _ (.ofNat m))=>match h.get id with
       | some (.cells c _ (some z'))=>bif Nat.blt 0 z && Nat.beq z z' && Nat.ble a b && Nat.ble b m && Nat.ble ((cap + m) * z) c.length then
         (bif Nat.beq m a then some (.sl id off (b - a) 0 false) else some (.sl id (off + a * z) (b - a) (m - a) false)) else none
       | _=>none
     | _=>none
   | _,_,_=>none
 | some (.array n e),.ptr id off=>match sizeT P e,boundA 0 lo,boundA n hi,boundA n mx with
   | some z,some a,some b,some m=>bif Nat.ble a b && Nat.ble b m && Nat.ble m n then
      (bif Nat.beq m a then some (.sl id off (b - a) 0 false) else some (.sl id (off + a * z) (b - a) (m - a) false)) else none
   | _,_,_,_=>none
 | _,_=>none
def eqA:Nat->TypeId->AV->AV->Option Bool
 | 0,_,_,_=>none
 | d + 1,t,x,y=>
   match P.underlying t,x,y with
   | some .bool,.b a,.b b=>some (a == b)
   | some (.int _),.i k a,.i k' b=>bif eqK k k' then some (eqI a b) else none
   | some .string,.s a,.s b=>some (eqS a b)
   | some (.pointer _),.np,.np=>some true
   | some (.pointer _),.np,.ptr _ _=>some false
   | some (.pointer _),.ptr _ _,.np=>some false
   | some (.slice _),.ns,.ns=>some true
   | some (.slice _),.ns,.es=>some false
   | some (.slice _),.es,.ns=>some false
   | some (.slice _),.ns,.sl ..=>some false
   | some (.slice _),.sl ..,.ns=>some false
   | some (.map _ _),.nm,.nm=>some true
   | some (.map _ _),.nm,.mp _=>some false
   | some (.map _ _),.mp _,.nm=>some false
   | some (.func _ _ _),.nf,.nf=>some true
   | some (.func _ _ _),.nf,.fn _ _=>some false
   | some (.func _ _ _),.fn _ _,.nf=>some false
   | some (.interface _),.ni,.ifc _ _=>some false
   | some (.interface _),.ifc _ _,.ni=>some false
   | some (.interface _),.ifc tx vx,.ifc ty vy=>bif Nat.beq tx ty then (match P.info? tx with
     | some i=>bif i.comparable then eqA d tx vx vy else none
     | none=>none) else some false
   | some (.struct fs),.agg xs,.agg ys=>bif P.stoodInHeld t then none else
     fs.toList.foldr (fun f k => bif f.name == "_" then k else
      match partA P f.type xs f.offset,partA P f.type ys f.offset with
      | some a,some b=>match eqA d f.type a b with
        | some true=>k
        | some false=>some false
        | none=>none
      | _,_=>none) (some true)
   | _,_,_=>none
def guardFree (t:TypeId):Bool:=!P.eqGuardType P.depth t
def ptrish:AV->Bool
 | .np | .ptr .. | .ns | .es | .sl .. | .nm | .mp _ | .nf | .fn .. | .ni | .ifc ..=>true
 | _=>false
def litO:Operand->Operand->Bool
 | .const _,_=>true
 | _,.const _=>true
 | _,_=>false
def binA (op:BinOp)(t:TypeId)(lit:Bool)(x y:AV):Option AV:=
 match x,y with
 | .ni,.ni=>bif lit then (match P.underlying t with
   | some (.interface _)=>(match op with | .eql=>some (.b true) | .neq=>some (.b false) | _=>none)
   | _=>none) else none
 | .i k a,.i k' b=>match op with
   | .shl | .shr=>pureV (Op.shift op k a k' b)
   | _=>bif eqK k k' then intBin op k a b else none
 | .s a,.s b=>strBin op a b
 | .agg _,.agg _=>bif guardFree P t then match op with
   | .eql=>(eqA P 64 t x y).map .b
   | .neq=>(eqA P 64 t x y).map λ r=>.b !r
   | _=>none else none
 | .b _a,.b _b=>match op with
   | .eql=>(eqA P 64 t x y).map .b
   | .neq=>(eqA P 64 t x y).map λ r=>.b !r
   | _=>none
 | x,y=>bif ptrish x then match op with
   | .eql=>(eqA P 64 t x y).map .b
   | .neq=>(eqA P 64 t x y).map λ r=>.b !r
   | _=>none else none
def convA (src dst:TypeId)(x:AV):Option AV:=
 match P.underlying src,P.underlying dst,x with
 | some _,some (.int k),.i _ n=>some (.i k (wrapF k n))
 | some _,some .string,.s l=>some (.s l)
 | _,_,_=>none
def findA (k:IntKind)(n:Int):List (AV × AV × Nat)->Nat->Option (Option (Nat × AV))
 | [],_=>some none
 | (.i k' m,v,_) :: es,j=>bif eqK k k' then (bif eqI n m then some (some (j,v)) else findA k n es (j + 1)) else none
 | _ :: _,_=>none
def keyA (t:TypeId):AV->Option (IntKind × Int)
 | .i k n=>match P.underlying t with | some (.map kt _)=>(match P.underlying kt with | some (.int _)=>some (k,n) | _=>none) | _=>none
 | _=>none
def elemZ (t:TypeId):Option AV:=match P.underlying t with | some (.map _ e)=>zeroT P e | _=>none
def lookT (t:TypeId)(ok:Bool):Option (Nat × AV)->Option AV
 | some (_,v)=>some (bif ok then .tup [v,.b true] else v)
 | none=>match elemZ P t with | some z=>some (bif ok then .tup [z,.b false] else z) | none=>none
def entriesA (h:AH):AV->Option (List (AV × AV × Nat))
 | .nm=>some []
 | .mp id=>match h.get id with | some (.map es _)=>some es | _=>none
 | _=>none
def plainK:List Field->Bool
 | []=>true
 | f :: fs=>(match P.underlying f.type with | some (.int _)=>true | some .string=>true | some .bool=>true | _=>false) && plainK fs
def partsK (xs:List AV):List Field->Bool
 | []=>true
 | f :: fs=>(match partA P f.type xs f.offset with | some _=>true | none=>false) && partsK xs fs
def keyG (t:TypeId):AV->Option TypeId
 | .agg xs=>match P.underlying t with
   | some (.map kt _)=>(match P.underlying kt with
     | some (.struct fs)=>bif plainK P fs.toList && partsK P xs fs.toList then some kt else none
     | _=>none)
   | _=>none
 | _=>none
def findG (kt:TypeId)(k:AV):List (AV × AV × Nat)->Nat->Option (Option (Nat × AV))
 | [],_=>some none
 | (k',v,_) :: es,j=>match eqA P 64 kt k k' with
   | some true=>some (some (j,v))
   | some false=>findG kt k es (j + 1)
   | none=>none
def lookupA (h:AH)(t:TypeId)(m k:AV)(ok:Bool):Option AV:=
 match keyA P t k,entriesA h m with
 | some (kk,n),some es=>match findA kk n es 0 with | some o=>lookT P t ok o | none=>none
 | none,some es=>match keyG P t k with
   | some kt=>(match findG P kt k es 0 with | some o=>lookT P t ok o | none=>none)
   | none=>none
 | _,_=>none
def modA (k v:AV):List (AV × AV × Nat)->Nat->List (AV × AV × Nat)
 | [],_=>[]
 | (_,_,b) :: es,0=>(k,v,b) :: es
 | e :: es,j + 1=>e :: modA k v es j
def delA:List (AV × AV × Nat)->Nat->List (AV × AV × Nat)
 | [],_=>[]
 | _ :: es,0=>es
 | e :: es,j + 1=>e :: delA es j
def mapUpdateG (h:AH)(t:TypeId)(m k v:AV):Option AH:=
 match keyG P t k,m with
 | some kt,.mp id=>match h.get id with
   | some (.map es c)=>match findG P kt k es 0 with
     | some none=>h.put id (some (.map (es ++ [(k,v,c)]) (c + 1)))
     | _=>none
   | _=>none
 | _,_=>none
def mapUpdateA (h:AH)(t:TypeId)(m k v:AV):Option AH:=
 match keyA P t k,m with
 | none,m=>mapUpdateG P h t m k v
 | some (kk,n),.mp id=>match h.get id with
   | some (.map es c)=>match findA kk n es 0 with
     | some (some (j,_))=>h.put id (some (.map (modA k v es j) c))
     | some none=>h.put id (some (.map (es ++ [(k,v,c)]) (c + 1)))
     | none=>none
   | _=>none
 | _,_=>none
def deleteA (h:AH)(t:TypeId)(m k:AV):Option AH:=
 match keyA P t k,m with
 | some _,.nm=>some h
 | some (kk,n),.mp id=>match h.get id with
   | some (.map es c)=>match findA kk n es 0 with
     | some (some (j,_))=>h.put id (some (.map (delA es j) c))
     | some none=>h.put id (some (.map es c))
     | none=>none
   | _=>none
 | _,_=>none
def srcA (h:AH)(z:Nat):AV->Option (Nat × List AV)
 | .ns=>some (0,[])
 | .es=>some (0,[])
 | .sl id off n _ _=>match h.get id with
   | some (.cells c _ _)=>match sliceA c off (n * z) with | some l=>some (n,l) | none=>none
   | _=>none
 | .s l=>bif Nat.beq z 1 then some (l.length,l.map λ c=>.i .u8 (.ofNat c.toNat)) else none
 | _=>none
def srcOk:Option TypeDesc->Bool
 | some (.slice _) | some .string=>true
 | _=>false
def growOk (n bytes:Nat):Bool:=Nat.ble (4 * n * bytes) 140737488355328
def appendA (h:AH)(t:TypeId)(at1:Option TypeId)(s x:AV):Option (AV × AH):=
 match P.underlying t with
 | some (.slice e)=>match P.info? e,zeroT P e with
   | some i,some z=>bif srcOk (at1.bind P.underlying) && Nat.beq (cellsA z).length i.size && Nat.blt 0 i.bytes && Nat.blt 0 i.size then
     match srcA h i.size x with
     | some (n,new)=>bif allCell new then
       match s with
       | .ns=>bif Nat.beq n 0 then some (.ns,h) else bif growOk n i.bytes then newA h (.cells new e (some i.size)) (λ id=>.sl id 0 n 0 true) else none
       | .sl id off len cap u=>bif Nat.beq n 0 && Nat.ble len cap && !u then some (.sl id off len cap u,h) else
         match h.get id with
         | some (.cells c e' g)=>
           (match u with
           | false=>bif Nat.ble (len + n) cap then
              (match spliceA c (off + len * i.size) new with | some c'=>(match h.put id (some (.cells c' e' g)) with | some h'=>some (.sl id off (len + n) cap false,h') | none=>none) | none=>none)
             else bif growOk (len + n) i.bytes then
              (match sliceA c off (len * i.size) with | some old=>newA h (.cells (old ++ new) e (some i.size)) (λ id=>.sl id 0 (len + n) 0 true) | none=>none) else none
           | true=>
              match g with
              | none=>none
              | some z'=>bif Nat.beq z' i.size then
                (bif Nat.ble ((cap + len + n) * i.size) c.length then
                (match spliceA c (off + len * i.size) new with | some c'=>(match h.put id (some (.cells c' e' g)) with | some h'=>some (.sl id off (len + n) cap true,h') | none=>none) | none=>none)
                else bif Nat.beq off 0 && Nat.beq cap 0 && Nat.beq c.length (len * i.size) && Nat.beq e e' && growOk (len + n) i.bytes then
                (match h.put id none with | some h'=>newA h' (.cells (c ++ new) e (some i.size)) (λ id=>.sl id 0 (len + n) 0 true) | none=>none) else none) else none)
         | _=>none
       | _=>none
       else none
     | none=>none
     else none
   | _,_=>none
 | _=>none
def strL:List AV->Option (List UInt8)
 | []=>some []
 | .i k n :: l=>bif eqK k .u8 then (match strL l with | some r=>some (UInt8.ofNat n.toNat :: r) | none=>none) else none
 | _=>none
def byteSl (src dst:TypeId):Bool:=
 match P.underlying src,P.underlying dst with
 | some (.slice e),some .string=>(match P.underlying e with | some (.int k)=>eqK k .u8 | _=>false)
 | _,_=>false
def slV:AV->Bool
 | .ns | .es | .sl .. | .ysl .. | .lst .. | .ye _ | .yr ..=>true
 | _=>false
def convHA (h:AH)(src dst:TypeId)(x:AV):Option AV:=
 bif slV x then
  (bif byteSl P src dst then (match srcA h 1 x with
    | some (_,new)=>bif allCell new then (match strL new with | some l=>some (.s l) | none=>none) else none
    | none=>none) else none)
 else convA P src dst x
def copyA (h:AH)(t:TypeId)(d x:AV):Option (AV × AH):=
 match P.underlying t with
 | some (.slice e)=>match sizeT P e with
   | some z=>match d with
     | .ns=>match srcA h z x with | some (_,new)=>bif allCell new then some (.i .i64 0,h) else none | none=>none
     | .sl id off len _ _=>match srcA h z x with
       | some (n,new)=>match h.get id with
         | some (.cells c e' g)=>bif !allCell new then none else match takeA new ((min n len) * z) with
           | some vs=>match spliceA c off vs with
             | some c'=>match h.put id (some (.cells c' e' g)) with | some h'=>some (.i .i64 (.ofNat (min n len)),h') | none=>none
             | none=>none
           | none=>none
         | _=>none
       | none=>none
     | _=>none
   | none=>none
 | _=>none
def lenA (h:AH)(t:TypeId)(x:AV):Option AV:=
 match P.underlying t,x with
 | some .string,.s l=>some (.i .i64 (.ofNat l.length))
 | some (.slice _),.ns=>some (.i .i64 0)
 | some (.slice _),.es=>some (.i .i64 0)
 | some (.slice _),.sl _ _ n _ _=>some (.i .i64 (.ofNat n))
 | some (.array n _),_=>some (.i .i64 (.ofNat n))
 | some (.map _ _),.nm=>some (.i .i64 0)
 | some (.map _ _),.mp id=>match h.get id with | some (.map es _)=>some (.i .i64 (.ofNat es.length)) | _=>none
 | _,_=>none
def capA (t:TypeId)(x:AV):Option AV:=
 match P.underlying t,x with
 | some (.slice _),.ns=>some (.i .i64 0)
 | some (.slice _),.sl _ _ _ c false=>some (.i .i64 (.ofNat c))
 | some (.array n _),_=>some (.i .i64 (.ofNat n))
 | _,_=>none
def clearA (h:AH)(t:TypeId)(x:AV):Option AH:=
 match P.underlying t,x with
 | some (.slice _),.ns=>some h
 | some (.slice _),.es=>some h
 | some (.slice e),.sl id off n _ _=>bif Nat.beq n 0 then some h else match sizeT P e,zeroT P e,h.get id with
   | some z,some v,some (.cells c e' g)=>bif Nat.beq (cellsA v).length z && Nat.blt 0 z && allCell (cellsA v) then
     (match spliceA c off (repA n (cellsA v)) with | some c'=>h.put id (some (.cells c' e' g)) | none=>none) else none
   | _,_,_=>none
 | _,_=>none
def minA:AV->AV->Option AV
 | .i k x,.i _ y=>some (.i k (bif ltI y x then y else x))
 | _,_=>none
def maxA:AV->AV->Option AV
 | .i k x,.i _ y=>some (.i k (bif ltI x y then y else x))
 | _,_=>none
inductive OutA where
 | val (v:AV) (h:AH)
 | enter (f:FuncId) (args:List AV) (h:AH)
 | yld (l:Nat) (args:List AV) (h:AH)
def val? (h:AH):Option AV->Option OutA
 | some v=>some (.val v h)
 | none=>none
def val2:Option (AV × AH)->Option OutA
 | some (v,h)=>some (.val v h)
 | none=>none
def skip?:Option AH->Option OutA
 | some h=>some (.val undefA h)
 | none=>none
def opD (op:Op):Program->Tr AV->AH->Option OutA:=
 @Op.rec (λ _=>Program->Tr AV->AH->Option OutA)
  (λ x=>λ P tm h=>some (.val (evT tm x) h))
  (λ x=>λ P tm h=>some (.val (evT tm x) h))
  (λ c a b=>λ P tm h=>match evT tm c with | .b t=>some (.val (bif t then evT tm a else evT tm b) h) | _=>none)
  (λ t=>λ P tm h=>match zeroT P t with | some z=>val2 (newA h (.cells (cellsA z) t none) (λ id=>.ptr id 0)) | none=>none)
  (λ t x=>λ P tm h=>val2 (newA h (.cells (cellsA (evT tm x)) t none) (λ id=>.ptr id 0)))
  (λ t ps=>λ P tm h=>val? h (buildA P t (partsA tm ps.toList)))
  (λ t n ps=>λ P tm h=>val2 (buildSliceA P h t n (partsA tm ps.toList)))
  (λ t m k v=>λ P tm h=>skip? (mapUpdateA P h t (evT tm m) (evT tm k) (evT tm v)))
  (λ t a=>λ P tm h=>val? h (loadA P h t (evT tm a)))
  (λ t a v=>λ P tm h=>skip? (storeA P h t (evT tm a) (evT tm v)))
  (λ _=>λ _ _ _=>none)
  (λ _=>λ _ _ _=>none)
  (λ x=>λ P tm h=>match evT tm x with
    | .ptr id off=>some (.val (.ptr id off) h)
    | .fn f c=>some (.val (.fn f c) h)
    | .yl l=>some (.val (.yl l) h)
    | .gl g off=>some (.val (.gl g off) h)
    | _=>none)
  (λ op t x y _=>λ P tm h=>val? h (binA P op t (litO x y) (evT tm x) (evT tm y)))
  (λ op _ x=>λ P tm h=>match op,evT tm x with
    | .not,.b t=>some (.val (.b !t) h)
    | op,.i k n=>val? h (pureV (Op.unary op (.int k n)))
    | _,_=>none)
  (λ src dst x=>λ P tm h=>val? h (convHA P h src dst (evT tm x)))
  (λ _ _=>λ _ _ _=>none)
  (λ t x=>λ P tm h=>match P.underlying t with
    | some (.interface _)=>none
    | some _=>some (.val (.ifc t (evT tm x)) h)
    | none=>none)
  (λ fn first caps=>λ P tm h=>match fn with
    | .func f=>bif Nat.beq first.size 0 then some (.val (.fn f (caps.toList.map (evT tm))) h) else none
    | _=>none)
  (λ _ r=>λ P tm h=>match r with
    | none=>val2 (newA h (.map [] 0) (λ id=>.mp id))
    | some _=>none)
  (λ _ _=>λ _ _ _=>none)
  (λ t l c=>λ P tm h=>match evT tm l,evT tm c with
    | .i _ l,.i _ c=>val2 (makeSliceA P h t l c)
    | _,_=>none)
  (λ t x lo hi mx=>λ P tm h=>val? h (sliceOpA P h t (evT tm x) (lo.map (evT tm)) (hi.map (evT tm)) (mx.map (evT tm))))
  (λ t x f=>λ P tm h=>val? h (fieldAddrA P t (evT tm x) f))
  (λ t x f=>λ P tm h=>val? h (fieldA P t (evT tm x) f))
  (λ t x ix=>λ P tm h=>val? h (indexAddrA P t (evT tm x) (evT tm ix)))
  (λ t x ix=>λ P tm h=>val? h (indexA P t (evT tm x) (evT tm ix)))
  (λ t m k ok=>λ P tm h=>val? h (lookupA P h t (evT tm m) (evT tm k) ok))
  (λ t m k v=>λ P tm h=>skip? (mapUpdateA P h t (evT tm m) (evT tm k) (evT tm v)))
  (λ _ _ _=>λ _ _ _=>none)
  (λ _ _ _ _=>λ _ _ _=>none)
  (λ _ _=>λ _ _ _=>none)
  (λ _ _=>λ _ _ _=>none)
  (λ _=>λ _ _ _=>none)
  (λ _ _ _ _=>λ _ _ _=>none)
  (λ x n=>λ P tm h=>match evT tm x with
    | .tup l=>val? h (nthA l n)
    | _=>none)
  (λ c=>λ P tm h=>match c.callee with
    | .value f=>match evT tm f with
      | .fn f caps=>some (.enter f (c.args.toList.map (evT tm) ++ caps) h)
      | .yl l=>some (.yld l (c.args.toList.map (evT tm)) h)
      | _=>none
    | .builtin .len=>match c.argTypes.toList,c.args.toList with
      | t :: _,x :: _=>val? h (lenA P h t (evT tm x))
      | _,_=>none
    | .builtin .cap=>match c.argTypes.toList,c.args.toList with
      | t :: _,x :: _=>val? h (capA P t (evT tm x))
      | _,_=>none
    | .builtin .append=>match c.argTypes.toList,c.args.toList with
      | t :: ts,x :: y :: _=>val2 (appendA P h t ts.head? (evT tm x) (evT tm y))
      | _,_=>none
    | .builtin .copy=>match c.argTypes.toList,c.args.toList with
      | t :: _,x :: y :: _=>val2 (copyA P h t (evT tm x) (evT tm y))
      | _,_=>none
    | .builtin .delete=>match c.argTypes.toList,c.args.toList with
      | t :: _,x :: y :: _=>match deleteA P h t (evT tm x) (evT tm y) with | some h'=>some (.val undefA h') | none=>none
      | _,_=>none
    | .builtin .clear=>match c.argTypes.toList,c.args.toList with
      | t :: _,x :: _=>skip? (clearA P h t (evT tm x))
      | _,_=>none
    | .builtin .min=>match c.args.toList with
      | [x,y]=>val? h (minA (evT tm x) (evT tm y))
      | _=>none
    | .builtin .max=>match c.args.toList with
      | [x,y]=>val? h (maxA (evT tm x) (evT tm y))
      | _=>none
    | _=>none)
  (λ _=>λ _ _ _=>none)
  (λ _=>λ _ _ _=>none)
  (λ _=>λ _ _ _=>none)
  (λ _ _=>λ _ _ _=>none)
  (λ _ _ _=>λ _ _ _=>none)
  (λ _ _=>λ _ _ _=>none)
  op
def opA (tm:Tr AV)(o:Oper)(h:AH):Option OutA:=opD o.op P tm h
theorem opA_eq (P:Program)(tm:Tr AV)(o:Oper)(h:AH):opA P tm o h=(match o.op with
 | .move x | .assign x=>some (.val (evT tm x) h)
 | .pick c a b=>match evT tm c with | .b t=>some (.val (bif t then evT tm a else evT tm b) h) | _=>none
 | .alloc t=>match zeroT P t with | some z=>val2 (newA h (.cells (cellsA z) t none) (λ id=>.ptr id 0)) | none=>none
 | .box t x=>val2 (newA h (.cells (cellsA (evT tm x)) t none) (λ id=>.ptr id 0))
 | .build t ps=>val? h (buildA P t (partsA tm ps.toList))
 | .buildSlice t n ps=>val2 (buildSliceA P h t n (partsA tm ps.toList))
 | .load t a=>val? h (loadA P h t (evT tm a))
 | .store t a v=>skip? (storeA P h t (evT tm a) (evT tm v))
 | .nilCheck x=>match evT tm x with
   | .ptr id off=>some (.val (.ptr id off) h)
   | .fn f c=>some (.val (.fn f c) h)
   | .yl l=>some (.val (.yl l) h)
   | .gl g off=>some (.val (.gl g off) h)
   | _=>none
 | .binOp op t x y _=>val? h (binA P op t (litO x y) (evT tm x) (evT tm y))
 | .unOp op _ x=>match op,evT tm x with
   | .not,.b t=>some (.val (.b !t) h)
   | op,.i k n=>val? h (pureV (Op.unary op (.int k n)))
   | _,_=>none
 | .convert src dst x=>val? h (convHA P h src dst (evT tm x))
 | .makeInterface t x=>match P.underlying t with
   | some (.interface _)=>none
   | some _=>some (.val (.ifc t (evT tm x)) h)
   | none=>none
 | .makeFunc (.func f) first caps=>bif Nat.beq first.size 0 then some (.val (.fn f (caps.toList.map (evT tm))) h) else none
 | .makeMap _ none=>val2 (newA h (.map [] 0) (λ id=>.mp id))
 | .makeSlice t l c=>match evT tm l,evT tm c with
   | .i _ l,.i _ c=>val2 (makeSliceA P h t l c)
   | _,_=>none
 | .slice t x lo hi mx=>val? h (sliceOpA P h t (evT tm x) (lo.map (evT tm)) (hi.map (evT tm)) (mx.map (evT tm)))
 | .fieldAddr t x f=>val? h (fieldAddrA P t (evT tm x) f)
 | .field t x f=>val? h (fieldA P t (evT tm x) f)
 | .indexAddr t x ix=>val? h (indexAddrA P t (evT tm x) (evT tm ix))
 | .index t x ix=>val? h (indexA P t (evT tm x) (evT tm ix))
 | .lookup t m k ok=>val? h (lookupA P h t (evT tm m) (evT tm k) ok)
 | .mapUpdate t m k v=>skip? (mapUpdateA P h t (evT tm m) (evT tm k) (evT tm v))
 | .insert t m k v=>skip? (mapUpdateA P h t (evT tm m) (evT tm k) (evT tm v))
 | .extract x n=>match evT tm x with
   | .tup l=>val? h (nthA l n)
   | _=>none
 | .call c=>match c.callee with
   | .value f=>match evT tm f with
     | .fn f caps=>some (.enter f (c.args.toList.map (evT tm) ++ caps) h)
     | .yl l=>some (.yld l (c.args.toList.map (evT tm)) h)
     | _=>none
   | .builtin .len=>match c.argTypes.toList,c.args.toList with
     | t :: _,x :: _=>val? h (lenA P h t (evT tm x))
     | _,_=>none
   | .builtin .cap=>match c.argTypes.toList,c.args.toList with
     | t :: _,x :: _=>val? h (capA P t (evT tm x))
     | _,_=>none
   | .builtin .append=>match c.argTypes.toList,c.args.toList with
     | t :: ts,x :: y :: _=>val2 (appendA P h t ts.head? (evT tm x) (evT tm y))
     | _,_=>none
   | .builtin .copy=>match c.argTypes.toList,c.args.toList with
     | t :: _,x :: y :: _=>val2 (copyA P h t (evT tm x) (evT tm y))
     | _,_=>none
   | .builtin .delete=>match c.argTypes.toList,c.args.toList with
     | t :: _,x :: y :: _=>match deleteA P h t (evT tm x) (evT tm y) with | some h'=>some (.val undefA h') | none=>none
     | _,_=>none
   | .builtin .clear=>match c.argTypes.toList,c.args.toList with
     | t :: _,x :: _=>skip? (clearA P h t (evT tm x))
     | _,_=>none
   | .builtin .min=>match c.args.toList with
     | [x,y]=>val? h (minA (evT tm x) (evT tm y))
     | _=>none
   | .builtin .max=>match c.args.toList with
     | [x,y]=>val? h (maxA (evT tm x) (evT tm y))
     | _=>none
   | _=>none
 | _=>none):=by
 unfold opA opD
 generalize o.op=op
 cases op <;> first | rfl | (rename_i a _ _;cases a <;> rfl) | (rename_i a;cases a <;> rfl)
end
inductive T (α:Type) where
 | ret (a:α)
 | br (b:Bool) (t e:T α)
 | no
def T.sel {α:Type}:T α->Option α
 | .ret a=>some a
 | .br b t e=>bif b then t.sel else e.sel
 | .no=>none
def T.bind {α β:Type}:T α->(α->T β)->T β
 | .ret a,f=>f a
 | .br b t e,f=>.br b (t.bind f) (e.bind f)
 | .no,_=>.no
def T.all {α:Type}(p:α->Prop):T α->Prop
 | .ret a=>p a
 | .br b t e=>(b=true->t.all p)/\(b=false->e.all p)
 | .no=>False
def T.must {α:Type}(b:Bool)(t:T α):T α:=.br b t .no
def T.of {α:Type}:Option α->T α
 | some a=>.ret a
 | none=>.no
def yAdd (a b:Int):Int:=a + b
def ySub (a b:Int):Int:=a - b
def yMul (a b:Int):Int:=a * b
def yQuo (k:IntKind)(a b:Int):Int:=k.wrap (a.tdiv b)
def yRem (a b:Int):Int:=a.tmod b
def yWrap (k:IntKind)(a:Int):Int:=k.wrap a
def yBits (op:BinOp)(k:IntKind)(a b:Int):Int:=match Op.intBits op k a b with | .pure (.int _ n)=>n | _=>0
def yShl (k:IntKind)(a b:Int):Int:=k.wrap (a * 2 ^ (min b.toNat k.bits))
def yShr (k:IntKind)(a b:Int):Int:=a.fdiv (2 ^ (min b.toNat k.bits))
def yLt (a b:Int):Bool:=decide (a < b)
def yLe (a b:Int):Bool:=decide (a<=b)
def yEq (a b:Int):Bool:=decide (a=b)
def yNot (a:Bool):Bool:=!a
def yAnd (a b:Bool):Bool:=a && b
def yIff (a b:Bool):Bool:=a == b
def yIn (a:Int)(n:Nat):Bool:=decide (0<=a/\a < n)
def yNat (a:Int):Nat:=a.toNat
def yInt (n:Nat):Int:=n
def yNadd (a b:Nat):Nat:=a + b
def yNsub (a b:Nat):Nat:=a - b
def yNlt (a b:Nat):Bool:=decide (a < b)
def yNle (a b:Nat):Bool:=decide (a<=b)
def yNeq (a b:Nat):Bool:=decide (a=b)
def ySel (b:Bool)(x y:Int):Int:=bif b then x else y
def ySelB (b x y:Bool):Bool:=bif b then x else y
def ySelN (b:Bool)(x y:Nat):Nat:=bif b then x else y
def yLen (l:List UInt8):Nat:=l.length
def yCat (a b:List UInt8):List UInt8:=a ++ b
def ySlice (l:List UInt8)(a b:Nat):List UInt8:=(l.drop a).take (b - a)
def yByte (l:List UInt8)(i:Nat):Int:=((l.getD i 0).toNat:Int)
def ySEq (a b:List UInt8):Bool:=eqS a b
def ySLt (a b:List UInt8):Bool:=Op.bytesLess a b
def yOr (a b:Bool):Bool:=a || b
def yGrow (n bytes:Nat):Bool:=growOk n bytes
def yI:AV->Option (IntKind × Int)
 | .i k n=>some (k,n)
 | .y k n=>some (k,n)
 | _=>none
def yB:AV->Option Bool
 | .b x=>some x
 | .yb x=>some x
 | _=>none
def yS:AV->Option (List UInt8)
 | .s l=>some l
 | .ys l=>some l
 | _=>none
def yIx:AV->Option (Int × Nat)
 | .i _ (.ofNat n)=>some (.ofNat n,n)
 | .y _ n=>some (n,yNat n)
 | _=>none
def selA (b:Bool)(x y:AV):AV:=
 match x,y with
 | .y k a,.y k' c=>bif eqK k k' then .y k (ySel b a c) else bif b then x else y
 | .i k a,.y k' c=>bif eqK k k' then .y k (ySel b a c) else bif b then x else y
 | .y k a,.i k' c=>bif eqK k k' then .y k (ySel b a c) else bif b then x else y
 | .i k a,.i k' c=>bif eqK k k' then .y k (ySel b a c) else bif b then x else y
 | .yb a,.yb c=>.yb (ySelB b a c)
 | .b a,.yb c=>.yb (ySelB b a c)
 | .yb a,.b c=>.yb (ySelB b a c)
 | .b a,.b c=>.yb (ySelB b a c)
 | .lst x nil z n f,.lst x' nil' z' n' f'=>bif Nat.beq z z' then .lst (x && x') (ySelB b nil nil') z (ySelN b n n') (λ i j=>selA b (f i j) (f' i j)) else bif b then .lst x nil z n f else .lst x' nil' z' n' f'
 | .lst x nil z n f,.ns=>.lst x (ySelB b nil true) z (ySelN b n 0) f
 | .ns,.lst x nil z n f=>.lst x (ySelB b true nil) z (ySelN b 0 n) f
 | x,y=>bif b then x else y
def intY (op:BinOp)(k:IntKind)(a b:Int):T AV:=
 match op with
 | .add=>.ret (.y k (yWrap k (yAdd a b)))
 | .sub=>.ret (.y k (yWrap k (ySub a b)))
 | .mul=>.ret (.y k (yWrap k (yMul a b)))
 | .quo=>.br (yEq b 0) .no (.ret (.y k (yQuo k a b)))
 | .rem=>.br (yEq b 0) .no (.ret (.y k (yRem a b)))
 | .and | .or | .xor | .andNot=>.ret (.y k (yBits op k a b))
 | .eql=>.ret (.yb (yEq a b))
 | .neq=>.ret (.yb (yNot (yEq a b)))
 | .lss=>.ret (.yb (yLt a b))
 | .leq=>.ret (.yb (yLe a b))
 | .gtr=>.ret (.yb (yLt b a))
 | .geq=>.ret (.yb (yLe b a))
 | _=>.no
def shiftY (op:BinOp)(k:IntKind)(a b:Int):T AV:=
 match op with
 | .shl=>.must (yLe 0 b) (.ret (.y k (yShl k a b)))
 | .shr=>.must (yLe 0 b) (.ret (.y k (yShr k a b)))
 | _=>.no
def strY (op:BinOp)(x y:List UInt8):T AV:=
 match op with
 | .add=>.must (yNle (yNadd (yLen x) (yLen y)) 9223372036854775807) (.ret (.ys (yCat x y)))
 | .eql=>.ret (.yb (ySEq x y))
 | .neq=>.ret (.yb (yNot (ySEq x y)))
 | .lss=>.ret (.yb (ySLt x y))
 | .leq=>.ret (.yb (yOr (ySLt x y) (ySEq x y)))
 | .gtr=>.ret (.yb (yNot (yOr (ySLt x y) (ySEq x y))))
 | .geq=>.ret (.yb (yNot (ySLt x y)))
 | _=>.no
section
variable (P : Program)
def eqY:Nat->TypeId->AV->AV->Option Bool
 | 0,_,_,_=>none
 | d + 1,t,x,y=>
   match eqA P (d + 1) t x y with
   | some b=>some b
   | none=>
   match P.underlying t,x,y with
   | some .bool,x,y=>match yB x,yB y with | some a,some b=>some (yIff a b) | _,_=>none
   | some (.int _),x,y=>match yI x,yI y with | some (k,a),some (k',b)=>bif eqK k k' then some (yEq a b) else none | _,_=>none
   | some .string,x,y=>match yS x,yS y with | some a,some b=>some (ySEq a b) | _,_=>none
   | some (.struct fs),.agg xs,.agg ys=>bif P.stoodInHeld t then none else
     fs.toList.foldr (fun f k => bif f.name == "_" then k else
      match partA P f.type xs f.offset,partA P f.type ys f.offset with
      | some a,some b=>match eqY d f.type a b,k with
        | some r,some r'=>some (yAnd r r')
        | _,_=>none
      | _,_=>none) (some true)
   | _,_,_=>none
def nilY:AV->AV->Option Bool
 | .ysl _ n ..,.ns=>some n
 | .ns,.ysl _ n ..=>some n
 | .ye n,.ns=>some n
 | .ns,.ye n=>some n
 | .lst _ n _ _ _,.ns=>some n
 | .ns,.lst _ n _ _ _=>some n
 | _,_=>none
def binY (op:BinOp)(t:TypeId)(x y:AV):T AV:=
 match x,y with
 | .agg _,.agg _=>bif guardFree P t then match op with
   | .eql=>match eqY P 64 t x y with | some b=>.ret (.yb b) | none=>.no
   | .neq=>match eqY P 64 t x y with | some b=>.ret (.yb (yNot b)) | none=>.no
   | _=>.no else .no
 | _,_=>match yI x,yI y with
   | some (k,a),some (k',b)=>match op with
     | .shl | .shr=>shiftY op k a b
     | _=>bif eqK k k' then intY op k a b else .no
   | _,_=>match yB x,yB y with
     | some a,some b=>match op with
       | .eql=>(match P.underlying t with | some .bool=>.ret (.yb (yIff a b)) | _=>.no)
       | .neq=>(match P.underlying t with | some .bool=>.ret (.yb (yNot (yIff a b))) | _=>.no)
       | _=>.no
     | _,_=>match yS x,yS y with
       | some a,some b=>strY op a b
       | _,_=>match P.underlying t,nilY x y with
         | some (.slice _),some b=>match op with
           | .eql=>.ret (.yb b)
           | .neq=>.ret (.yb (yNot b))
           | _=>.no
         | _,_=>.no
def enumT {α:Type}(x:Int):Nat->Nat->(Nat->T α)->T α
 | 0,_,_=>.no
 | n + 1,m,f=>.br (yEq x (.ofNat m)) (f m) (enumT x n (Nat.succ m) f)
def yPick (i:Nat)(l:List Bool):Bool:=l.getD i false
def yPickI (i:Nat)(l:List Int):Int:=l.getD i 0
def bPre:List AV->List Bool
 | []=>[]
 | a :: l=>match yB a with | some b=>b :: bPre l | none=>[]
def iPre (k:IntKind):List AV->List Int
 | []=>[]
 | a :: l=>match yI a with | some (k',n)=>bif eqK k k' then n :: iPre k l else [] | none=>[]
def bLen:List AV->Nat
 | []=>0
 | a :: l=>match yB a with | some _=>Nat.succ (bLen l) | none=>0
def iLen (k:IntKind):List AV->Nat
 | []=>0
 | a :: l=>match yI a with | some (k',_)=>bif eqK k k' then Nat.succ (iLen k l) else 0 | none=>0
def pickA (i:Nat)(l:List AV):T AV:=
 match l with
 | []=>.no
 | a :: _=>match yB a with
   | some _=>.must (yNlt i (bLen l)) (.ret (.yb (yPick i (bPre l))))
   | none=>match yI a with
     | some (k,_)=>.must (yNlt i (iLen k l)) (.ret (.y k (yPickI i (iPre k l))))
     | none=>.no
def strideL (c:List AV)(z:Nat):Nat->Nat->List AV
 | 0,_=>[]
 | f + 1,j=>match nthA c j with | some a=>a :: strideL c z f (j + z) | none=>[]
def pickN (c:List AV)(z i:Nat):Nat->Nat->T (List AV)
 | 0,_=>.ret []
 | m + 1,j=>(pickA i (strideL c z 64 j)).bind λ a=>(pickN c z i m (Nat.succ j)).bind λ l=>.ret (a :: l)
def sameK (a b:AV):Bool:=
 match yB a,yB b with
 | some _,some _=>true
 | _,_=>match yI a,yI b with | some (k,_),some (k',_)=>eqK k k' | _,_=>false
def kLen (v:AV):List AV->Nat
 | []=>0
 | a :: l=>bif sameK v a then Nat.succ (kLen v l) else 0
def minN2 (a b:Nat):Nat:=bif Nat.ble a b then a else b
def rowsN (c:List AV)(z:Nat):List AV->Nat->Nat
 | [],_=>1024
 | v :: l,j=>minN2 (kLen v (strideL c z 64 j)) (rowsN c z l (Nat.succ j))
def setC (z i j n:Nat)(l:List AV)(p:Nat)(a:AV):AV:=
 bif Nat.ble j p then (bif Nat.blt ((p - j) / z) n then (match nthA l ((p - j) % z) with | some v=>selA (yNeq i ((p - j) / z)) v a | none=>a) else a) else a
def mapI (f:Nat->AV->AV):Nat->List AV->List AV
 | _,[]=>[]
 | p,a :: l=>f p a :: mapI f (Nat.succ p) l
def indexAddrY (t:TypeId)(x ix:AV):T AV:=
 match yIx ix with
 | none=>.no
 | some (iz,i)=>match P.underlying t,x with
   | some (.slice e),.ysl ro _ id z o n=>match sizeT P e with
     | some z'=>bif Nat.beq z z' then .must (yIn iz n) (.ret (.ypt ro id z (yNadd o i) 0)) else .no
     | none=>.no
   | some (.slice e),.lst _ _ z n f=>match sizeT P e with
     | some z'=>bif Nat.beq z z' then .must (yIn iz n) (.ret (.lp z 0 (f i))) else .no
     | none=>.no
   | some (.slice e),.yr _ id z n=>match sizeT P e with
     | some z'=>bif Nat.beq z z' then .must (yIn iz n) (.ret (.ypt false id z i 0)) else .no
     | none=>.no
   | some (.slice e),.sl id off len _ _=>match sizeT P e with
     | some z=>enumT iz len 0 (λ m=>.ret (.ptr id (off + m * z)))
     | none=>.no
   | some (.array len e),.ptr id off=>match sizeT P e with
     | some z=>bif Nat.blt len 5 then enumT iz len 0 (λ m=>.ret (.ptr id (off + m * z))) else .must (yIn iz len) (.ret (.ypt false id z i off))
     | none=>.no
   | _,_=>.no
def indexY (t:TypeId)(x ix:AV):T AV:=
 match yIx ix with
 | none=>.no
 | some (iz,i)=>match P.underlying t,x with
   | some (.array len e),.agg cs=>match sizeT P e with
     | some z=>bif Nat.blt len 5 then enumT iz len 0 (λ m=>.of (partA P e cs (m * z))) else .must (yIn iz len) (match aggT P e with
       | some true=>(pickN cs z i z 0).bind λ l=>.ret (.agg l)
       | some false=>pickA i (strideL cs z 64 0)
       | none=>.no)
     | none=>.no
   | some .string,x=>match yS x with
     | some l=>.must (yIn iz (yLen l)) (.ret (.y .u8 (yByte l i)))
     | none=>.no
   | _,_=>.no
def cellsF (f:Nat->AV):Nat->Nat->List AV
 | 0,_=>[]
 | n + 1,j=>f j :: cellsF f n (Nat.succ j)
def partF (t:TypeId)(z:Nat)(f:Nat->AV)(j:Nat):Option AV:=
 match aggT P t with
 | some true=>match sizeT P t with
   | some n=>bif Nat.ble (j + n) z then some (.agg (cellsF f n j)) else none
   | none=>none
 | some false=>bif Nat.blt j z then some (f j) else none
 | none=>none
def loadY (h:AH)(t:TypeId)(a:AV):T AV:=
 match a with
 | .ypt ro id z i j=>match h.get id with
   | some (.arr ro' _ z' n f)=>bif (ro == ro') && Nat.beq z z' then
      (match partF P t z (f i) j with | some v=>.must (yNlt i n) (.ret v) | none=>.no) else .no
   | some (.cells c _ none)=>bif ro then .no else match aggT P t with
     | some true=>match sizeT P t with
       | some m=>(pickN c z i m j).bind λ l=>.ret (.agg l)
       | none=>.no
     | some false=>pickA i (strideL c z 64 j)
     | none=>.no
   | _=>.no
 | .lp z j g=>match partF P t z g j with | some v=>.ret v | none=>.no
 | _=>.no
def setF (f:Nat->Nat->AV)(i j:Nat)(l:List AV):Nat->Nat->AV:=λ p q=>
 bif Nat.ble j q then (match nthA l (q - j) with | some v=>selA (yNeq p i) v (f p q) | none=>f p q) else f p q
def storeY (h:AH)(t:TypeId)(a v:AV):T AH:=
 match a with
 | .ypt false id z i j=>match h.get id with
   | some (.arr false e z' n f)=>match sizeT P t with
     | some m=>bif Nat.beq z z' && Nat.beq (cellsA v).length m && Nat.ble (j + m) z && allCell (cellsA v) then
        (match h.put id (some (.arr false e z n (setF f i j (cellsA v)))) with | some h'=>.must (yNlt i n) (.ret h') | none=>.no) else .no
     | none=>.no
   | some (.cells c e none)=>match sizeT P t with
     | some m=>bif Nat.beq (cellsA v).length m && Nat.ble m z && Nat.ble 1 m && allCell (cellsA v) then
        (match h.put id (some (.cells (mapI (setC z i j (rowsN c z (cellsA v) j) (cellsA v)) 0 c) e none)) with | some h'=>.must (yNlt i (rowsN c z (cellsA v) j)) (.ret h') | none=>.no) else .no
     | none=>.no
   | _=>.no
 | _=>.no
def yBound (d:Nat):Option AV->Option (Option Int × Nat)
 | none=>some (none,d)
 | some v=>match yIx v with | some (x,n)=>some (some x,n) | none=>none
def mustLe {α:Type}(x:Option Int)(n:Nat)(t:T α):T α:=
 match x with
 | none=>t
 | some a=>.must (yIn a (Nat.succ n)) t
def shY (lo:Option AV)(a:Nat)(f:Nat->Nat->AV):Nat->Nat->AV:=
 match lo with
 | none=>f
 | some _=>λ i j=>f (yNadd a i) j
def cutN (lo:Option AV)(a b:Nat):Nat:=
 match lo with
 | none=>b
 | some _=>yNsub b a
def sliceL (t:TypeId)(x:AV)(lo hi mx:Option AV):T AV:=
 match P.underlying t,x with
 | some (.slice e),.lst x nil z n f=>match sizeT P e,yBound 0 lo,yBound n hi with
   | some z',some (xa,a),some (xb,b)=>bif Nat.beq z z' then (match mx with
     | none=>mustLe xb n (mustLe xa b (.ret (.lst (bif hi.isNone then x else false) nil z (cutN lo a b) (shY lo a f))))
     | some m=>match yIx m,hi with
       | some (xm,m),some _=>.must (yIn xm (Nat.succ n)) (.must (yNeq b m) (mustLe xb n (mustLe xa b (.ret (.lst true nil z (cutN lo a b) (shY lo a f))))))
       | _,_=>.no) else .no
   | _,_,_=>.no
 | _,_=>.no
def sliceY (t:TypeId)(x:AV)(lo hi mx:Option AV):T AV:=
 match x with
 | .lst ..=>sliceL P t x lo hi mx
 | _=>
 match mx with
 | some (.i _ (.ofNat 0))=>match P.underlying t,x,hi,lo with
   | some (.slice e),.ysl _ nil _ _ _ _,some (.i _ (.ofNat 0)),none=>(match sizeT P e with | some _=>.ret (.ye nil) | none=>.no)
   | some (.slice e),.ysl _ nil _ _ _ _,some (.i _ (.ofNat 0)),some (.i _ (.ofNat 0))=>(match sizeT P e with | some _=>.ret (.ye nil) | none=>.no)
   | _,_,_,_=>.no
 | some _=>.no
 | none=>match P.underlying t,x with
   | some (.slice e),.ysl true nil id z o n=>match sizeT P e,yBound 0 lo,yBound n hi with
     | some z',some (xa,a),some (xb,b)=>bif Nat.beq z z' then mustLe xb n (mustLe xa b (.ret (.ysl true nil id z (yNadd o a) (yNsub b a)))) else .no
     | _,_,_=>.no
   | some .string,x=>match yS x with
     | some l=>match yBound 0 lo,yBound (yLen l) hi with
       | some (xa,a),some (xb,b)=>mustLe xb (yLen l) (mustLe xa b (.ret (.ys (ySlice l a b))))
       | _,_=>.no
     | none=>.no
   | _,_=>.no
def lenY (t:TypeId)(x:AV):T AV:=
 match P.underlying t,x with
 | some (.slice _),.ysl _ _ _ _ _ n=>.ret (.y .i64 (yInt n))
 | some (.slice _),.lst _ _ _ n _=>.ret (.y .i64 (yInt n))
 | some (.slice _),.yr _ _ _ n=>.ret (.y .i64 (yInt n))
 | some (.slice _),.ye _=>.ret (.i .i64 0)
 | some .string,.ys l=>.ret (.y .i64 (yInt (yLen l)))
 | _,_=>.no
def catLit (z:Nat):Nat->Nat->Option (Nat->Nat->AV)->List AV->Option (Nat->Nat->AV)
 | 0,_,f,_=>f
 | m + 1,n,none,new=>catLit z m (yNadd n 1) (some λ _ j=>match nthA new j with | some v=>v | none=>.np) (new.drop z)
 | m + 1,n,some f,new=>catLit z m (yNadd n 1) (some λ i j=>match nthA new j with | some v=>selA (yNlt i n) (f i j) v | none=>f i j) (new.drop z)
def catF (n:Nat)(f:Option (Nat->Nat->AV))(o:Nat)(g:Nat->Nat->AV):Nat->Nat->AV:=
 match f with
 | none=>λ i j=>g (yNadd o i) j
 | some f=>λ i j=>selA (yNlt i n) (f i j) (g (yNadd o (yNsub i n)) j)
def orNp:Option (Nat->Nat->AV)->Nat->Nat->AV
 | some f=>f
 | none=>λ _ _=>.np
def srcY (h:AH)(z:Nat)(n:Nat)(f:Option (Nat->Nat->AV)):AV->T (Nat × (Nat->Nat->AV))
 | .ysl ro _ id z' o m=>match h.get id with
   | some (.arr ro' _ z2 k g)=>bif (ro == ro') && Nat.beq z z' && Nat.beq z z2 then .must (yNle (yNadd o m) k) (.ret (m,catF n f o g)) else .no
   | _=>.no
 | .lst _ _ z' m g=>bif Nat.beq z z' then .ret (m,catF n f 0 g) else .no
 | x=>match srcA h z x with
   | some (m,new)=>bif allCell new then .ret (m,orNp (catLit z m n f new)) else .no
   | none=>.no
def u8A (a:AV):Bool:=match yI a with | some (k,_)=>eqK k .u8 | none=>false
def yU8 (n:Nat)(f:Nat->Nat->AV):Bool:=(List.range n).all λ i=>u8A (f i 0)
def byteA (a:AV):UInt8:=match yI a with | some (_,n)=>UInt8.ofNat n.toNat | none=>0
def yStr (n:Nat)(f:Nat->Nat->AV):List UInt8:=(List.range n).map λ i=>byteA (f i 0)
def newArr (h:AH)(e:TypeId)(z m:Nat)(nil:Bool)(f:Nat->Nat->AV):T (AV × AH):=
 match h.new (.arr false e z m f) with
 | some h'=>.ret (.ysl false nil h.nx z 0 m,h')
 | none=>.no
def appendY0 (h:AH)(t:TypeId)(at1:Option TypeId)(s x:AV):T (AV × AH):=
 match P.underlying t with
 | some (.slice e)=>match P.info? e,zeroT P e with
   | some i,some zv=>bif srcOk (at1.bind P.underlying) && Nat.beq (cellsA zv).length i.size && Nat.blt 0 i.bytes && Nat.blt 0 i.size then
     match s with
     | .ns=>(srcY h i.size 0 none x).bind λ (m,f)=>.must (yGrow m i.bytes) (newArr h e i.size m (yNeq m 0) f)
     | .ye nil=>(srcY h i.size 0 none x).bind λ (m,f)=>.must (yGrow m i.bytes) (newArr h e i.size m (yAnd nil (yNeq m 0)) f)
     | .lst true nil z n f=>bif Nat.beq z i.size then
        (srcY h i.size n (some f) x).bind λ (m,g)=>.br (yNeq m 0) (.ret (.lst true nil z n f,h)) (.must (yGrow (yNadd n m) i.bytes) (newArr h e i.size (yNadd n m) false g)) else .no
     | .sl id off len cap false=>match h.get id with
       | some (.cells c _ _)=>match sliceA c off (len * i.size) with
         | some old=>bif Nat.beq len cap && allCell old then
            (srcY h i.size len (catLit i.size len 0 none old) x).bind λ (m,g)=>.br (yNeq m 0) (.ret (.sl id off len cap false,h)) (.must (yGrow (yNadd len m) i.bytes) (newArr h e i.size (yNadd len m) false g)) else .no
         | none=>.no
       | _=>.no
     | .ysl false nil id z 0 n=>match h.get id with
       | some (.arr false e' z' n' f)=>bif Nat.beq z i.size && Nat.beq z z' && Nat.beq e e' then
          (srcY h i.size n (some f) x).bind λ (m,g)=>.must (yNeq n n') (.must (yGrow (yNadd n m) i.bytes) (match h.put id none with
          | some h1=>newArr h1 e i.size (yNadd n m) (yAnd nil (yNeq m 0)) g
          | none=>.no)) else .no
       | _=>.no
     | .yr nil id z n=>match h.get id with
       | some (.arr false e' z' n' f)=>bif Nat.beq z i.size && Nat.beq z z' && Nat.beq e e' then
          (srcY h i.size n (some f) x).bind λ (m,g)=>.must (yNeq n n') (.must (yGrow (yNadd n m) i.bytes) (match h.put id none with
          | some h1=>match h1.new (.arr false e i.size (yNadd n m) g) with
            | some h'=>.ret (.yr (yAnd nil (yNeq m 0)) h1.nx i.size (yNadd n m),h')
            | none=>.no
          | none=>.no)) else .no
       | _=>.no
     | .sl id 0 0 0 true=>match h.get id with
       | some (.cells [] e' (some z'))=>bif Nat.beq z' i.size && Nat.beq e e' then
          (srcY h i.size 0 none x).bind λ (m,g)=>.br (yNeq m 0) (.ret (.sl id 0 0 0 true,h)) (.must (yGrow m i.bytes) (match h.put id none with
          | some h1=>newArr h1 e i.size m false g
          | none=>.no)) else .no
       | _=>.no
     | _=>.no
     else .no
   | _,_=>.no
 | _=>.no
def rowOf (h:AH)(z:Nat)(e:TypeId)(s:AV):Option (AV × AH):=
 match s with
 | .sl id 0 (Nat.succ len) 0 true=>match h.get id with
   | some (.cells c e' (some z'))=>bif Nat.beq z' z && Nat.beq e e' && Nat.beq c.length (Nat.succ len * z) && allCell c && Nat.blt 0 z then
      (match h.put id (some (.arr false e z (Nat.succ len) (orNp (catLit z (Nat.succ len) 0 none c)))) with
      | some h1=>some (.ysl false false id z 0 (Nat.succ len),h1)
      | none=>none) else none
   | _=>none
 | _=>none
def appendY (h:AH)(t:TypeId)(at1:Option TypeId)(s x:AV):T (AV × AH):=
 match P.underlying t with
 | some (.slice e)=>match P.info? e with
   | some i=>match rowOf h i.size e s with
     | some p=>appendY0 P p.2 t at1 p.1 x
     | none=>appendY0 P h t at1 s x
   | none=>.no
 | _=>.no
def makeSliceY (h:AH)(t:TypeId)(l c:AV):T (AV × AH):=
 match l,c with
 | .y _ l,.y _ c=>match P.underlying t with
   | some (.slice e)=>match P.info? e,zeroT P e with
     | some i,some zv=>bif Nat.beq (cellsA zv).length i.size && Nat.blt 0 i.bytes && Nat.blt 0 i.size && allCell (cellsA zv) then
        .must (yLe 0 l) (.must (yEq l c) (.must (yGrow (yNat l) i.bytes) (match h.new (.arr false e i.size (yNat l) (λ _ j=>match nthA (cellsA zv) j with | some v=>v | none=>.np)) with
         | some h'=>.ret (.ysl false false h.nx i.size 0 (yNat l),h')
         | none=>.no))) else .no
     | _,_=>.no
   | _=>.no
 | _,_=>.no
def unY (op:UnOp)(x:AV):T AV:=
 match op,x with
 | .not,.yb t=>.ret (.yb (yNot t))
 | .neg,.y k n=>.ret (.y k (yWrap k (ySub 0 n)))
 | .xor,.y k n=>.ret (.y k (yBits .xor k (bif k.signed then -1 else k.max) n))
 | _,_=>.no
def convY (src dst:TypeId)(x:AV):T AV:=
 match P.underlying src,P.underlying dst,x with
 | some _,some (.int k),.y _ n=>.ret (.y k (yWrap k n))
 | some _,some .string,.ys l=>.ret (.ys l)
 | _,_,_=>.no
def convHY (h:AH)(src dst:TypeId)(x:AV):T AV:=
 bif slV x then
  (bif byteSl P src dst then (srcY h 1 0 none x).bind λ (n,f)=>.must (yU8 n f) (.ret (.ys (yStr n f))) else .no)
 else convY P src dst x
def pickY (c a b:AV):T AV:=
 match c with
 | .yb t=>match a,b with
   | .y k x,.y k' y=>bif eqK k k' then .ret (.y k (ySel t x y)) else .br t (.ret a) (.ret b)
   | .yb x,.yb y=>.ret (.yb (ySelB t x y))
   | a,b=>.br t (.ret a) (.ret b)
 | _=>.no
def minY (a b:AV):T AV:=
 match yI a,yI b with
 | some (k,x),some (k',y)=>bif eqK k k' then .ret (.y k (ySel (yLt y x) y x)) else .no
 | _,_=>.no
def maxY (a b:AV):T AV:=
 match yI a,yI b with
 | some (k,x),some (k',y)=>bif eqK k k' then .ret (.y k (ySel (yLt x y) y x)) else .no
 | _,_=>.no
def valT (h:AH)(t:T AV):T OutA:=t.bind λ v=>.ret (.val v h)
def valT2 (t:T (AV × AH)):T OutA:=t.bind λ (v,h)=>.ret (.val v h)
def keyY (t:TypeId)(a:AV):Option (IntKind × Int):=
 match yI a with
 | some (k,n)=>match P.underlying t with
   | some (.map kt _)=>match P.underlying kt with
     | some (.int _)=>some (k,n)
     | _=>none
   | _=>none
 | none=>none
def lookupY (h:AH)(t:TypeId)(m k:AV)(ok:Bool):Option AV:=
 match keyY P t k,m,elemZ P t with
 | some (kk,n),.mp id,some (.i kz z0)=>match h.get id with
   | some (.mapy k' kv p v)=>bif eqK kk k' && eqK kz kv then (bif ok then some (.tup [.y kv (ySel (p n) (v n) z0),.yb (p n)]) else some (.y kv (ySel (p n) (v n) z0))) else none
   | _=>none
 | _,_,_=>none
def cellsN (f:Nat->AV):Nat->Nat->List AV
 | 0,_=>[]
 | n + 1,j=>f j :: cellsN f n (Nat.succ j)
def nthD (l:List AV)(j:Nat):AV:=match nthA l j with | some v=>v | none=>.np
def lookupZ (h:AH)(t:TypeId)(m k:AV)(ok:Bool):T AV:=
 match keyY P t k,m,elemZ P t with
 | some (kk,n),.mp id,some z0=>match h.get id with
   | some (.mapz k' z p f)=>bif eqK kk k' then .br (p n) (.ret (bif ok then .tup [.agg (cellsN (f n) z 0),.b true] else .agg (cellsN (f n) z 0))) (.ret (bif ok then .tup [z0,.b false] else z0)) else .no
   | _=>.no
 | _,_,_=>.no
def lookupT (h:AH)(t:TypeId)(m k:AV)(ok:Bool):T AV:=
 match lookupY P h t m k ok with
 | some v=>.ret v
 | none=>lookupZ P h t m k ok
def mapUpdateZ (h:AH)(t:TypeId)(m k x:AV):Option AH:=
 match keyY P t k,m,x with
 | some (kk,n),.mp id,.agg l=>match h.get id with
   | some (.mapz k' z p f)=>bif eqK kk k' && Nat.beq l.length z && allCell l then h.put id (some (.mapz k' z (λ i=>yOr (yEq i n) (p i)) (λ i j=>selA (yEq i n) (nthD l j) (f i j)))) else none
   | _=>none
 | _,_,_=>none
def mapUpdateY (h:AH)(t:TypeId)(m k x:AV):Option AH:=
 match keyY P t k,m,yI x with
 | some (kk,n),.mp id,some (kx,y)=>match h.get id with
   | some (.mapy k' kv p v)=>bif eqK kk k' && eqK kx kv then h.put id (some (.mapy k' kv (λ i=>yOr (yEq i n) (p i)) (λ i=>ySel (yEq i n) y (v i)))) else none
   | _=>none
 | _,_,_=>none
def mapUpdateW (h:AH)(t:TypeId)(m k x:AV):Option AH:=
 match mapUpdateY P h t m k x with
 | some h'=>some h'
 | none=>mapUpdateZ P h t m k x
def deleteY (h:AH)(t:TypeId)(m k:AV):Option AH:=
 match keyY P t k,m with
 | some (kk,n),.mp id=>match h.get id with
   | some (.mapy k' kv p v)=>bif eqK kk k' then h.put id (some (.mapy k' kv (λ i=>yAnd (yNot (yEq i n)) (p i)) v)) else none
   | _=>none
 | _,_=>none
def opY (tm:Tr AV)(o:Oper)(h:AH):T OutA:=
 match o.op with
 | .pick c a b=>valT h (pickY (evT tm c) (evT tm a) (evT tm b))
 | .load t a=>valT h (loadY P h t (evT tm a))
 | .store t a v=>(storeY P h t (evT tm a) (evT tm v)).bind λ h'=>.ret (.val undefA h')
 | .nilCheck x=>match evT tm x with
   | .ypt ro id z i j=>.ret (.val (.ypt ro id z i j) h)
   | .lp z j g=>.ret (.val (.lp z j g) h)
   | _=>.no
 | .binOp op t x y _=>valT h (binY P op t (evT tm x) (evT tm y))
 | .unOp op _ x=>valT h (unY op (evT tm x))
 | .convert src dst x=>valT h (convHY P h src dst (evT tm x))
 | .makeSlice t l c=>valT2 (makeSliceY P h t (evT tm l) (evT tm c))
 | .slice t x lo hi mx=>valT h (sliceY P t (evT tm x) (lo.map (evT tm)) (hi.map (evT tm)) (mx.map (evT tm)))
 | .fieldAddr t x f=>match P.underlying t,evT tm x with
   | some (.struct fs),.ypt ro id z i j=>match nthF fs.toList f with
     | some fd=>match sizeT P fd.type with
       | some 0=>.no
       | some _=>.ret (.val (.ypt ro id z i (j + fd.offset)) h)
       | none=>.no
     | none=>.no
   | some (.struct fs),.lp z j g=>match nthF fs.toList f with
     | some fd=>match sizeT P fd.type with
       | some 0=>.no
       | some _=>.ret (.val (.lp z (j + fd.offset) g) h)
       | none=>.no
     | none=>.no
   | _,_=>.no
 | .lookup t m k ok=>valT h (lookupT P h t (evT tm m) (evT tm k) ok)
 | .mapUpdate t m k v=>(T.of (mapUpdateW P h t (evT tm m) (evT tm k) (evT tm v))).bind λ h'=>.ret (.val undefA h')
 | .indexAddr t x ix=>valT h (indexAddrY P t (evT tm x) (evT tm ix))
 | .index t x ix=>valT h (indexY P t (evT tm x) (evT tm ix))
 | .call c=>match c.callee with
   | .builtin .len=>match c.argTypes.toList,c.args.toList with
     | t :: _,x :: _=>valT h (lenY P t (evT tm x))
     | _,_=>.no
   | .builtin .append=>match c.argTypes.toList,c.args.toList with
     | t :: ts,x :: y :: _=>valT2 (appendY P h t ts.head? (evT tm x) (evT tm y))
     | _,_=>.no
   | .builtin .delete=>match c.argTypes.toList,c.args.toList with
     | t :: _,x :: y :: _=>(T.of (deleteY P h t (evT tm x) (evT tm y))).bind λ h'=>.ret (.val undefA h')
     | _,_=>.no
   | .builtin .min=>match c.args.toList with
     | [x,y]=>valT h (minY (evT tm x) (evT tm y))
     | _=>.no
   | .builtin .max=>match c.args.toList with
     | [x,y]=>valT h (maxY (evT tm x) (evT tm y))
     | _=>.no
   | _=>.no
 | _=>.no
def mvD (op:Op):Tr AV->Option Bool:=
 @Op.rec (λ _=>Tr AV->Option Bool)
  (λ x=>λ tm=>match evT tm x with | .yb b=>some b | _=>none)
  (λ _=>λ _=>none)
  (λ _ _ _=>λ _=>none)
  (λ _=>λ _=>none)
  (λ _ _=>λ _=>none)
  (λ _ _=>λ _=>none)
  (λ _ _ _=>λ _=>none)
  (λ _ _ _ _=>λ _=>none)
  (λ _ _=>λ _=>none)
  (λ _ _ _=>λ _=>none)
  (λ _=>λ _=>none)
  (λ _=>λ _=>none)
  (λ _=>λ _=>none)
  (λ _ _ _ _ _=>λ _=>none)
  (λ _ _ _=>λ _=>none)
  (λ _ _ _=>λ _=>none)
  (λ _ _=>λ _=>none)
  (λ _ _=>λ _=>none)
  (λ _ _ _=>λ _=>none)
  (λ _ _=>λ _=>none)
  (λ _ _=>λ _=>none)
  (λ _ _ _=>λ _=>none)
  (λ _ _ _ _ _=>λ _=>none)
  (λ _ _ _=>λ _=>none)
  (λ _ _ _=>λ _=>none)
  (λ _ _ _=>λ _=>none)
  (λ _ _ _=>λ _=>none)
  (λ _ _ _ _=>λ _=>none)
  (λ _ _ _ _=>λ _=>none)
  (λ _ _ _=>λ _=>none)
  (λ _ _ _ _=>λ _=>none)
  (λ _ _=>λ _=>none)
  (λ _ _=>λ _=>none)
  (λ _=>λ _=>none)
  (λ _ _ _ _=>λ _=>none)
  (λ _ _=>λ _=>none)
  (λ _=>λ _=>none)
  (λ _=>λ _=>none)
  (λ _=>λ _=>none)
  (λ _=>λ _=>none)
  (λ _ _=>λ _=>none)
  (λ _ _ _=>λ _=>none)
  (λ _ _=>λ _=>none)
  op
def mvA (tm:Tr AV)(o:Oper):Option Bool:=mvD o.op tm
theorem mvA_eq (tm:Tr AV)(o:Oper):mvA tm o=(match o.op with
 | .move x=>match evT tm x with | .yb b=>some b | _=>none
 | _=>none):=by
 unfold mvA mvD
 generalize o.op=op
 cases op <;> rfl
def opT (tm:Tr AV)(o:Oper)(h:AH):T OutA:=
 match mvA tm o with
 | some b=>.br b (.ret (.val (.b true) h)) (.ret (.val (.b false) h))
 | none=>match opA P tm o h with
   | some r=>.ret r
   | none=>opY P tm o h
def opS (tm:Tr AV)(o:Oper)(h:AH):Option OutA:=
 Option.rec (motive:=λ _=>Option OutA) (Option.rec (motive:=λ _=>Option OutA) (opY P tm o h).sel (λ r=>some r) (opA P tm o h)) (λ b=>some (.val (.b b) h)) (mvA tm o)
theorem opS_eq (tm:Tr AV)(o:Oper)(h:AH):opS P tm o h=(match mvA tm o with
 | some b=>some (.val (.b b) h)
 | none=>match opA P tm o h with
   | some r=>some r
   | none=>(opY P tm o h).sel):=by
 unfold opS
 cases mvA tm o with
 | some b=>rfl
 | none=>cases opA P tm o h <;> rfl
end
section
variable (P : Program)
inductive AX where
 | nm
 | ex (id:Nat)
 | rt
def initT:Tr AV->Nat->List AV->Option (Tr AV)
 | t,_,[]=>some t
 | t,n,a :: l=>match Tr.set 64 t (Nat.succ n) (some a) with | some t'=>initT t' (Nat.succ n) l | none=>none
def takeAll (h:AH):List Nat->Option AH
 | []=>some h
 | d :: l=>match h.get d with
   | some (.dfr true)=>match h.put d (some (.dfr false)) with | some h'=>takeAll h' l | none=>none
   | _=>none
def resOne (tm:Tr AV)(h:AH):ResultVar->Option AV
 | .tmp t=>some (evT tm (.tmp t))
 | .cell a t=>loadA P h t (evT tm (.tmp a))
def resAll (tm:Tr AV)(h:AH):List ResultVar->Option (List AV)
 | []=>some []
 | r :: l=>match resOne P tm h r with
   | some v=>match resAll tm h l with | some vs=>some (v :: vs) | none=>none
   | none=>none
def resA (tm:Tr AV)(h:AH)(l:List ResultVar):Option AV:=
 match resAll P tm h l with
 | some [v]=>some v
 | some vs=>some (.tup vs)
 | none=>none
def okFn (fn : Func) : Bool := !(fn.name == "runtime.NumGoroutine")
inductive Sm where
 | call (g:List AV->AH->Option (AV × AH))
 | ct (g:List AV->AH->T (AV × AH))
 | val (g:List AV->Option AV)
structure Rc where
 code:Code->St->Option (AX × St)
 sm:FuncId->Option Sm
section
variable (rec : Rc)
def callA (f:FuncId)(args:List AV)(h:AH):Option (AV × AH):=
 match rec.sm f with
 | some (.call g)=>g args h
 | some (.ct g)=>(g args h).sel
 | some (.val _)=>none
 | none=>
 match P.funcs[f]? with
 | some fn=>bif okFn fn then match fn.body with
   | some c=>match initT .lf 0 args with
     | some tm=>match rec.code c ⟨tm,max fn.ntmps args.length,[],none,h⟩ with
       | some (.nm,s) | some (.rt,s)=>match takeAll s.h s.df with
         | some h'=>match resA P s.tm h' fn.results.toList with
           | some v=>some (v,h')
           | none=>none
         | none=>none
       | _=>none
     | none=>none
   | none=>none
   else none
 | none=>none
def setPs:Tr AV->Nat->List Tmp->List AV->Option (Tr AV)
 | t,_,[],[]=>some t
 | t,sz,p :: ps,a :: l=>bif Nat.blt p sz then match Tr.set 64 t (Nat.succ p) (some a) with | some t'=>setPs t' sz ps l | none=>none else none
 | _,_,_,_=>none
def endRd (h:AH)(l:Nat)(wl:Bool)(o:AO):Option AH:=
 match h.get l with
 | some _=>none
 | none=>match h.put l (some o) with
   | some h'=>some ⟨h'.t,h'.nx,h'.bs,bif wl then h'.wl else h.wl⟩
   | none=>none
def hideRd (h:AH)(l:Nat):Option AH:=
 match h.put l none with
 | some h'=>some ⟨h'.t,h'.nx,h'.bs,h.wl⟩
 | none=>none
def roundA (l:Nat)(args:List AV)(h:AH):Option (AV × AH):=
 match h.get l with
 | some (.loop .ready none tm0 sz ps asg bo D)=>match setPs tm0 sz ps.toList args with
   | some tm=>match hideRd h l with
     | some h1=>match rec.code asg ⟨tm,sz,[],some l,h1⟩ with
       | some (.nm,s)=>match s.df with
         | []=>match rec.code bo ⟨s.tm,s.sz,[],some l,s.h⟩ with
           | some (.nm,s2)=>match endRd s2.h l false (.loop .ready none tm0 sz ps asg bo D) with | some h3=>some (.b true,h3) | none=>none
           | some (.rt,s2)=>match endRd s2.h l true (.loop .done (some .ret) tm0 sz ps asg bo D) with | some h3=>some (.b false,h3) | none=>none
           | some (.ex id,s2)=>match endRd s2.h l true (.loop .done (some (.exit id)) tm0 sz ps asg bo D) with | some h3=>some (.b false,h3) | none=>none
           | none=>none
         | _=>none
       | _=>none
     | none=>none
   | none=>none
 | _=>none
def opF (tm:Tr AV)(o:Oper)(h:AH):Option (AV × AH):=
 Option.rec (motive:=λ _=>Option (AV × AH)) none (λ out=>OutA.rec (motive:=λ _=>Option (AV × AH))
  (λ v h'=>Bool.rec (motive:=λ _=>Option (AV × AH)) none (some (v,h')) (Nat.ble h.nx h'.nx))
  (λ f args _=>match rec.sm f with
    | some (.val g)=>match g args with | some v=>some (v,h) | none=>none
    | _=>callA P rec f args h)
  (λ l args _=>roundA rec l args h) out) (opS P tm o h)
theorem opF_eq (tm:Tr AV)(o:Oper)(h:AH):opF P rec tm o h=(match opS P tm o h with
 | some (.val v h')=>bif Nat.ble h.nx h'.nx then some (v,h') else none
 | some (.enter f args _)=>match rec.sm f with
   | some (.val g)=>match g args with | some v=>some (v,h) | none=>none
   | _=>callA P rec f args h
 | some (.yld l args _)=>roundA rec l args h
 | none=>none):=by
 unfold opF
 cases opS P tm o h with
 | none=>rfl
 | some out=>cases out with
   | val v h'=>show Bool.rec (motive:=λ _=>Option (AV × AH)) none (some (v,h')) (Nat.ble h.nx h'.nx)=_;simp only;cases Nat.ble h.nx h'.nx <;> rfl
   | enter f args h'=>rfl
   | yld l args h'=>rfl
def wantG (ops:List Oper)(tm:Tr AV)(j:Nat)(want:Bool):Option Bool:=
 match ops[j]? with
 | some g=>match g.dst with
   | some d=>match evT tm (.tmp d) with
     | .b x=>some (x == want)
     | .tup []=>some false
     | _=>none
   | none=>none
 | none=>none
def wantA (ops:List Oper)(tm:Tr AV)(o:Oper):Option Bool:=
 Option.rec (motive:=λ _=>Option Bool) (some true) (λ p=>Prod.rec (motive:=λ _=>Option Bool) (λ j want=>wantG ops tm j want) p) o.guard
theorem wantA_eq (ops:List Oper)(tm:Tr AV)(o:Oper):wantA ops tm o=(match o.guard with
 | none=>some true
 | some (j,want)=>match ops[j]? with
   | some g=>match g.dst with
     | some d=>match evT tm (.tmp d) with
       | .b x=>some (x == want)
       | .tup []=>some false
       | _=>none
     | none=>none
   | none=>none):=by
 unfold wantA
 cases o.guard with
 | none=>rfl
 | some p=>rfl
/- A state is taken apart at each step: a chain of projections would be walked anew at each look. -/
def putA (s:St)(dst:Option Tmp)(v:AV):Option St:=
 St.rec (motive:=λ _=>Option St) (λ tm sz df rd h=>Option.rec (motive:=λ _=>Option St) (some ⟨tm,sz,df,rd,h⟩)
  (λ d=>Bool.rec (motive:=λ _=>Option St) none (Option.rec (motive:=λ _=>Option St) none (λ t=>some ⟨t,sz,df,rd,h⟩) (Tr.set 64 tm (Nat.succ d) (some v))) (Nat.blt d sz)) dst) s
theorem putA_eq (s:St)(dst:Option Tmp)(v:AV):putA s dst v=(match dst with
 | none=>some s
 | some d=>bif Nat.blt d s.sz then match Tr.set 64 s.tm (Nat.succ d) (some v) with | some t=>some { s with tm:=t } | none=>none else none):=by
 cases s with | mk tm sz df rd h=>
 cases dst with
 | none=>rfl
 | some d=>
   show Bool.rec (motive:=λ _=>Option St) none (Option.rec (motive:=λ _=>Option St) none (λ t=>some ⟨t,sz,df,rd,h⟩) (Tr.set 64 tm (Nat.succ d) (some v))) (Nat.blt d sz)=(bif Nat.blt d sz then match Tr.set 64 tm (Nat.succ d) (some v) with | some t=>some ⟨t,sz,df,rd,h⟩ | none=>none else none)
   cases Nat.blt d sz with
   | false=>rfl
   | true=>cases Tr.set 64 tm (Nat.succ d) (some v) <;> rfl
def opsA (ops:List Oper)(l:List Oper):St->Option St:=
 List.rec (motive:=λ _=>St->Option St) (λ s=>some s) (λ o _ ih s=>St.rec (motive:=λ _=>Option St) (λ tm sz df rd h=>
  Option.rec (motive:=λ _=>Option St) none (λ b=>Bool.rec (motive:=λ _=>Option St)
   (Option.rec (motive:=λ _=>Option St) none ih (putA ⟨tm,sz,df,rd,h⟩ o.dst undefA))
   (Option.rec (motive:=λ _=>Option St) none (λ p=>Prod.rec (motive:=λ _=>Option St) (λ v h'=>Option.rec (motive:=λ _=>Option St) none ih (putA ⟨tm,sz,df,rd,h'⟩ o.dst v)) p) (opF P rec tm o h)) b) (wantA ops tm o)) s) l
theorem opsA_nil (ops:List Oper)(s:St):opsA P rec ops [] s=some s:=rfl
theorem opsA_cons (ops:List Oper)(o:Oper)(rest:List Oper)(s:St):opsA P rec ops (o :: rest) s=(match wantA ops s.tm o with
 | some true=>match opF P rec s.tm o s.h with
   | some (v,h)=>match putA { s with h:=h } o.dst v with
     | some s'=>opsA P rec ops rest s'
     | none=>none
   | none=>none
 | some false=>match putA s o.dst undefA with
   | some s'=>opsA P rec ops rest s'
   | none=>none
 | none=>none):=by
 cases s with | mk tm sz df rd h=>
 show Option.rec (motive:=λ _=>Option St) none _ (wantA ops tm o)=_
 cases wantA ops tm o with
 | none=>rfl
 | some b=>cases b with
   | false=>
     show Option.rec (motive:=λ _=>Option St) none (opsA P rec ops rest) (putA ⟨tm,sz,df,rd,h⟩ o.dst undefA)=_
     simp only
     cases putA ⟨tm,sz,df,rd,h⟩ o.dst undefA <;> rfl
   | true=>
     show Option.rec (motive:=λ _=>Option St) none _ (opF P rec tm o h)=_
     simp only
     cases opF P rec tm o h with
     | none=>rfl
     | some p=>
       obtain ⟨v,h'⟩:=p
       show Option.rec (motive:=λ _=>Option St) none (opsA P rec ops rest) (putA ⟨tm,sz,df,rd,h'⟩ o.dst v)=_
       simp only
       cases putA ⟨tm,sz,df,rd,h'⟩ o.dst v <;> rfl
end
end
section
variable (P : Program) (rec : Rc)
structure DR where
 i:Nat
 pm:Nat
 dst:Option Tmp
 looks:List Tmp
 lo:Nat
 hi:Nat
 wr:List Nat
 full:Bool
 ld:Option Nat
def looksA (ops:List Oper)(o:Oper):List Tmp:=
 (o.op.operands.toList.filterMap λ | .tmp t=>some t | _=>none) ++
 (match o.guard with
  | some (g,_)=>match ops[g]? with | some x=>x.dst.toList | none=>[]
  | none=>[])
def predsA (i:Nat)(recs:List DR):List Edge->Option Nat
 | []=>some 0
 | e :: l=>match predsA i recs l with
   | some m=>bif Region.binds .any e then
      (match recs.find? (λ r=>Nat.beq r.i e.on) with
      | some r=>some (Nat.lor m (Nat.lor (Nat.shiftLeft 1 e.on) r.pm))
      | none=>none)
     else some m
   | none=>none
inductive Kind where
 | pure
 | make
 | read (id:Nat)
 | full
def kindA (tm:Tr AV):Op->Kind
 | .move _ | .assign _ | .pick .. | .build .. | .nilCheck _ | .binOp .. | .unOp .. | .makeInterface .. | .makeFunc .. | .fieldAddr .. | .field .. | .indexAddr .. | .index .. | .extract ..=>.pure
 | .alloc _ | .box .. | .buildSlice .. | .makeMap .. | .makeSlice ..=>.make
 | .slice _ x _ _ _=>match evT tm x with | .sl id _ _ _ true=>.read id | _=>.pure
 | .convert _ _ x=>match evT tm x with | .sl id _ _ _ _=>.read id | .ysl _ _ id _ _ _=>.read id | _=>.pure
 | .load _ a=>match evT tm a with | .ptr id _=>.read id | .ypt _ id _ _ _=>.read id | .lp ..=>.pure | _=>.full
 | .call { callee:=.builtin .len,args:=as_,.. }=>match as_.toList with
   | [x]=>match evT tm x with | .mp id=>.read id | _=>.pure
   | _=>.full
 | .call { callee:=.builtin .cap,.. }=>.pure
 | _=>.full
def memT (x:Option Tmp)(l:List Tmp):Bool:=match x with | some t=>memN t l | none=>false
def sameT:Option Tmp->Option Tmp->Bool
 | some a,some b=>Nat.beq a b
 | _,_=>false
def apartT (dst:Option Tmp)(looks:List Tmp)(r:DR):Bool:=
 !memT r.dst looks && !sameT r.dst dst && !memT dst r.looks
def inDR (x:Nat)(r:DR):Bool:=(Nat.ble r.lo x && Nat.blt x r.hi) || memN x r.wr
def rangeL:Nat->Nat->Nat->List Nat
 | 0,_,_=>[]
 | f + 1,lo,hi=>bif Nat.blt lo hi then lo :: rangeL f (Nat.succ lo) hi else []
def hideL:List DR->Option (List Nat)
 | []=>some []
 | r :: l=>bif Nat.ble r.hi (r.lo + 40) then match hideL l with | some x=>some (rangeL 40 r.lo r.hi ++ r.wr ++ x) | none=>none else none
def hideA (h:AH):List Nat->Option (AH × List (Nat × AO))
 | []=>some (h,[])
 | x :: l=>match h.get x with
   | some o=>match h.put x none with
     | some h'=>match hideA h' l with | some (h2,sv)=>some (h2,(x,o) :: sv) | none=>none
     | none=>none
   | none=>hideA h l
def showA (h:AH):List (Nat × AO)->Option AH
 | []=>some h
 | (x,o) :: l=>match h.get x with
   | some _=>none
   | none=>match h.put x (some o) with | some h'=>showA h' l | none=>none
def mergeW (bs:Nat)(wl:List Nat):List Nat->List Nat
 | []=>wl
 | x :: l=>bif Nat.blt x bs && !memN x wl then x :: mergeW bs wl l else mergeW bs wl l
def viewRun (tm:Tr AV)(o:Oper)(h:AH)(un:List DR):Option (AV × AH × List Nat × Bool × Option Nat):=
 match kindA tm o.op with
 | .pure=>match opF P rec tm o ⟨.lf,h.nx,h.nx,[]⟩ with
   | some (v,h')=>bif Nat.beq h'.nx h.nx then some (v,h,[],false,none) else none
   | none=>none
 | .make=>match opF P rec tm o ⟨.lf,h.nx,h.nx,[]⟩ with
   | some (v,h')=>bif Nat.beq h'.nx h.nx then some (v,h,[],false,none) else bif Nat.beq h'.nx (Nat.succ h.nx) then
      (match h'.get h.nx with
      | some o=>match h.new o with | some h2=>some (v,h2,[],false,none) | none=>none
      | none=>none)
     else none
   | none=>none
 | .read id=>match h.get id with
   | some ob=>bif un.any (inDR id) then none else
     match Tr.set 64 .lf (Nat.succ id) (some ob) with
     | some t=>match opF P rec tm o ⟨t,h.nx,h.nx,[]⟩ with
       | some (v,h')=>bif Nat.beq h'.nx h.nx then (match h'.wl with | []=>some (v,h,[],false,some id) | _=>none) else none
       | none=>none
     | none=>none
   | none=>none
 | .full=>match hideL un with
   | some l=>match hideA h l with
     | some (hv,sv)=>match opF P rec tm o ⟨hv.t,hv.nx,hv.nx,[]⟩ with
       | some (v,h')=>match showA ⟨h'.t,h'.nx,0,[]⟩ sv with
         | some h2=>some (v,⟨h2.t,h2.nx,h.bs,mergeW h.bs h.wl h'.wl⟩,h'.wl,true,none)
         | none=>none
       | none=>none
     | none=>none
   | none=>none
def noneW (nx:Nat)(wr:List Nat)(un:List DR):Bool:=
 match wr with
 | []=>true
 | _=>wr.all (λ x=>Nat.blt x nx) && un.all λ r=>!r.full && (match r.ld with | some x=>!memN x wr | none=>true) && wr.all (λ x=>!inDR x r)
def drawA (ops:List Oper):List Oper->Nat->List DR->St->Option St
 | [],_,_,s=>some s
 | o :: rest,i,recs,⟨tm,sz,df,rd,h⟩=>
   match predsA i recs o.after.toList with
   | none=>none
   | some pm=>
     let un:=recs.filter λ r=>!Nat.testBit pm r.i
     let lk:=looksA ops o
     bif un.all (apartT o.dst lk) then
      match wantA ops tm o with
      | some true=>match viewRun P rec tm o h un with
        | some (v,h2,wr,full,ld)=>bif noneW h.nx wr un then
           (match putA ⟨tm,sz,df,rd,h2⟩ o.dst v with
           | some s'=>drawA ops rest (Nat.succ i) (⟨i,pm,o.dst,lk,h.nx,h2.nx,wr,full,ld⟩ :: recs) s'
           | none=>none) else none
        | none=>none
      | some false=>match putA ⟨tm,sz,df,rd,h⟩ o.dst undefA with
        | some s'=>drawA ops rest (Nat.succ i) (⟨i,pm,o.dst,lk,h.nx,h.nx,[],false,none⟩ :: recs) s'
        | none=>none
      | none=>none
     else none
theorem drawA_cons (ops:List Oper)(o:Oper)(rest:List Oper)(i:Nat)(recs:List DR)(s:St):drawA P rec ops (o :: rest) i recs s=(
 match predsA i recs o.after.toList with
 | none=>none
 | some pm=>
   let un:=recs.filter λ r=>!Nat.testBit pm r.i
   let lk:=looksA ops o
   bif un.all (apartT o.dst lk) then
    match wantA ops s.tm o with
    | some true=>match viewRun P rec s.tm o s.h un with
      | some (v,h,wr,full,ld)=>bif noneW s.h.nx wr un then
         (match putA { s with h:=h } o.dst v with
         | some s'=>drawA P rec ops rest (Nat.succ i) (⟨i,pm,o.dst,lk,s.h.nx,h.nx,wr,full,ld⟩ :: recs) s'
         | none=>none) else none
      | none=>none
    | some false=>match putA s o.dst undefA with
      | some s'=>drawA P rec ops rest (Nat.succ i) (⟨i,pm,o.dst,lk,s.h.nx,s.h.nx,[],false,none⟩ :: recs) s'
      | none=>none
    | none=>none
   else none):=by cases s;rfl
def rangeFuncA (f:Operand)(ps:Array Tmp)(asg bo:Code)(s:St):Option (AX × St):=
 match evT s.tm f with
 | .fn gf caps=>
   match (match s.rd with
    | none=>match s.h.new (.dfr true) with | some h=>some (s.h.nx,s.h.nx :: s.df,h) | none=>none
    | some l=>match s.h.get l with | some (.loop _ _ _ _ _ _ _ D)=>some (D,s.df,s.h) | _=>none) with
   | some (D,df,h)=>match h.new (.loop .ready none s.tm s.sz ps asg bo D) with
     | some h1=>match callA P rec gf (.yl h.nx :: caps) h1 with
       | some (_,h2)=>match h2.get h.nx with
         | some (.loop .busy _ _ _ _ _ _ _)=>none
         | some (.loop _ pe tm sz ps' asg' bo' D')=>match h2.put h.nx (some (.loop .exhausted pe tm sz ps' asg' bo' D')) with
           | some h3=>match pe with
             | none=>some (.nm,{ s with df:=df,h:=h3 })
             | some .ret=>rec.code .ret { s with df:=df,h:=h3 }
             | some (.exit id)=>rec.code (.exit id) { s with df:=df,h:=h3 }
             | some _=>none
           | none=>none
         | _=>none
       | none=>none
     | none=>none
   | none=>none
 | _=>none
def loopA:Nat->Code->St->Option (AX × St)
 | 0,_,_=>none
 | m + 1,c,s=>match rec.code c s with | some (.nm,s')=>loopA m c s' | r=>r
def codeD (c:Code):Program->Rc->Nat->St->Option (AX × St):=
 @Code.rec (λ _=>Program->Rc->Nat->St->Option (AX × St))
  (λ _ _ _ s=>some (.nm,s))
  (λ _ ops draw P rec _ s=>Bool.rec (motive:=λ _=>Option (AX × St)) (Option.rec (motive:=λ _=>Option (AX × St)) none (λ s'=>some (.nm,s')) (opsA P rec ops.toList ops.toList s)) (Option.rec (motive:=λ _=>Option (AX × St)) none (λ s'=>some (.nm,s')) (drawA P rec ops.toList ops.toList 0 [] s)) draw)
  (λ a b _ _ _ rec _ s=>match rec.code a s with | some (.nm,s')=>rec.code b s' | r=>r)
  (λ c t e _ _ _ rec _ s=>match evT s.tm c with | .b x=>bif x then rec.code t s else rec.code e s | .yb x=>bif x then rec.code t s else rec.code e s | _=>none)
  (λ id c _ _ rec _ s=>match rec.code c s with | some (.ex j,s')=>bif Nat.beq j id then some (.nm,s') else some (.ex j,s') | r=>r)
  (λ c _ _ rec n s=>loopA rec n c s)
  (λ f ps asg bo _ _ P rec _ s=>rangeFuncA P rec f ps asg bo s)
  (λ id _ _ _ s=>some (.ex id,s))
  (λ c _ _ rec _ s=>rec.code c s)
  (λ _ _ _ _ s=>some (.nm,s))
  (λ _ _ _ _ _=>none)
  (λ _ _ _ s=>some (.rt,s))
  (λ _ _ _ _ _=>none) c
def execStep (n:Nat)(c:Code)(s:St):Option (AX × St):=codeD c P rec n s
theorem execStep_eq (n:Nat)(c:Code)(s:St):execStep P rec n c s=(match c with
 | .skip | .label _=>some (.nm,s)
 | .seq a b=>match rec.code a s with | some (.nm,s')=>rec.code b s' | r=>r
 | .cond c t e=>match evT s.tm c with | .b x=>bif x then rec.code t s else rec.code e s | .yb x=>bif x then rec.code t s else rec.code e s | _=>none
 | .block id c=>match rec.code c s with | some (.ex j,s')=>bif Nat.beq j id then some (.nm,s') else some (.ex j,s') | r=>r
 | .loop c=>loopA rec n c s
 | .exit id=>some (.ex id,s)
 | .ret=>some (.rt,s)
 | .region _ ops false=>match opsA P rec ops.toList ops.toList s with | some s'=>some (.nm,s') | none=>none
 | .region _ ops true=>match drawA P rec ops.toList ops.toList 0 [] s with | some s'=>some (.nm,s') | none=>none
 | .rangeFunc f ps asg bo=>rangeFuncA P rec f ps asg bo s
 | .scope c=>rec.code c s
 | _=>none):=by
 unfold execStep codeD
 cases c <;> first | rfl | skip
 rename_i id ops draw
 cases draw with
 | false=>
   show Option.rec (motive:=λ _=>Option (AX × St)) none _ (opsA P rec ops.toList ops.toList s)=_
   simp only
   cases opsA P rec ops.toList ops.toList s <;> rfl
 | true=>
   show Option.rec (motive:=λ _=>Option (AX × St)) none _ (drawA P rec ops.toList ops.toList 0 [] s)=_
   simp only
   cases drawA P rec ops.toList ops.toList 0 [] s <;> rfl
end
def exec (P:Program)(sm:FuncId->Option Sm):Nat->Code->St->Option (AX × St)
 | 0,_,_=>none
 | n + 1,c,s=>execStep P ⟨exec P sm n,sm⟩ n c s
def noSm:FuncId->Option Sm:=λ _=>none
theorem nbeq (a b:Nat):Nat.beq a b=decide (a=b):=by
 rw [Bool.eq_iff_iff];simp
theorem nblt (a b:Nat):Nat.blt a b=decide (a < b):=by
 rw [Bool.eq_iff_iff];simp [Nat.blt,Nat.lt_iff_add_one_le]
theorem nble (a b:Nat):Nat.ble a b=decide (a<=b):=by
 rw [Bool.eq_iff_iff];simp
theorem Tr.get_set {α:Type}:∀ (f:Nat) (t:Tr α) (p:Nat) (v:Option α) (t':Tr α),Tr.set f t p v=some t'->∀ q,t'.get q=if q=p then v else t.get q:=by
 intro f
 induction f with
 | zero=>intro t p v t' h;simp [Tr.set_zero] at h
 | succ f ih=>
   intro t p v t' h q
   have hd:∀ a:Nat,Nat.div a 2=a / 2:=λ _=>rfl
   have hm:∀ a:Nat,Nat.mod a 2=a % 2:=λ _=>rfl
   cases t with
   | lf=>
     simp only [Tr.set_eq,nbeq,Bool.cond_decide] at h
     split at h
     . rename_i hp;subst hp;simp only [sI] at h;subst h
       simp only [Tr.get_lf,Tr.get_nd,nbeq,Bool.cond_decide]
       split
       . rfl
       . split <;> rfl
     . rename_i hp
       split at h
       . rename_i he
         split at h
         . rename_i l hl
           simp only [sI] at h;subst h
           have:=ih _ _ _ _ hl
           simp only [Tr.get_lf,Tr.get_nd,nbeq,Bool.cond_decide]
           by_cases hq:q=1
           . subst hq;simp;omega
           . simp only [hq,if_false]
             split
             . rename_i hqe;rw [this];simp only [Tr.get_lf,Tr.get_nd,hd,hm] at *
               by_cases hqp:q=p
               . subst hqp;simp
               . have:q / 2 ≠ p / 2:=by omega
                 simp [this,hqp]
             . rename_i hqo;simp only [hm] at *
               have:q ≠ p:=by intro e;subst e;exact hqo he
               simp [this]
         . cases h
       . rename_i he
         split at h
         . rename_i l hl
           simp only [sI] at h;subst h
           have:=ih _ _ _ _ hl
           simp only [Tr.get_lf,Tr.get_nd,nbeq,Bool.cond_decide]
           by_cases hq:q=1
           . subst hq;simp;omega
           . simp only [hq,if_false]
             split
             . rename_i hqe;simp only [hm] at *
               have:q ≠ p:=by intro e;subst e;exact he hqe
               simp [this]
             . rename_i hqo;rw [this];simp only [Tr.get_lf,Tr.get_nd,hd,hm] at *
               by_cases hqp:q=p
               . subst hqp;simp
               . have:q / 2 ≠ p / 2:=by omega
                 simp [this,hqp]
         . cases h
   | nd w l r=>
     simp only [Tr.set_eq,nbeq,Bool.cond_decide] at h
     split at h
     . rename_i hp;subst hp;simp only [sI] at h;subst h
       simp only [Tr.get_lf,Tr.get_nd,nbeq,Bool.cond_decide]
       split
       . rfl
       . rfl
     . rename_i hp
       split at h
       . rename_i he
         split at h
         . rename_i l hl
           simp only [sI] at h;subst h
           have:=ih _ _ _ _ hl
           simp only [Tr.get_lf,Tr.get_nd,nbeq,Bool.cond_decide]
           by_cases hq:q=1
           . subst hq;simp;omega
           . simp only [hq,if_false]
             split
             . rename_i hqe;rw [this];simp only [hd,hm] at *
               by_cases hqp:q=p
               . subst hqp;simp
               . have:q / 2 ≠ p / 2:=by omega
                 simp [this,hqp]
             . rename_i hqo;simp only [hm] at *
               have:q ≠ p:=by intro e;subst e;exact hqo he
               simp [this]
         . cases h
       . rename_i he
         split at h
         . rename_i l hl
           simp only [sI] at h;subst h
           have:=ih _ _ _ _ hl
           simp only [Tr.get_lf,Tr.get_nd,nbeq,Bool.cond_decide]
           by_cases hq:q=1
           . subst hq;simp;omega
           . simp only [hq,if_false]
             split
             . rename_i hqe;simp only [hm] at *
               have:q ≠ p:=by intro e;subst e;exact he hqe
               simp [this]
             . rename_i hqo;rw [this];simp only [hd,hm] at *
               by_cases hqp:q=p
               . subst hqp;simp
               . have:q / 2 ≠ p / 2:=by omega
                 simp [this,hqp]
         . cases h
theorem AH.get_put {h h':AH}{id:Nat}{v:Option AO}(hp:h.put id v=some h')(q:Nat):h'.get q=if q=id then v else h.get q:=by
 unfold AH.put at hp
 split at hp
 . rename_i t ht
   simp only [sI] at hp
   subst hp
   have:=Tr.get_set _ _ _ _ _ ht (Nat.succ q)
   simp only [AH.get,this,Nat.succ.injEq]
 . cases hp
theorem AH.put_nx {h h':AH}{id:Nat}{v:Option AO}(hp:h.put id v=some h'):h'.nx=h.nx/\h'.bs=h.bs/\h'.wl=(bif Nat.blt id h.bs then (bif memN id h.wl then h.wl else id :: h.wl) else h.wl):=by
 unfold AH.put at hp
 split at hp
 . simp only [sI] at hp
   subst hp
   exact ⟨rfl,rfl,rfl⟩
 . cases hp
theorem AH.get_new {h h':AH}{o:AO}(hp:h.new o=some h')(q:Nat):h'.get q=if q=h.nx then some o else h.get q:=by
 unfold AH.new at hp
 split at hp
 . rename_i t ht
   simp only [sI] at hp
   subst hp
   have:=Tr.get_set _ _ _ _ _ ht (Nat.succ q)
   simp only [AH.get,this,Nat.succ.injEq]
 . cases hp
theorem AH.new_nx {h h':AH}{o:AO}(hp:h.new o=some h'):h'.nx=h.nx + 1/\h'.bs=h.bs/\h'.wl=h.wl:=by
 unfold AH.new at hp
 split at hp
 . simp only [sI] at hp
   subst hp
   exact ⟨rfl,rfl,rfl⟩
 . cases hp
theorem memN_iff {x:Nat}{l:List Nat}:memN x l=true ↔ x ∈ l:=by
 induction l with
 | nil=>simp [memN_nil]
 | cons y l ih=>simp only [memN_cons,nbeq,Bool.cond_decide];split <;> simp_all
structure Mp where
 f:Nat->Option (Nat × Nat)
 z:Nat->Option (Array Value)
instance:CoeFun Mp (λ _=>Nat->Option (Nat × Nat)):=⟨Mp.f⟩
abbrev noM:Mp:=⟨λ _=>none,λ _=>none⟩
mutual
def AV.R (M:Mp):AV->Value->Prop
 | .b x,v=>v=.bool x
 | .i k n,v=>v=.int k n
 | .s l,v=>v=.string ⟨l.toArray⟩
 | .ptr id off,v=>∃ b c,M id=some (b,c)/\v=.pointer (some ⟨b,off,none⟩)
 | .np,v=>v=.pointer none
 | .sl id off len cap u,v=>∃ b c,M id=some (b,c)/\v=.slice (some ⟨b,off,none⟩) len (if u then c - cap else cap)
 | .ns,v=>v=.slice none 0 0
 | .es,v=>∃ a c,v=.slice (some a) 0 c
 | .mp id,v=>∃ b c,M id=some (b,c)/\v=.map (some b)
 | .nm,v=>v=.map none
 | .fn f caps,v=>∃ vs,AV.RL M caps vs/\v=.func (.func f) #[] vs.toArray
 | .yl id,v=>∃ b c,M id=some (b,c)/\v=.func (.yield b) #[] #[]
 | .nf,v=>v=.nilFunc
 | .ifc t x,v=>∃ u,x.R M u/\v=.iface t u
 | .ni,v=>v=.nilIface
 | .agg l,v=>∃ vs,AV.RL M l vs/\v=.agg vs.toArray
 | .tup l,v=>∃ vs,AV.RL M l vs/\v=.tuple vs.toArray
 | .o u,v=>v=u
 | .gl g off,v=>v=.pointer (some ⟨g,off,none⟩)
 | .y k n,v=>v=.int k n
 | .yb x,v=>v=.bool x
 | .ys l,v=>v=.string ⟨l.toArray⟩
 | .ysl ro nil id z q n,v=>(nil=true/\n=0/\v=.slice none 0 0) ∨ (nil=false/\n=0/\∃ a c,v=.slice (some a) 0 c/\(ro=false->c=0)) ∨
    (nil=false/\∃ b κ c,M id=some (b,κ)/\v=.slice (some ⟨b,(if ro then κ else 0) + q * z,none⟩) n c/\n<=c/\0 < n/\(ro=false->c<=κ - q/\q + n<=κ))
 | .ypt ro id z p q,v=>∃ b κ,M id=some (b,κ)/\v=.pointer (some ⟨b,(if ro then κ else 0) + p * z + q,none⟩)
 | .ye nil,v=>(nil=true/\v=.slice none 0 0) ∨ (nil=false/\∃ a,v=.slice (some a) 0 0)
 | .lst x nil z n f,v=>(nil=true/\n=0/\v=.slice none 0 0) ∨ (nil=false/\n=0/\∃ a c,v=.slice (some a) 0 c/\(x=true->c=0)) ∨
    (nil=false/\0 < n/\∃ b off c cs,v=.slice (some ⟨b,off,none⟩) n c/\n<=c/\(x=true->c=n)/\M.z b=some cs ∧
      ∀ i,i < n->∀ j,j < z->∃ u,cs[off + i * z + j]?=some u/\u.oneCell'=true/\AV.R M (f i j) u)
 | .jk,v=>v.oneCell'=true
 | .yr nil id z n,v=>(nil=true/\n=0/\v=.slice none 0 0) ∨ (nil=false/\∃ b κ c,M id=some (b,κ)/\v=.slice (some ⟨b,0,none⟩) n c/\n<=c/\c<=κ)
 | .lp z j g,v=>∃ b off cs,v=.pointer (some ⟨b,off + j,none⟩)/\M.z b=some cs/\∀ q,q < z->∃ u,cs[off + q]?=some u/\u.oneCell'=true/\AV.R M (g q) u
def AV.RL (M:Mp):List AV->List Value->Prop
 | [],vs=>vs=[]
 | a :: l,vs=>∃ v vs',a.R M v/\AV.RL M l vs'/\vs=v :: vs'
end
structure Le (M M':Mp):Prop where
 f:∀ id p,M id=some p->M' id=some p
 z:∀ b cs,M.z b=some cs->M'.z b=some cs
instance {M M':Mp}:CoeFun (Le M M') (λ _=>∀ id p,M id=some p->M' id=some p):=⟨Le.f⟩
theorem Le.refl (M:Mp):Le M M:=⟨λ _ _ h=>h,λ _ _ h=>h⟩
theorem Le.trans {A B C:Mp}(h:Le A B)(k:Le B C):Le A C:=⟨λ id p e=>k id p (h id p e),λ b cs e=>k.z b cs (h.z b cs e)⟩
mutual
theorem AV.R.mono {M M':Mp}(h:Le M M'):∀ (a:AV) (v:Value),a.R M v->a.R M' v
 | .b _,_,r | .i _ _,_,r | .s _,_,r | .np,_,r | .ns,_,r | .nm,_,r | .nf,_,r | .ni,_,r | .o _,_,r | .gl _ _,_,r=>r
 | .es,_,r=>r
 | .jk,_,r=>r
 | .y _ _,_,r | .yb _,_,r | .ys _,_,r | .ye _,_,r=>r
 | .ysl _ _ _ _ _ _,_,r=>by
   simp only [AV.R] at r ⊢
   rcases r with r | r | ⟨h1,b,c,k,e,r⟩
   . exact .inl r
   . exact .inr (.inl r)
   . exact .inr (.inr ⟨h1,b,c,k,h _ _ e,r⟩)
 | .yr _ _ _ _,_,r=>by
   simp only [AV.R] at r ⊢
   rcases r with r | ⟨h1,b,κ,c,e,r⟩
   . exact .inl r
   . exact .inr ⟨h1,b,κ,c,h _ _ e,r⟩
 | .ypt _ _ _ _ _,_,r=>by simp only [AV.R] at r ⊢;obtain ⟨b,c,e,r⟩:=r;exact ⟨b,c,h _ _ e,r⟩
 | .ptr _ _,_,r=>by simp only [AV.R] at r ⊢;obtain ⟨b,c,e,r⟩:=r;exact ⟨b,c,h _ _ e,r⟩
 | .sl _ _ _ _ _,_,r=>by simp only [AV.R] at r ⊢;obtain ⟨b,c,e,r⟩:=r;exact ⟨b,c,h _ _ e,r⟩
 | .mp _,_,r=>by simp only [AV.R] at r ⊢;obtain ⟨b,c,e,r⟩:=r;exact ⟨b,c,h _ _ e,r⟩
 | .yl _,_,r=>by simp only [AV.R] at r ⊢;obtain ⟨b,c,e,r⟩:=r;exact ⟨b,c,h _ _ e,r⟩
 | .lst _ _ _ _ f,_,r=>by
   simp only [AV.R] at r ⊢
   rcases r with r | r | ⟨h1,h2,b,off,c,cs,r1,r2,r3,r4,r5⟩
   . exact .inl r
   . exact .inr (.inl r)
   . exact .inr (.inr ⟨h1,h2,b,off,c,cs,r1,r2,r3,h.z _ _ r4,λ i hi j hj=>by obtain ⟨u,q1,q2,q3⟩:=r5 i hi j hj;exact ⟨u,q1,q2,AV.R.mono h (f i j) u q3⟩⟩)
 | .lp _ _ g,_,r=>by
   simp only [AV.R] at r ⊢
   obtain ⟨b,off,cs,r1,r2,r3⟩:=r
   exact ⟨b,off,cs,r1,h.z _ _ r2,λ q hq=>by obtain ⟨u,q1,q2,q3⟩:=r3 q hq;exact ⟨u,q1,q2,AV.R.mono h (g q) u q3⟩⟩
 | .fn _ caps,_,r=>by simp only [AV.R] at r ⊢;obtain ⟨vs,e,r⟩:=r;exact ⟨vs,AV.RL.mono h caps vs e,r⟩
 | .ifc _ x,_,r=>by simp only [AV.R] at r ⊢;obtain ⟨u,e,r⟩:=r;exact ⟨u,AV.R.mono h x u e,r⟩
 | .agg l,_,r=>by simp only [AV.R] at r ⊢;obtain ⟨vs,e,r⟩:=r;exact ⟨vs,AV.RL.mono h l vs e,r⟩
 | .tup l,_,r=>by simp only [AV.R] at r ⊢;obtain ⟨vs,e,r⟩:=r;exact ⟨vs,AV.RL.mono h l vs e,r⟩
theorem AV.RL.mono {M M':Mp}(h:Le M M'):∀ (l:List AV) (vs:List Value),AV.RL M l vs->AV.RL M' l vs
 | [],_,r=>r
 | a :: l,_,r=>by
   simp only [AV.RL] at r ⊢
   obtain ⟨v,vs',r1,r2,r3⟩:=r
   exact ⟨v,vs',AV.R.mono h a v r1,AV.RL.mono h l vs' r2,r3⟩
end
def TR (M:Mp)(tm:Tr AV)(tmps:Array Value):Prop:=∀ n,((tm.get (n + 1)).getD undefA).R M (tmps.getD n undef)
theorem TR.mono {M M':Mp}(h:Le M M'){tm:Tr AV}{tmps:Array Value}(r:TR M tm tmps):TR M' tm tmps:=λ n=>AV.R.mono h _ _ (r n)
def EL (M:Mp):List (AV × AV × Nat)->List MapEntry->Prop
 | [],l=>l=[]
 | e :: es,l=>∃ k v l',e.1.R M k/\e.2.1.R M v/\EL M es l'/\l={ key:=k,val:=v,born:=e.2.2 } :: l'
theorem EL.mono {M M':Mp}(h:Le M M'):∀ (es:List (AV × AV × Nat)) (l:List MapEntry),EL M es l->EL M' es l
 | [],_,r=>r
 | _e :: es,_,⟨k,v,l',r1,r2,r3,r4⟩=>⟨k,v,l',AV.R.mono h _ _ r1,AV.R.mono h _ _ r2,EL.mono h es l' r3,r4⟩
structure MapY (k kv:IntKind)(p:Int->Bool)(v:Int->Int)(l:List MapEntry):Prop where
 ent:∀ e,e ∈ l->∃ n,e.key=.int k n/\e.val=.int kv (v n)/\p n=true
 has:∀ n,p n=true->∃ e,e ∈ l/\e.key=.int k n
 one:l.Pairwise λ a b=>a.key ≠ b.key
structure MapZ (M:Mp)(k:IntKind)(z:Nat)(p:Int->Bool)(f:Int->Nat->AV)(l:List MapEntry):Prop where
 ent:∀ e,e ∈ l->∃ n vs,e.key=.int k n/\e.val=.agg (List.toArray vs)/\vs.length=z/\(∀ j,j < z->∃ v,vs[j]?=some v/\v.oneCell'=true/\(f n j).R M v)/\p n=true
 has:∀ n,p n=true->∃ e,e ∈ l/\e.key=.int k n
 one:l.Pairwise λ a b=>a.key ≠ b.key
theorem MapZ.mono {M M':Mp}(h:Le M M'){k:IntKind}{z:Nat}{p:Int->Bool}{f:Int->Nat->AV}{l:List MapEntry}(r:MapZ M k z p f l):MapZ M' k z p f l:=
 ⟨λ e he=>by
  obtain ⟨n,vs,q1,q2,q3,q4,q5⟩:=r.ent e he
  exact ⟨n,vs,q1,q2,q3,λ j hj=>by
   obtain ⟨v,x1,x2,x3⟩:=q4 j hj
   exact ⟨v,x1,x2,AV.R.mono h _ _ x3⟩,q5⟩,r.has,r.one⟩
def ObR (M:Mp)(κ:Nat):AO->Obj->Prop
 | .cells c e g,o=>∃ vs rest,AV.RL M c vs/\o=.cells (vs ++ rest).toArray e (0,0)/\(match g with | none=>rest=[] | some z=>(vs ++ rest).length=κ * z)
 | .map es ck,o=>∃ l,EL M es l/\o=.map l.toArray ck
 | .loop st pe tm sz ps asg bo D,o=>∃ fn tmps b c,M D=some (b,c)/\TR M tm tmps/\tmps.size=sz ∧
    o=.loop { state:=st,pending:=pe,fn,tmps,params:=ps,assign:=asg,body:=bo,defers:=b }
 | .dfr op,o=>o=.deferred (if op then some [] else none)
 | .sit l pos,o=>o=.stringIter ⟨l.toArray⟩ pos
 | .mapy k kv p v,o=>∃ l ck,o=.map l.toArray ck/\MapY k kv p v l
 | .mapz k z p f,o=>∃ l ck,o=.map l.toArray ck/\MapZ M k z p f l
 | .arr true _ z n f,ob=>∃ cs e fr,ob=.cells cs e fr/\∀ i,i < n->∀ j,j < z->∃ v,cs[κ + i * z + j]?=some v/\v.oneCell'=true/\(f i j).R M v
 | .arr false et z n f,ob=>∃ cs,ob=.cells cs et (0,0)/\cs.size=κ * z/\n<=κ/\∀ i,i < n->∀ j,j < z->∃ v,cs[i * z + j]?=some v/\v.oneCell'=true/\(f i j).R M v
theorem ObR.mono {M M':Mp}(h:Le M M'){κ:Nat}:∀ (a:AO) (o:Obj),ObR M κ a o->ObR M' κ a o
 | .cells c _ _,_,⟨vs,rest,r,q⟩=>⟨vs,rest,AV.RL.mono h c vs r,q⟩
 | .map es _,_,⟨l,r,q⟩=>⟨l,EL.mono h es l r,q⟩
 | .loop _ _ _ _ _ _ _ _,_,⟨fn,tmps,b,c,r,t,q⟩=>⟨fn,tmps,b,c,h _ _ r,t.mono h,q⟩
 | .dfr _,_,r=>r
 | .sit _ _,_,r=>r
 | .mapy _ _ _ _,_,r=>r
 | .mapz _ _ _ _,_,⟨l,ck,e,r⟩=>⟨l,ck,e,r.mono h⟩
 | .arr true _ _ _ _,_,⟨cs,e,fr,r,q⟩=>⟨cs,e,fr,r,λ i hi j hj=>by obtain ⟨v,h1,h2,h3⟩:=q i hi j hj;exact ⟨v,h1,h2,AV.R.mono h _ _ h3⟩⟩
 | .arr false _ _ _ _,_,⟨cs,r,q1,q2,q⟩=>⟨cs,r,q1,q2,λ i hi j hj=>by obtain ⟨v,h1,h2,h3⟩:=q i hi j hj;exact ⟨v,h1,h2,AV.R.mono h _ _ h3⟩⟩
def GW (w:World):Prop:=∀ g c,GL g=some c->∃ vs e fr,w.heap[g]?=some (.cells vs.toArray e fr)/\AV.RL noM c vs
def AO.ro:AO->Bool
 | .arr ro _ _ _ _=>ro
 | _=>false
def AO.Vac:AO->Prop
 | .arr _ _ _ n _=>n=0
 | _=>False
structure Rel (M:Mp)(h:AH)(w:World):Prop where
 obj:∀ id o,h.get id=some o->(o.Vac/\M id=none) ∨ ∃ b κ ob,M id=some (b,κ)/\w.heap[b]?=some ob/\ObR M κ o ob
 inj:∀ i j b κ κ' o,h.get i=some o->o.ro=false->h.get j ≠ none->M i=some (b,κ)->M j=some (b,κ')->i=j
 wf:∀ x,h.get x ≠ none->x < h.nx
 gw:GW w
 gf:∀ x b κ o,h.get x=some o->o.ro=false->M x=some (b,κ)->GL b=none
 fz:∀ b cs,M.z b=some cs->∃ e fr,w.heap[b]?=some (.cells cs e fr)
 fo:∀ i b κ o,h.get i=some o->o.ro=false->M i=some (b,κ)->M.z b=none
structure Ab (h h':AH):Prop where
 nx:h.nx<=h'.nx
 bs:h'.bs=h.bs
 wl:∀ x,x ∈ h.wl->x ∈ h'.wl
 log:∀ x,x < h.bs->x < h.nx->x ∉ h'.wl->h'.get x=h.get x
 dom:∀ x,h'.get x ≠ none->h.get x ≠ none ∨ (h.nx<=x/\x < h'.nx)
structure Fr (h h':AH)(M M':Mp)(w w':World):Prop where
 os:w'.os=w.os
 tape:w'.tape=w.tape
 output:w'.output=w.output
 size:w.heap.size<=w'.heap.size
 ext:Le M M'
 only:∀ id,M' id ≠ M id->h.nx<=id/\id < h'.nx
 keep:∀ k,k < w.heap.size->(∀ id κ o,h.get id=some o->o.ro=false->M id ≠ some (k,κ))->w'.heap[k]?=w.heap[k]?
 range:∀ id b κ o',h'.get id=some o'->M' id=some (b,κ)->w.heap.size<=b ∨ ∃ i κ' o,h.get i=some o/\M i=some (b,κ')/\(o'.ro=false->o.ro=false)
 zx:∀ b cs,M'.z b=some cs->M.z b=some cs ∨ w.heap.size<=b ∨ ∃ i κ o,h.get i=some o/\o.ro=false/\M i=some (b,κ)
def Fresh (M:Mp)(h h':AH):Prop:=∀ id,h.nx<=id->id < h'.nx->M id=none
theorem Ab.refl (h:AH):Ab h h:=⟨Nat.le_refl _,rfl,λ _ h=>h,λ _ _ _ _=>rfl,λ _ h=>.inl h⟩
theorem Ab.trans {a b c:AH}(h:Ab a b)(k:Ab b c):Ab a c where
 nx:=Nat.le_trans h.nx k.nx
 bs:=k.bs.trans h.bs
 wl:=λ x hx=>k.wl x (h.wl x hx)
 log:=λ x hx hy hn=>(k.log x (by rw [h.bs];exact hx) (Nat.lt_of_lt_of_le hy h.nx) hn).trans (h.log x hx hy (λ hm=>hn (k.wl x hm)))
 dom:=λ x hx=>by
  rcases k.dom x hx with h1 | h1
  . rcases h.dom x h1 with h2 | h2
    . exact .inl h2
    . exact .inr ⟨h2.1,Nat.lt_of_lt_of_le h2.2 k.nx⟩
  . exact .inr ⟨Nat.le_trans h.nx h1.1,h1.2⟩
theorem Fr.refl (h:AH)(M:Mp){w:World}{_k:Rel M h w}:Fr h h M M w w:=
 ⟨rfl,rfl,rfl,Nat.le_refl _,Le.refl M,λ _ e=>absurd rfl e,λ _ _ _=>rfl,λ id _b κ o h1 h2=>.inr ⟨id,κ,o,h1,h2,λ e=>e⟩,λ _ _ e=>.inl e⟩
theorem Fr.same (h:AH)(M:Mp)(w:World):Fr h h M M w w:=
 ⟨rfl,rfl,rfl,Nat.le_refl _,Le.refl M,λ _ e=>absurd rfl e,λ _ _ _=>rfl,λ id _b κ o h1 h2=>.inr ⟨id,κ,o,h1,h2,λ e=>e⟩,λ _ _ e=>.inl e⟩
theorem Fr.trans {a b c:AH}{M N O:Mp}{u v w:World}(hab:a.nx<=b.nx)(hbc:b.nx<=c.nx)(h:Fr a b M N u v)(k:Fr b c N O v w):Fr a c M O u w where
 os:=k.os.trans h.os
 tape:=k.tape.trans h.tape
 output:=k.output.trans h.output
 size:=Nat.le_trans h.size k.size
 ext:=h.ext.trans k.ext
 only:=λ id e=>by
  by_cases hn:N id=M id
  . have:=k.only id (by rw [hn];exact e);omega
  . have:=h.only id hn;omega
 keep:=λ i hi hn=>by
  rw [k.keep i (Nat.lt_of_lt_of_le hi h.size) (λ id κ o hg hr he=>?_),h.keep i hi hn]
  rcases h.range id i κ o hg he with h1 | ⟨j,κ',o2,h1,h2,h3⟩
  . omega
  . exact hn j κ' o2 h1 (h3 hr) h2
 range:=λ id b' κ o hg he=>by
  rcases k.range id b' κ o hg he with h1 | ⟨j,κ',o2,h1,h2,h3⟩
  . exact .inl (Nat.le_trans h.size h1)
  . rcases h.range j b' κ' o2 h1 h2 with q | ⟨i,κ2,o3,q1,q2,q3⟩
    . exact .inl q
    . exact .inr ⟨i,κ2,o3,q1,q2,λ e=>q3 (h3 e)⟩
 zx:=λ b cs e=>by
  rcases k.zx b cs e with q | q | ⟨i,κ,o,q1,q2,q3⟩
  . exact h.zx b cs q
  . exact .inr (.inl (Nat.le_trans h.size q))
  . rcases h.range i b κ o q1 q3 with r | ⟨j,κ',o',r1,r2,r3⟩
    . exact .inr (.inl r)
    . exact .inr (.inr ⟨j,κ',o',r1,r3 q2,r2⟩)
theorem Fresh.left {M:Mp}{a b c:AH}(h:Fresh M a c)(k:b.nx<=c.nx):Fresh M a b:=λ id h1 h2=>h id h1 (Nat.lt_of_lt_of_le h2 k)
theorem Fresh.right {M N:Mp}{a b c:AH}{u v:World}(h:Fresh M a c)(k:a.nx<=b.nx)(f:Fr a b M N u v):Fresh N b c:=λ id h1 h2=>by
 by_cases hn:N id=M id
 . rw [hn];exact h id (Nat.le_trans k h1) h2
 . have:=f.only id hn;omega
section lists
variable {M : Mp}
theorem RL_length:∀ {l:List AV} {vs:List Value},AV.RL M l vs->vs.length=l.length
 | [],vs,r=>by simp only [AV.RL] at r;subst r;rfl
 | a :: l,vs,r=>by simp only [AV.RL] at r;obtain ⟨v,vs',_,r2,rfl⟩:=r;simp [RL_length r2]
theorem RL_append:∀ {l k:List AV} {vs us:List Value},AV.RL M l vs->AV.RL M k us->AV.RL M (l ++ k) (vs ++ us)
 | [],_,vs,_,r,s=>by simp only [AV.RL] at r;subst r;exact s
 | a :: l,_,vs,_,r,s=>by
   simp only [AV.RL] at r;obtain ⟨v,vs',r1,r2,rfl⟩:=r
   simp only [List.cons_append,AV.RL]
   exact ⟨v,_,r1,RL_append r2 s,rfl⟩
theorem RL_take:∀ {l:List AV} {vs:List Value} (n:Nat),AV.RL M l vs->AV.RL M (l.take n) (vs.take n)
 | _,_,0,_=>by simp [AV.RL]
 | [],vs,n + 1,r=>by simp only [AV.RL] at r;subst r;simp [AV.RL]
 | a :: l,vs,n + 1,r=>by
   simp only [AV.RL] at r;obtain ⟨v,vs',r1,r2,rfl⟩:=r
   simp only [List.take_succ_cons,AV.RL]
   exact ⟨v,_,r1,RL_take n r2,rfl⟩
theorem RL_drop:∀ {l:List AV} {vs:List Value} (n:Nat),AV.RL M l vs->AV.RL M (l.drop n) (vs.drop n)
 | _,_,0,r=>by simpa using r
 | [],vs,n + 1,r=>by simp only [AV.RL] at r;subst r;simp [AV.RL]
 | a :: l,vs,n + 1,r=>by
   simp only [AV.RL] at r;obtain ⟨v,vs',r1,r2,rfl⟩:=r
   simp only [List.drop_succ_cons]
   exact RL_drop n r2
theorem nthA_get:∀ {l:List AV} {n:Nat} {a:AV} {vs:List Value},nthA l n=some a->AV.RL M l vs->∃ v,vs[n]?=some v/\a.R M v
 | [],_,_,_,h,_=>by simp [nthA_nil] at h
 | x :: l,0,a,vs,h,r=>by
   simp only [nthA_cons,sI] at h;subst h
   simp only [AV.RL] at r;obtain ⟨v,vs',r1,r2,rfl⟩:=r
   exact ⟨v,rfl,r1⟩
 | x :: l,n + 1,a,vs,h,r=>by
   simp only [nthA_cons] at h
   simp only [AV.RL] at r;obtain ⟨v,vs',r1,r2,rfl⟩:=r
   simpa using nthA_get h r2
theorem takeA_eq:∀ {l:List AV} {n:Nat} {r:List AV},takeA l n=some r->r=l.take n/\n<=l.length
 | _,0,r,h=>by simp [takeA_zero] at h;subst h;simp
 | [],n + 1,r,h=>by simp [takeA_nil] at h
 | a :: l,n + 1,r,h=>by
   simp only [takeA_cons] at h
   split at h
   . rename_i k hk
     obtain ⟨h1,h2⟩:=takeA_eq hk
     simp only [sI] at h;subst h;subst h1
     simp;omega
   . cases h
theorem sliceA_eq:∀ {l:List AV} {o n:Nat} {r:List AV},sliceA l o n=some r->r=(l.drop o).take n/\o + n<=l.length
 | l,0,n,r,h=>by
   simp only [sliceA] at h
   obtain ⟨h1,h2⟩:=takeA_eq h
   subst h1;simp;omega
 | [],o + 1,n,r,h=>by simp [sliceA] at h
 | a :: l,o + 1,n,r,h=>by
   simp only [sliceA] at h
   obtain ⟨h1,h2⟩:=sliceA_eq h
   subst h1;simp;omega
theorem spliceA_eq:∀ {l:List AV} {o:Nat} {x r:List AV},spliceA l o x=some r->r=l.take o ++ x ++ l.drop (o + x.length)/\o + x.length<=l.length
 | l,0,[],r,h=>by cases l <;> (simp [spliceA_done] at h;subst h;simp)
 | a :: l,0,v :: vs,r,h=>by
   simp only [spliceA_here] at h
   split at h
   . rename_i k hk
     obtain ⟨h1,h2⟩:=spliceA_eq hk
     simp only [sI] at h;subst h;subst h1
     simp at h2 ⊢;omega
   . cases h
 | [],0,v :: vs,r,h=>by simp [spliceA_nil] at h
 | [],o + 1,x,r,h=>by simp [spliceA_off] at h
 | a :: l,o + 1,x,r,h=>by
   have h':(spliceA l o x).map (a :: ·)=some r:=by
    cases x <;> (simp only [spliceA_cons] at h;split at h <;> simp_all)
   cases hk:spliceA l o x
   . rw [hk] at h';cases h'
   . rename_i k
     rw [hk] at h'
     obtain ⟨h1,h2⟩:=spliceA_eq hk
     simp only [Option.map_some,sI] at h';subst h';subst h1
     have e:o + 1 + x.length=(o + x.length) + 1:=by omega
     rw [e]
     simp;omega
theorem RL_splice {l x r:List AV}{vs us:List Value}{o:Nat}(h:spliceA l o x=some r)(hl:AV.RL M l vs)(hx:AV.RL M x us):
 AV.RL M r (vs.take o ++ us ++ vs.drop (o + us.length))/\o + us.length<=vs.length:=by
 obtain ⟨h1,h2⟩:=spliceA_eq h
 have e1:=RL_length hl
 have e2:=RL_length hx
 subst h1
 rw [e2]
 exact ⟨RL_append (RL_append (RL_take _ hl) hx) (RL_drop _ hl),by omega⟩
theorem splice_rest {vs us rest:List Value}{o:Nat}(h:o + us.length<=vs.length):
 (vs ++ rest).take o ++ us ++ (vs ++ rest).drop (o + us.length)=(vs.take o ++ us ++ vs.drop (o + us.length)) ++ rest:=by
 rw [List.take_append_of_le_length (by omega),List.drop_append_of_le_length h];simp [List.append_assoc]
theorem RL_map_o:∀ (l:List Value),AV.RL M (l.map .o) l
 | []=>by simp [AV.RL]
 | v :: l=>by simp only [List.map_cons,AV.RL];exact ⟨v,l,rfl,RL_map_o l,rfl⟩
end lists
theorem ofV_R (M:Mp):∀ (n:Nat) (v:Value),(ofV n v).R M v:=by
 have hl:∀ (n:Nat),(∀ v,(ofV n v).R M v)->∀ l:List Value,AV.RL M (l.map (ofV n)) l:=by
  intro n h l
  induction l with
  | nil=>simp [AV.RL]
  | cons v l ih=>simp only [List.map_cons,AV.RL];exact ⟨v,l,h v,ih,rfl⟩
 intro n
 induction n with
 | zero=>
   intro v
   unfold ofV
   split <;> first | rfl | simp_all
 | succ n ih=>
   intro v
   unfold ofV
   split <;> first | rfl | (simp_all [AV.R];done) | skip
   . rename_i hh
     simp only [AV.R]
     simp only [Nat.succ.injEq] at hh
     subst hh
     exact ⟨_,hl _ ih _,by simp⟩
theorem cellsA_R {M:Mp}{a:AV}{v:Value}(h:a.R M v):AV.RL M (cellsA a) v.cells.toList:=by
 unfold cellsA
 split
 . simp only [AV.R] at h
   obtain ⟨vs,r,rfl⟩:=h
   simpa [Value.cells] using r
 . simp only [AV.R] at h;subst h
   simp only [Value.cells]
   exact RL_map_o _
 . rename_i h1 h2
   have:v.cells=#[v]:=by
    cases a
    case yr=>simp only [AV.R] at h;rcases h with ⟨_,_,rfl⟩ | ⟨_,_,_,_,_,rfl,_⟩ <;> rfl
    all_goals simp only [AV.R] at h
    all_goals first
     | (subst h;first | rfl | (cases v <;> first | rfl | (exfalso;exact h2 _ rfl)))
     | (exfalso;exact h1 _ rfl)
     | (rcases h with ⟨_,_,rfl⟩ | ⟨_,_,_,_,rfl,_⟩ | ⟨_,_,_,_,_,rfl,_⟩ <;> rfl)
     | (rcases h with ⟨_,_,rfl⟩ | ⟨_,_,_,_,rfl,_⟩ | ⟨_,_,_,_,_,_,rfl,_⟩ <;> rfl)
     | (rcases h with ⟨_,rfl⟩ | ⟨_,_,rfl⟩ <;> rfl)
     | (obtain ⟨_,_,_,rfl,_⟩:=h;rfl)
     | (obtain ⟨_,_,_,rfl⟩:=h;rfl)
     | (obtain ⟨_,_,rfl⟩:=h;rfl)
     | (cases v <;> first | rfl | (cases h;done))
   rw [this]
   simp only [AV.RL]
   exact ⟨v,[],h,rfl,rfl⟩
theorem isCell_one {M:Mp}{a:AV}{v:Value}(h:a.R M v)(hc:isCell a=true):v.oneCell'=true:=by
 cases a
 case yr=>simp only [AV.R] at h;rcases h with ⟨_,_,rfl⟩ | ⟨_,_,_,_,_,rfl,_⟩ <;> rfl
 all_goals simp only [AV.R] at h
 all_goals first
  | exact h
  | (subst h;first | rfl | (simp [isCell] at hc;done) | (cases v <;> first | rfl | (simp [isCell] at hc;done)))
  | (simp [isCell] at hc;done)
  | (rcases h with ⟨_,_,rfl⟩ | ⟨_,_,_,_,rfl,_⟩ | ⟨_,_,_,_,_,rfl,_⟩ <;> rfl)
  | (rcases h with ⟨_,_,rfl⟩ | ⟨_,_,_,_,rfl,_⟩ | ⟨_,_,_,_,_,_,rfl,_⟩ <;> rfl)
  | (rcases h with ⟨_,rfl⟩ | ⟨_,_,rfl⟩ <;> rfl)
  | (obtain ⟨_,_,_,rfl,_⟩:=h;rfl)
  | (obtain ⟨_,_,_,rfl⟩:=h;rfl)
  | (obtain ⟨_,_,rfl⟩:=h;rfl)
theorem allCell_one {M:Mp}:∀ {l:List AV} {vs:List Value},AV.RL M l vs->allCell l=true->∀ v ∈ vs,v.oneCell'=true
 | [],vs,r,_=>by simp only [AV.RL] at r;subst r;simp
 | a :: l,vs,r,h=>by
   simp only [AV.RL] at r;obtain ⟨v,vs',r1,r2,rfl⟩:=r
   simp only [allCell_cons] at h
   have ha:isCell a=true:=by cases hh:isCell a <;> simp_all
   rw [ha] at h
   intro u hu
   rcases List.mem_cons.1 hu with rfl | hu
   . exact isCell_one r1 ha
   . exact allCell_one r2 h u hu
def updM (M:Mp)(id:Nat)(p:Nat × Nat):Mp:=⟨λ i=>if i=id then some p else M i,M.z⟩
theorem Le_updM {M:Mp}{id:Nat}{p:Nat × Nat}(h:M id=none):Le M (updM M id p):=⟨λ i q e=>by
 unfold updM
 simp only
 split
 . rename_i hi;subst hi;rw [h] at e;cases e
 . exact e,λ _ _ e=>e⟩
theorem heap_lt0 {w:World}{b:Nat}{o:Obj}(h:w.heap[b]?=some o):b < w.heap.size:=(Array.getElem?_eq_some_iff.1 h).1
theorem Rel.fz_lt {M:Mp}{h:AH}{w:World}(r:Rel M h w){b:Nat}{cs:Array Value}(e:M.z b=some cs):b < w.heap.size:=by
 obtain ⟨_,_,h1⟩:=r.fz b cs e
 exact heap_lt0 h1
theorem Rel.fz_none {M:Mp}{h:AH}{w:World}(r:Rel M h w){b:Nat}(e:w.heap.size<=b):M.z b=none:=by
 cases hz:M.z b with
 | none=>rfl
 | some cs=>have:=r.fz_lt hz;omega
theorem fz_kept {M:Mp}{h:AH}{w w':World}(r:Rel M h w)(k:∀ b,b < w.heap.size->M.z b ≠ none->w'.heap[b]?=w.heap[b]?):∀ b cs,M.z b=some cs->∃ e fr,w'.heap[b]?=some (.cells cs e fr):=λ b cs e=>by
 obtain ⟨t,fr,h1⟩:=r.fz b cs e
 exact ⟨t,fr,by rw [k b (heap_lt0 h1) (by rw [e];simp)];exact h1⟩
theorem heap_lt {w:World}{b:Nat}{o:Obj}(h:w.heap[b]?=some o):b < w.heap.size:=(Array.getElem?_eq_some_iff.1 h).1
theorem Rel.lt {M:Mp}{h:AH}{w:World}(r:Rel M h w){id b κ:Nat}(hg:h.get id ≠ none)(hM:M id=some (b,κ)):b < w.heap.size:=by
 cases hh:h.get id with
 | none=>exact absurd hh hg
 | some o=>
   rcases r.obj id o hh with ⟨_,hv⟩ | ⟨b',κ',ob,h1,h2,_⟩
   . rw [hM] at hv;cases hv
   rw [hM] at h1
   simp only [sI,Prod.mk.injEq] at h1
   rw [h1.1]
   exact heap_lt h2
theorem new_ok {M:Mp}{h h':AH}{w:World}{ao:AO}{ob:Obj}{κ:Nat}(r:Rel M h w)(hn:h.new ao=some h')(hM:M h.nx=none)(ho:ObR M κ ao ob):
 Rel (updM M h.nx (w.heap.size,κ)) h' (w.alloc ob)/\Fr h h' M (updM M h.nx (w.heap.size,κ)) w (w.alloc ob)/\Ab h h':=by
 have hle:Le M (updM M h.nx (w.heap.size,κ)):=Le_updM hM
 have hg:=AH.get_new hn
 obtain ⟨hnx,hbs,hwl⟩:=AH.new_nx hn
 have hsame:∀ b,b < w.heap.size->(w.alloc ob).heap[b]?=w.heap[b]?:=λ b hb=>by
  show (w.heap.push ob)[b]?=_
  simp [Array.getElem?_push];omega
 have hother:∀ id o,id ≠ h.nx->updM M h.nx (w.heap.size,κ) id=some o->M id=some o:=λ id o hne e=>by simpa [updM,hne] using e
 refine ⟨⟨λ id o e=>?_,λ i j b κ1 κ2 oi h0 hro h2 e1 e2=>?_,λ x hx=>?_,λ g c hg=>?_,λ x b κ' o hx hro hM'=>?_,fz_kept (M:=M) r (λ b hb _=>hsame b hb),λ i b κ' o e1 hro e2=>?_⟩,⟨rfl,rfl,rfl,by show _<=(w.heap.push ob).size;simp,hle,λ id e=>?_,λ k hk _=>hsame k hk,λ id b κ' o' e1 e2=>?_,λ _ _ e=>.inl e⟩,⟨by omega,hbs,λ x hx=>by rw [hwl];exact hx,λ x hx hy hn=>?_,λ x hx=>?_⟩⟩
 . rw [hg] at e
   split at e
   . rename_i hid
     simp only [sI] at e;subst e
     refine .inr ⟨w.heap.size,κ,ob,by simp [updM,hid],by show (w.heap.push ob)[w.heap.size]?=_;simp,ObR.mono hle _ _ ho⟩
   . rename_i hid
     rcases r.obj id o e with ⟨hv,h1⟩ | ⟨b,κ',ob',h1,h2,h3⟩
     . exact .inl ⟨hv,by simpa [updM,hid] using h1⟩
     . exact .inr ⟨b,κ',ob',hle _ _ h1,by rw [hsame b (heap_lt h2)];exact h2,ObR.mono hle _ _ h3⟩
 . have h1:h'.get i ≠ none:=by simp [h0]
   rw [hg] at h0 h1 h2
   by_cases hi:i=h.nx <;> by_cases hj:j=h.nx
   . omega
   . have e2':=hother j _ hj e2
     have hjg:h.get j ≠ none:=by simpa [hj] using h2
     have:=r.lt hjg e2'
     simp [updM,hi] at e1;omega
   . have e1':=hother i _ hi e1
     have hig:h.get i ≠ none:=by simpa [hi] using h1
     have:=r.lt hig e1'
     simp [updM,hj] at e2;omega
   . exact r.inj i j b κ1 κ2 oi (by simpa [hi] using h0) hro (by simpa [hj] using h2) (hother i _ hi e1) (hother j _ hj e2)
 . rw [hg] at hx
   by_cases hid:x=h.nx
   . omega
   . have:=r.wf x (by simpa [hid] using hx);omega
 . obtain ⟨vs,e,fr,h1,h2⟩:=r.gw g c hg
   exact ⟨vs,e,fr,by rw [hsame g (heap_lt h1)];exact h1,h2⟩
 . rw [hg] at hx
   by_cases hid:x=h.nx
   . simp [updM,hid] at hM'
     cases hgl:GL b with
     | none=>rfl
     | some c=>
       obtain ⟨vs,e,fr,h1,_⟩:=r.gw b c hgl
       have:=heap_lt h1;omega
   . exact r.gf x b κ' o (by simpa [hid] using hx) hro (hother x _ hid hM')
 . by_cases hid:i=h.nx
   . simp [updM,hid] at e2
     exact r.fz_none (by omega)
   . exact r.fo i b κ' o (by rw [hg] at e1;simpa [hid] using e1) hro (hother i _ hid e2)
 . by_cases hid:id=h.nx
   . omega
   . exact absurd (by simp [updM,hid]) e
 . by_cases hid:id=h.nx
   . left;simp [updM,hid] at e2;omega
   . right;exact ⟨id,κ',o',by rw [hg] at e1;simpa [hid] using e1,hother id _ hid e2,λ e=>e⟩
 . rw [hg]
   by_cases hid:x=h.nx
   . omega
   . simp [hid]
 . rw [hg] at hx
   by_cases hid:x=h.nx
   . right;omega
   . left;simpa [hid] using hx
structure Upd (w w':World)(b:Nat)(ob:Obj):Prop where
 os:w'.os=w.os
 tape:w'.tape=w.tape
 output:w'.output=w.output
 size:w'.heap.size=w.heap.size
 other:∀ k,k ≠ b->w'.heap[k]?=w.heap[k]?
 at_:w'.heap[b]?=some ob
theorem put_ok {M:Mp}{h h':AH}{w w':World}{id b κ:Nat}{old ao:AO}{ob:Obj}(r:Rel M h w)(hg:h.get id=some old)(hp:h.put id (some ao)=some h')
 (hM:M id=some (b,κ)) (u:Upd w w' b ob) (ho:ObR M κ ao ob) (hro:old.ro=false:=by rfl):Rel M h' w'/\Fr h h' M M w w'/\Ab h h':=by
 have hgp:=AH.get_put hp
 obtain ⟨hnx,hbs,hwl⟩:=AH.put_nx hp
 have hdom:∀ x,h'.get x ≠ none ↔ h.get x ≠ none:=λ x=>by
  rw [hgp];split
  . rename_i e;subst e;simp [hg]
  . exact Iff.rfl
 refine ⟨⟨λ x o e=>?_,λ i j c κ1 κ2 oi h1 hr h2=>by
  rw [hgp] at h1
  split at h1
  . rename_i hi;subst hi;exact r.inj i j c κ1 κ2 old hg hro ((hdom j).1 h2)
  . exact r.inj i j c κ1 κ2 oi h1 hr ((hdom j).1 h2),λ x hx=>by rw [hnx];exact r.wf x ((hdom x).1 hx),λ g c hgl=>by
  obtain ⟨vs,e,fr,h1,h2⟩:=r.gw g c hgl
  have hgb:g ≠ b:=λ e2=>by
   have:=r.gf id b κ old hg hro hM
   rw [<- e2,hgl] at this;cases this
  exact ⟨vs,e,fr,by rw [u.other g hgb];exact h1,h2⟩,λ x c κ' o e1 hr e2=>by
  rw [hgp] at e1
  split at e1
  . rename_i hi;subst hi;exact r.gf x c κ' old hg hro e2
  . exact r.gf x c κ' o e1 hr e2,fz_kept r (λ c hc hz=>u.other c (λ ec=>hz (by rw [ec];exact r.fo id b κ old hg hro hM))),λ x c κ' o e1 hr e2=>by
  rw [hgp] at e1
  split at e1
  . rename_i hi;subst hi;exact r.fo x c κ' old hg hro e2
  . exact r.fo x c κ' o e1 hr e2⟩,⟨u.os,u.tape,u.output,Nat.le_of_eq u.size.symm,Le.refl M,λ _ e=>absurd rfl e,λ k hk hn=>u.other k (λ e=>hn id κ old hg hro (by rw [e];exact hM)),λ x c κ' o' e1 e2=>by
  rw [hgp] at e1
  split at e1
  . rename_i hi;subst hi;exact .inr ⟨x,κ',old,hg,e2,λ _=>hro⟩
  . exact .inr ⟨x,κ',o',e1,e2,λ e=>e⟩,λ _ _ e=>.inl e⟩,⟨by omega,hbs,λ x hx=>?_,λ x hx _ hn=>?_,λ x hx=>.inl ((hdom x).1 hx)⟩⟩
 . rw [hgp] at e
   split at e
   . rename_i hid
     simp only [sI] at e;subst e
     exact .inr ⟨b,κ,ob,by rw [hid];exact hM,u.at_,ho⟩
   . rename_i hid
     rcases r.obj x o e with hv | ⟨c,κ',ob',h1,h2,h3⟩
     . exact .inl hv
     refine .inr ⟨c,κ',ob',h1,?_,h3⟩
     rw [u.other c (λ ec=>hid (r.inj id x b κ κ' old hg hro (by simp [e]) hM (by rw [<- ec];exact h1)).symm)]
     exact h2
 . rw [hwl]
   rw [nblt,Bool.cond_decide]
   split
   . cases hm:memN id h.wl <;> simp [hx]
   . exact hx
 . rw [hgp]
   split
   . rename_i e;subst e
     exfalso;apply hn
     rw [hwl,nblt,Bool.cond_decide,if_pos hx]
     cases hm:memN x h.wl
     . simp
     . simpa using memN_iff.1 hm
   . rfl
theorem del_ok {M:Mp}{h h':AH}{w:World}{id:Nat}(r:Rel M h w)(hp:h.put id none=some h'):Rel M h' w/\Fr h h' M M w w/\Ab h h':=by
 have hgp:=AH.get_put hp
 obtain ⟨hnx,hbs,hwl⟩:=AH.put_nx hp
 have hdom:∀ x,h'.get x ≠ none->h.get x ≠ none:=λ x=>by
  rw [hgp];split
  . intro e;exact absurd rfl e
  . exact λ e=>e
 refine ⟨⟨λ x o e=>?_,λ i j c κ1 κ2 oi h1 hr h2=>by
  rw [hgp] at h1
  split at h1
  . cases h1
  . exact r.inj i j c κ1 κ2 oi h1 hr (hdom j h2),λ x hx=>by rw [hnx];exact r.wf x (hdom x hx),r.gw,λ x c κ' o e1 hr e2=>by
  rw [hgp] at e1
  split at e1
  . cases e1
  . exact r.gf x c κ' o e1 hr e2,r.fz,λ x c κ' o e1 hr e2=>by
  rw [hgp] at e1
  split at e1
  . cases e1
  . exact r.fo x c κ' o e1 hr e2⟩,⟨rfl,rfl,rfl,Nat.le_refl _,Le.refl M,λ _ e=>absurd rfl e,λ _ _ _=>rfl,λ x c κ' o' e1 e2=>by
  rw [hgp] at e1
  split at e1
  . cases e1
  . exact .inr ⟨x,κ',o',e1,e2,λ e=>e⟩,λ _ _ e=>.inl e⟩,⟨by omega,hbs,λ x hx=>?_,λ x hx _ hn=>?_,λ x hx=>.inl (hdom x hx)⟩⟩
 . rw [hgp] at e
   split at e
   . cases e
   . exact r.obj x o e
 . rw [hwl]
   rw [nblt,Bool.cond_decide]
   split
   . cases hm:memN id h.wl <;> simp [hx]
   . exact hx
 . rw [hgp]
   split
   . rename_i e;subst e
     exfalso;apply hn
     rw [hwl,nblt,Bool.cond_decide,if_pos hx]
     cases hm:memN x h.wl
     . simp
     . simpa using memN_iff.1 hm
   . rfl
theorem Rel.same {M:Mp}{h:AH}{w w':World}(r:Rel M h w)(e:w'.heap=w.heap):Rel M h w':=
 ⟨λ id o g=>by rw [e];exact r.obj id o g,r.inj,r.wf,λ g c hg=>by rw [e];exact r.gw g c hg,r.gf,λ b cs hz=>by rw [e];exact r.fz b cs hz,r.fo⟩
theorem Fr.drew {h h':AH}{M M':Mp}{w w':World}(f:Fr h h' M M' w.drew w'):Fr h h' M M' w w':=
 ⟨f.os,f.tape,f.output,f.size,f.ext,f.only,f.keep,f.range,f.zx⟩
theorem upd_setRow {w:World}{g:Nat}{cur cs:Array Value}{t:TypeId}(hg:w.heap[g]?=some (.cells cur t (0,0))):Upd w (w.setRow g cs) g (.cells cs t (0,0)) where
 os:=rfl
 tape:=rfl
 output:=rfl
 size:=by simp [World.setRow]
 other:=λ k hk=>by
  simp only [World.setRow,Array.getElem?_modify]
  rw [if_neg (λ e=>hk e.symm)]
 at_:=setRow_heap w g cur cs t (0,0) hg
def RowR (M:Mp)(c:List AV)(ob:Obj):Prop:=∃ vs rest e fr,AV.RL M c vs/\ob=.cells (vs ++ rest).toArray e fr
theorem ObR.row {M:Mp}{κ:Nat}{c:List AV}{e:TypeId}{g:Option Nat}{ob:Obj}(h:ObR M κ (.cells c e g) ob):RowR M c ob:=by
 obtain ⟨vs,rest,r,rfl,_⟩:=h
 exact ⟨vs,rest,e,_,r,rfl⟩
theorem GW.row {M:Mp}{w:World}(h:GW w){g:Nat}{c:List AV}(hg:GL g=some c):∃ ob,w.heap[g]?=some ob/\RowR M c ob:=by
 obtain ⟨vs,e,fr,h1,h2⟩:=h g c hg
 exact ⟨_,h1,vs,[],e,fr,AV.RL.mono ⟨λ _ _ e=>(by cases e),λ _ _ e=>(by cases e)⟩ c vs h2,by simp⟩
theorem cell_ok {M:Mp}{w:World}{b off:Nat}{c:List AV}{ob:Obj}{a:AV}(hb:w.heap[b]?=some ob)(ho:RowR M c ob)
 (hn:nthA c off=some a):∃ v,w.cell? ⟨b,off,none⟩=some v/\a.R M v:=by
 obtain ⟨vs,rest,e,fr,r,rfl⟩:=ho
 obtain ⟨v,h1,h2⟩:=nthA_get hn r
 refine ⟨v,?_,h2⟩
 have hlt:off < vs.length:=(List.getElem?_eq_some_iff.1 h1).1
 simp [World.cell?,hb,List.getElem?_append_left hlt,h1]
theorem addr_add (b off n:Nat):(⟨b,off,none⟩:Addr).add n=⟨b,off + n,none⟩:=by
 unfold Addr.add;split <;> simp_all
theorem cells_ok {P:Program}{M:Mp}{w:World}{b off n:Nat}{c:List AV}{ob:Obj}{l:List AV}(hb:w.heap[b]?=some ob)(ho:RowR M c ob)
 (hn:sliceA c off n=some l):∃ vs,(∀ w':World,w'.heap=w.heap->(loadCells ⟨b,off,none⟩ n).run P w'=.ok vs.toArray w')/\AV.RL M l vs/\vs.length=n/\∀ j v,vs[j]?=some v->w.cell? (⟨b,off + j,none⟩)=some v:=by
 obtain ⟨vs,rest,e,fr,r,rfl⟩:=ho
 obtain ⟨h1,h2⟩:=sliceA_eq hn
 have hl:=RL_length r
 subst h1
 have key:∀ (w':World),w'.heap=w.heap->∀ j v,((vs.drop off).take n)[j]?=some v->w'.cell? (⟨b,off + j,none⟩)=some v:=λ w' hw j v hj=>by
  rw [List.getElem?_take] at hj
  split at hj
  . rw [List.getElem?_drop] at hj
    have hlt:off + j < vs.length:=(List.getElem?_eq_some_iff.1 hj).1
    simp [World.cell?,hw,hb,List.getElem?_append_left hlt,hj]
  . cases hj
 have hlen:((vs.drop off).take n).length=n:=by simp;omega
 refine ⟨(vs.drop off).take n,λ w' hw=>?_,RL_take n (RL_drop off r),hlen,key w rfl⟩
 have:=run_loadCells_list (P:=P) w' ⟨b,off,none⟩ ((vs.drop off).take n) (λ j v hj=>by rw [addr_add];exact key w' hw j v hj)
 rw [hlen] at this
 exact this
theorem splice_ok {P:Program}{M:Mp}{h h':AH}{w:World}{id off:Nat}{c c' x:List AV}{us:List Value}{e:TypeId}{g:Option Nat}(r:Rel M h w)(hg:h.get id=some (.cells c e g))
 (hs:spliceA c off x=some c') (hp:h.put id (some (.cells c' e g))=some h') (hx:AV.RL M x us) (h1:∀ v ∈ us,v.oneCell'=true) :
 ∃ b κ w',M id=some (b,κ)/\(storeCells ⟨b,off,none⟩ us).run P w=.ok () w'/\Rel M h' w'/\Fr h h' M M w w'/\Ab h h':=by
 rcases r.obj id _ hg with ⟨hv,_⟩ | ⟨b,κ,ob,hM,hb,vs,rest,rl,rfl,hgr⟩
 . exact absurd hv (by simp [AO.Vac])
 obtain ⟨r2,hle⟩:=RL_splice hs rl hx
 have hst:=run_storeCells_at P b off e us 0 (vs ++ rest).toArray w hb (by simp;omega) h1
 refine ⟨b,κ,_,hM,by simpa using hst,?_⟩
 refine put_ok r hg hp hM (upd_setRow hb) ⟨_,rest,r2,?_,?_⟩
 . have:=splice_rest (rest:=rest) hle
   rw [<- this,List.append_assoc]
 . cases g with
   | none=>exact hgr
   | some z=>
     simp only at hgr ⊢
     rw [<- hgr]
     simp;omega
section
variable {P : Program} {M : Mp}
theorem run_typeInfo' {t:TypeId}{i:TypeInfo}(h:P.info? t=some i)(w:World):(typeInfo t).run P w=.ok i w:=by simp [typeInfo,h]
theorem aggT_ok {t:TypeId}{b:Bool}(h:aggT P t=some b)(w:World):(isAgg t).run P w=.ok b w:=by
 unfold aggT at h
 cases hu:P.underlying t with
 | none=>simp [hu] at h
 | some d=>
   simp only [isAgg,Sem.run_bind,run_underlying hu,Result.andThen_ok]
   cases d <;> simp_all
theorem sizeT_ok {t:TypeId}{n:Nat}(h:sizeT P t=some n)(w:World):(sizeOf t).run P w=.ok n w:=by
 unfold sizeT at h
 split at h
 . rename_i i hi
   simp only [sI] at h;subst h
   simp [sizeOf,run_typeInfo' hi]
 . cases h
theorem zeroT_ok {t:TypeId}{a:AV}(h:zeroT P t=some a):∃ z,(∀ w,(zeroValue t).run P w=.ok z w)/\a.R M z/\∃ i,P.info? t=some i/\i.zero=some z:=by
 unfold zeroT at h
 split at h
 . rename_i i hi
   split at h
   . rename_i v hv
     simp only [sI] at h;subst h
     exact ⟨v,λ w=>by simp [zeroValue,run_typeInfo' hi,hv],ofV_R M 2 v,i,hi,hv⟩
   . cases h
 . cases h
theorem part_ok {t:TypeId}{cs:List AV}{vs:List Value}{off:Nat}{v:AV}(h:partA P t cs off=some v)(r:AV.RL M cs vs):
 ∃ u,(∀ w,(part t vs.toArray off).run P w=.ok u w)/\v.R M u:=by
 unfold partA at h
 split at h
 . rename_i ha
   split at h
   . rename_i n hn
     split at h
     . rename_i l hl
       simp only [sI] at h;subst h
       obtain ⟨h1,h2⟩:=sliceA_eq hl
       subst h1
       refine ⟨.agg (vs.toArray.extract off (off + n)),λ w=>by simp [part,aggT_ok ha,sizeT_ok hn],?_⟩
       simp only [AV.R]
       refine ⟨(vs.drop off).take n,RL_take n (RL_drop off r),?_⟩
       congr 1
       apply Array.ext'
       simp [List.take_drop]
     . cases h
   . cases h
 . rename_i ha
   obtain ⟨u,h1,h2⟩:=nthA_get h r
   exact ⟨u,λ w=>by simp [part,aggT_ok ha,h1],h2⟩
 . cases h
theorem load_ok {h:AH}{w:World}{t:TypeId}{a v:AV}{x:Value}(hl:loadA P h t a=some v)(ra:a.R M x)(r:Rel M h w):
 ∃ u,(∀ m:World,m.heap=w.heap->((asAddr x).run P m=(Instr.sureAddr x).run P m)/\(Instr.loadAt t x).run P m=.ok u m)/\v.R M u:=by
 unfold loadA at hl
 split at hl
 . rename_i id off
   simp only [AV.R] at ra
   obtain ⟨b,κ,hM,rfl⟩:=ra
   split at hl
   . rename_i c e g hg
     rcases r.obj id _ hg with ⟨hv,_⟩ | ⟨b',κ',ob,hM',hb,ho⟩
     . exact absurd hv (by simp [AO.Vac])
     rw [hM] at hM'
     simp only [sI,Prod.mk.injEq] at hM'
     obtain ⟨rfl,rfl⟩:=hM'
     split at hl
     . rename_i ha
       split at hl
       . rename_i n hn
         split at hl
         . rename_i l hs
           simp only [sI] at hl;subst hl
           obtain ⟨vs,h1,h2,h3,_⟩:=cells_ok (P:=P) hb ho.row hs
           refine ⟨.agg vs.toArray,λ m hm=>⟨rfl,?_⟩,?_⟩
           . simp [Instr.loadAt,Instr.sureAddr,loadVar,aggT_ok ha,sizeT_ok hn,h1 m hm]
           . simp only [AV.R];exact ⟨vs,h2,rfl⟩
         . cases hl
       . cases hl
     . rename_i ha
       obtain ⟨u,h1,h2⟩:=cell_ok hb ho.row hl
       refine ⟨u,λ m hm=>⟨rfl,?_⟩,h2⟩
       have:m.cell? ⟨b,off,none⟩=some u:=by rw [<- h1];simp [World.cell?,hm]
       simp [Instr.loadAt,Instr.sureAddr,loadVar,aggT_ok ha,this]
     . cases hl
   . cases hl
 . rename_i g off
   simp only [AV.R] at ra;subst ra
   split at hl
   . rename_i c hg
     obtain ⟨ob,hb,ho⟩:=r.gw.row (M:=M) hg
     split at hl
     . rename_i ha
       split at hl
       . rename_i n hn
         split at hl
         . rename_i l hs
           simp only [sI] at hl;subst hl
           obtain ⟨vs,h1,h2,h3,_⟩:=cells_ok (P:=P) hb ho hs
           refine ⟨.agg vs.toArray,λ m hm=>⟨rfl,?_⟩,?_⟩
           . simp [Instr.loadAt,Instr.sureAddr,loadVar,aggT_ok ha,sizeT_ok hn,h1 m hm]
           . simp only [AV.R];exact ⟨vs,h2,rfl⟩
         . cases hl
       . cases hl
     . rename_i ha
       obtain ⟨u,h1,h2⟩:=cell_ok hb ho hl
       refine ⟨u,λ m hm=>⟨rfl,?_⟩,h2⟩
       have:m.cell? ⟨g,off,none⟩=some u:=by rw [<- h1];simp [World.cell?,hm]
       simp [Instr.loadAt,Instr.sureAddr,loadVar,aggT_ok ha,this]
     . cases hl
   . cases hl
 . cases hl
theorem store_ok {h h':AH}{w:World}{t:TypeId}{a v:AV}{x y:Value}(hl:storeA P h t a v=some h')(ra:a.R M x)(rv:v.R M y)(r:Rel M h w):
 ∃ w',(Instr.storeAt t x y).run P w=.ok () w'/\Rel M h' w'/\Fr h h' M M w w'/\Ab h h':=by
 unfold storeA at hl
 split at hl
 . rename_i id off
   simp only [AV.R] at ra
   obtain ⟨b,κ,hM,rfl⟩:=ra
   split at hl
   . rename_i c e g hg
     split at hl
     . rename_i n hn
       simp only [nbeq,Bool.cond_decide] at hl
       split at hl
       . rename_i hlen
         cases hc:allCell (cellsA v) with
         | false=>rw [hc] at hl;cases hl
         | true=>
           rw [hc] at hl
           simp only [cond_true] at hl
           split at hl
           . rename_i c' hs
             have rl:=cellsA_R rv
             obtain ⟨b',κ',w',hM',hst,q⟩:=splice_ok (P:=P) r hg hs hl rl (allCell_one rl hc)
             rw [hM] at hM'
             simp only [sI,Prod.mk.injEq] at hM'
             obtain ⟨rfl,rfl⟩:=hM'
             refine ⟨w',?_,q⟩
             have hsz:y.cells.size=n:=by have:=RL_length rl;simp at this;omega
             simp [Instr.storeAt,Instr.sureAddr,storeVar,sizeT_ok hn,hsz,hst]
           . cases hl
       . cases hl
     . cases hl
   . cases hl
 . cases hl
theorem zipset (off:Nat):∀ (us:List Value) (k:Nat) (cells:Array Value),off + k + us.length<=cells.size →
 (us.zipIdx k).foldl (λ cs (p:Value × Nat)=>cs.setIfInBounds (off + p.2) p.1) cells=(cells.toList.take (off + k) ++ us ++ cells.toList.drop (off + k + us.length)).toArray
 | [],k,cells,_=>by simp
 | u :: us,k,cells,h=>by
   simp only [List.zipIdx_cons,List.foldl_cons]
   rw [zipset off us (k + 1) _ (by simp at h ⊢;omega)]
   have e:=list_seg_step cells.toList (off + k) u us (by simp at h ⊢;omega)
   congr 1
   simpa [Array.toList_setIfInBounds,Nat.add_assoc,Nat.add_comm us.length 1] using e
def PL (M:Mp):List (Nat × AV)->List (Nat × Value)->Prop
 | [],qs=>qs=[]
 | p :: ps,qs=>∃ v qs',p.2.R M v/\PL M ps qs'/\qs=(p.1,v) :: qs'
theorem fill_ok {place:Nat->Option (Nat × Nat)}:∀ {parts:List (Nat × AV)} {qs:List (Nat × Value)} {cells:List AV} {vs:List Value} {c:List AV},
 fillA place cells parts=some c->AV.RL M cells vs->PL M parts qs →
 ∃ us,Instr.fill place vs.toArray qs=some us.toArray/\AV.RL M c us
 | [],_,cells,vs,c,h,r,f=>by
   simp only [PL] at f;subst f
   simp only [fillA,sI] at h;subst h
   exact ⟨vs,rfl,r⟩
 | (i,v) :: rest,_,cells,vs,c,h,r,f=>by
   simp only [PL] at f
   obtain ⟨y,qs,rv,hf,rfl⟩:=f
   . simp only [fillA] at h
     split at h
     . cases h
     . rename_i off size hpl
       simp only [nbeq,Bool.cond_decide] at h
       split at h
       . rename_i hlen
         split at h
         . rename_i c1 hs
           have rl:=cellsA_R rv
           obtain ⟨r2,hle⟩:=RL_splice hs r rl
           obtain ⟨us,h1,h2⟩:=fill_ok h r2 hf
           refine ⟨us,?_,h2⟩
           have hl:=RL_length rl
           have hsz:y.cells.size=size:=by simp at hl;omega
           have hle':off + y.cells.size<=vs.length:=by simpa using hle
           have hno:¬ (vs.toArray.size < off + y.cells.size):=by simp;omega
           have hz:=zipset off y.cells.toList 0 vs.toArray (by simp;omega)
           have hz':y.cells.zipIdx.foldl (λ cs (p:Value × Nat)=>cs.setIfInBounds (off + p.2) p.1) vs.toArray=(vs.take off ++ y.cells.toList ++ vs.drop (off + y.cells.toList.length)).toArray:=by
            rw [<- Array.foldl_toList]
            simpa [Array.toList_zipIdx] using hz
           simp only [Instr.fill,hpl]
           rw [if_neg (by simp [hsz];omega)]
           rw [<- h1,<- hz']
         . cases h
       . cases h
theorem fieldsPl_ok {w:World}:∀ {fs:List Field} {pl:List (Nat × Nat)},fieldsPl P fs=some pl->(fs.mapM (λ (f:Field)=>do pure (f.offset,<- sizeOf f.type)):Sem (List (Nat × Nat))).run P w=.ok pl w
 | [],pl,h=>by simp only [fieldsPl,sI] at h;subst h;simp
 | f :: fs,pl,h=>by
   simp only [fieldsPl] at h
   split at h
   . rename_i n r hn hr
     simp only [sI] at h;subst h
     simp only [List.mapM_cons,Sem.run_bind,Sem.run_pure,sizeT_ok hn,Result.andThen_ok,fieldsPl_ok hr]
   . cases h
theorem nthP_eq:∀ (l:List (Nat × Nat)) (n:Nat),nthP l n=l[n]?
 | [],n=>by simp [nthP]
 | a :: l,0=>by simp [nthP]
 | a :: l,n + 1=>by simp [nthP,nthP_eq l n]
theorem build_ok {w:World}{t:TypeId}{parts:List (Nat × AV)}{qs:List (Nat × Value)}{v:AV}(h:buildA P t parts=some v)
 (f:PL M parts qs):∃ u,(Instr.build t qs.toArray).run P w=.ok u w/\v.R M u:=by
 unfold buildA at h
 split at h
 . rename_i z hz
   obtain ⟨y,hy,ry,_⟩:=zeroT_ok (M:=M) hz
   have rl:=cellsA_R ry
   split at h
   . rename_i fs hu
     split at h
     . rename_i pl hpl
       split at h
       . rename_i c hc
         simp only [sI] at h;subst h
         obtain ⟨us,h1,h2⟩:=fill_ok hc rl f
         refine ⟨.agg us.toArray,?_,by simp only [AV.R];exact ⟨us,h2,rfl⟩⟩
         have hm:=fieldsPl_ok (w:=w) hpl
         have hm':(fs.mapM (λ (f:Field)=>do pure (f.offset,<- sizeOf f.type)):Sem (Array (Nat × Nat))).run P w=.ok pl.toArray w:=by
          rw [Array.mapM_eq_mapM_toList,Sem.run_map,hm]
          rfl
         have hpl':nthP pl=λ x=>pl[x]?:=by funext i;simp [nthP_eq]
         rw [hpl',Array.toArray_toList] at h1
         simp only [Instr.build,Sem.run_bind,hy,Result.andThen_ok,run_underlying hu,hm']
         simp [h1]
       . cases h
     . cases h
   . rename_i n e hu
     split at h
     . rename_i n hn
       split at h
       . rename_i c hc
         simp only [sI] at h;subst h
         obtain ⟨us,h1,h2⟩:=fill_ok hc rl f
         refine ⟨.agg us.toArray,?_,by simp only [AV.R];exact ⟨us,h2,rfl⟩⟩
         rw [Array.toArray_toList] at h1
         simp only [Instr.build,Sem.run_bind,hy,Result.andThen_ok,run_underlying hu,sizeT_ok hn]
         simp [h1]
       . cases h
     . cases h
   . cases h
 . cases h
def repV:Nat->List Value->List Value
 | 0,_=>[]
 | n + 1,l=>l ++ repV n l
theorem RL_rep {l:List AV}{vs:List Value}(r:AV.RL M l vs):∀ n,AV.RL M (repA n l) (repV n vs)
 | 0=>by simp [repA,repV,AV.RL]
 | n + 1=>RL_append r (RL_rep r n)
theorem repV_len (l:List Value):∀ n,(repV n l).length=n * l.length
 | 0=>by simp [repV]
 | n + 1=>by simp [repV,repV_len l n,Nat.add_mul];omega
theorem repV_get (l:List Value)(d:Value):∀ n i,i < n * l.length->(repV n l)[i]?=some (l.getD (i % l.length) d)
 | 0,i,h=>by omega
 | n + 1,i,h=>by
   have hl:0 < l.length:=by
    rcases Nat.eq_zero_or_pos l.length with h0 | h0
    . rw [h0] at h;omega
    . exact h0
   simp only [repV]
   by_cases hi:i < l.length
   . rw [List.getElem?_append_left hi,Nat.mod_eq_of_lt hi]
     simp [List.getD,hi]
   . rw [List.getElem?_append_right (by omega),repV_get l d n (i - l.length) (by rw [Nat.add_mul] at h;omega)]
     rw [<- Nat.mod_eq_sub_mod (by omega)]
theorem rep_zero {z:Array Value}{n m:Nat}(hm:m=n * z.size):((Array.range m).map λ i=>z[i % z.size]!)=(repV n z.toList).toArray:=by
 subst hm
 apply Array.ext'
 apply List.ext_getElem?
 intro i
 by_cases hi:i < n * z.size
 . have h1:=repV_get z.toList default n i (by simpa using hi)
   have hz:0 < z.size:=by
    rcases Nat.eq_zero_or_pos z.size with h0 | h0
    . rw [h0] at hi;omega
    . exact h0
   have hmod:i % z.size < z.size:=Nat.mod_lt _ hz
   simp [h1,hi,hmod,List.getD,getElem!_pos]
 . have h1:(repV n z.toList)[i]?=none:=by
    apply List.getElem?_eq_none
    rw [repV_len];simpa using Nat.le_of_not_lt hi
   simp [h1,hi]
end
section
variable {P : Program} {M : Mp}
def Got (P:Program)(h h':AH)(M:Mp)(w:World)(v:AV)(s:Sem Value):Prop:=
 ∃ M' u w',s.run P w=.ok u w'/\v.R M' u/\Rel M' h' w'/\Fr h h' M M' w w'/\Ab h h'
theorem Got.pure {h:AH}{w:World}{v:AV}{s:Sem Value}{u:Value}(r:Rel M h w)(e:s.run P w=.ok u w)(rv:v.R M u):Got P h h M w v s:=
 ⟨M,u,w,e,rv,r,Fr.same h M w,Ab.refl h⟩
theorem newA_ok {h h':AH}{w:World}{ao:AO}{ob:Obj}{κ:Nat}{f:Nat->AV}{v:AV}(hn:newA h ao f=some (v,h'))(r:Rel M h w)(fr:Fresh M h h')(ho:ObR M κ ao ob):
 ∃ M',v=f h.nx/\M' h.nx=some (w.heap.size,κ)/\Rel M' h' (w.alloc ob)/\Fr h h' M M' w (w.alloc ob)/\Ab h h':=by
 unfold newA at hn
 split at hn
 . rename_i h2 hh
   simp only [sI,Prod.mk.injEq] at hn
   obtain ⟨rfl,rfl⟩:=hn
   have hnx:=(AH.new_nx hh).1
   have:=new_ok (κ:=κ) r hh (fr h.nx (Nat.le_refl _) (by omega)) ho
   exact ⟨_,rfl,by simp [updM],this⟩
 . cases hn
theorem newVar_run (t:TypeId)(v:Value)(w:World):(newVar t v).run P w=.ok ⟨w.heap.size,0,none⟩ (w.alloc (.cells v.cells t (0,0))):=by
 simp [newVar,newRow]
theorem ObR_cells {κ:Nat}{l:List AV}{t:TypeId}{cs:Array Value}(r:AV.RL M l cs.toList):ObR M κ (.cells l t none) (.cells cs t (0,0)):=
 ⟨cs.toList,[],r,by simp,rfl⟩
theorem box_ok {h h':AH}{w:World}{t:TypeId}{x v:AV}{y:Value}(hn:newA h (.cells (cellsA x) t none) (λ id=>.ptr id 0)=some (v,h'))(rx:x.R M y)(r:Rel M h w)(fr:Fresh M h h'):
 Got P h h' M w v (Instr.box t y):=by
 obtain ⟨M',rfl,hM,q⟩:=newA_ok (κ:=0) hn r fr (ObR_cells (cellsA_R rx))
 exact ⟨M',.pointer (some ⟨w.heap.size,0,none⟩),_,by simp [Instr.box,newVar_run],by simp only [AV.R];exact ⟨_,_,hM,rfl⟩,q⟩
theorem alloc_ok {h h':AH}{w:World}{t:TypeId}{z v:AV}(hz:zeroT P t=some z)(hn:newA h (.cells (cellsA z) t none) (λ id=>.ptr id 0)=some (v,h'))(r:Rel M h w)(fr:Fresh M h h'):
 Got P h h' M w v (Instr.alloc t true (.tuple #[])):=by
 obtain ⟨y,hy,ry,_⟩:=zeroT_ok (M:=M) hz
 obtain ⟨M',rfl,hM,q⟩:=newA_ok (κ:=0) hn r fr (ObR_cells (cellsA_R ry))
 exact ⟨M',.pointer (some ⟨w.heap.size,0,none⟩),_,by simp [Instr.alloc,hy,newVar_run],by simp only [AV.R];exact ⟨_,_,hM,rfl⟩,q⟩
theorem ObR_full {M:Mp}{c:List AV}{cs:Array Value}{e:TypeId}{z n:Nat}(h:AV.RL M c cs.toList):ObR M n (.cells c e (fullG z n c)) (.cells cs e (0,0)):=by
 refine ⟨cs.toList,[],h,by simp,?_⟩
 unfold fullG
 cases hc:(Nat.blt 1 z && Nat.beq c.length (n * z)) with
 | false=>rfl
 | true=>
   simp only [Bool.and_eq_true,nbeq,decide_eq_true_eq] at hc
   have:=RL_length h
   show (cs.toList ++ []).length=n * z
   rw [List.append_nil,this,hc.2]
theorem buildSlice_ok {h h':AH}{w:World}{t:TypeId}{n:Nat}{parts:List (Nat × AV)}{qs:List (Nat × Value)}{v:AV}(hb:buildSliceA P h t n parts=some (v,h'))(f:PL M parts qs)(r:Rel M h w)(fr:Fresh M h h'):
 Got P h h' M w v (Instr.buildSlice t n qs.toArray):=by
 unfold buildSliceA at hb
 split at hb
 . rename_i e hu
   split at hb
   . rename_i z hz
     simp only [nble,nbeq,Bool.cond_decide] at hb
     split at hb
     . rename_i hle
       split at hb
       . rename_i zs hzs
         split at hb
         . rename_i c hc
           have hno:¬ (16777216 < n * z):=by omega
           by_cases h0:n * z=0
           . simp only [h0,if_true,sI] at hzs;subst hzs
             obtain ⟨cs,h1,h2⟩:=fill_ok hc (show AV.RL M [] [] by simp [AV.RL]) f
             obtain ⟨M',rfl,hM,q⟩:=newA_ok (κ:=n) hb r fr (ObR_full (cs:=cs.toArray) (by simpa using h2))
             refine ⟨M',.slice (some ⟨w.heap.size,0,none⟩) n n,_,?_,by simp only [AV.R];exact ⟨_,_,hM,rfl⟩,q⟩
             have e0:∀ d:Value,Array.map (λ _:Nat=>d) (Array.range 0)=#[]:=λ _=>Array.eq_empty_of_size_eq_zero (by simp)
             simp [Instr.buildSlice,run_underlying hu,sizeT_ok hz,h0,e0,h1,newRow]
           . simp only [h0,if_false] at hzs
             split at hzs
             . rename_i za hza
               obtain ⟨y,hy,ry,_⟩:=zeroT_ok (M:=M) hza
               split at hzs
               . rename_i hl
                 simp only [sI] at hzs;subst hzs
                 have rl:=cellsA_R ry
                 have hlen:=RL_length rl
                 have hm:n * z=n * y.cells.size:=by simp at hlen;rw [hlen,hl]
                 obtain ⟨cs,h1,h2⟩:=fill_ok hc (RL_rep rl n) f
                 obtain ⟨M',rfl,hM,q⟩:=newA_ok (κ:=n) hb r fr (ObR_full (cs:=cs.toArray) (by simpa using h2))
                 refine ⟨M',.slice (some ⟨w.heap.size,0,none⟩) n n,_,?_,by simp only [AV.R];exact ⟨_,_,hM,rfl⟩,q⟩
                 have hrz:=rep_zero hm
                 simp only [Instr.buildSlice,Sem.run_bind,run_underlying hu,Result.andThen_ok,sizeT_ok hz]
                 rw [show (2:Nat) ^ 24=16777216 from rfl]
                 simp only [gt_iff_lt,hno,h0,if_false,Sem.run_bind,hy,Result.andThen_ok,Sem.run_pure,hrz]
                 simp [h1,newRow]
               . cases hzs
             . cases hzs
         . cases hb
       . cases hb
     . cases hb
   . cases hb
 . cases hb
theorem wrap_id (k:IntKind)(n:Int)(h1:-(negLim k:Int)<=n)(h2:n < (posLim k:Int)):k.wrap n=n:=by
 cases k <;> simp only [negLim,posLim] at h1 h2 <;> simp [IntKind.wrap,IntKind.signed,IntKind.bits] <;> omega
theorem wrapF_eq (k:IntKind)(n:Int):wrapF k n=k.wrap n:=by
 cases n with
 | ofNat a=>
   simp only [wrapF,nblt,Bool.cond_decide]
   split
   . rename_i hlt
     rw [wrap_id]
     . simp only [Int.ofNat_eq_natCast];omega
     . simp only [Int.ofNat_eq_natCast];omega
   . rfl
 | negSucc a=>
   simp only [wrapF,nblt,Bool.cond_decide]
   split
   . rename_i hlt
     rw [wrap_id]
     . simp only [Int.negSucc_eq];omega
     . simp only [Int.negSucc_eq];omega
   . rfl
theorem ltI_eq (a b:Int):ltI a b=decide (a < b):=by
 cases a <;> cases b <;> simp only [ltI,nblt,Int.ofNat_eq_natCast,Int.negSucc_eq] <;> first
  | (rw [Bool.eq_iff_iff];simp only [decide_eq_true_eq];omega)
  | (exact (decide_eq_true (by omega)).symm)
  | (exact (decide_eq_false (by omega)).symm)
theorem eqI_eq (a b:Int):eqI a b=(a == b):=by
 rw [Bool.eq_iff_iff,beq_iff_eq]
 cases a <;> cases b <;> simp [eqI,nbeq] <;> omega
theorem eqK_eq {a b:IntKind}(h:eqK a b=true):a=b:=by
 cases a <;> cases b <;> first | rfl | cases h
theorem eqS_eq:∀ (x y:List UInt8),eqS x y=(x == y)
 | [],[]=>rfl
 | [],_ :: _=>rfl
 | _ :: _,[]=>rfl
 | a :: x,b :: y=>by
   simp only [eqS,nbeq,Bool.cond_decide]
   by_cases h:a=b
   . subst h;simp [eqS_eq x y]
   . have:a.toNat ≠ b.toNat:=λ e=>h (UInt8.toNat_inj.1 e)
     simp [h,this]
theorem pureV_ok {s:Sem Value}{v:AV}(h:pureV s=some v):∃ u,(∀ w,s.run P w=.ok u w)/\v.R M u:=by
 unfold pureV at h
 split at h
 . simp only [sI] at h;subst h;exact ⟨_,λ _=>rfl,rfl⟩
 . simp only [sI] at h;subst h;exact ⟨_,λ _=>rfl,rfl⟩
 . cases h
theorem intBin_ok {op:BinOp}{k:IntKind}{a b:Int}{v:AV}{t:TypeId}(h:intBin op k a b=some v):∃ u,(∀ w,(binOp op t (.int k a) (.int k b)).run P w=.ok u w)/\v.R M u:=by
 unfold intBin at h
 cases op <;> simp only [sI,reduceCtorEq] at h <;> first
  | (subst h;simp only [wrapF_eq,ltI_eq,eqI_eq];first | exact ⟨.int k (k.wrap (a + b)),λ w=>by simp [binOp,Op.intArith],rfl⟩ | exact ⟨.int k (k.wrap (a - b)),λ w=>by simp [binOp,Op.intArith],rfl⟩ | exact ⟨.int k (k.wrap (a * b)),λ w=>by simp [binOp,Op.intArith],rfl⟩ | exact ⟨.bool _,λ w=>by simp [binOp,Op.intCmp];rfl,by simp only [AV.R,Value.bool.injEq];first | done | rfl | (rw [Bool.eq_iff_iff];simp;done)⟩)
  | (obtain ⟨u,h1,h2⟩:=pureV_ok (P:=P) (M:=M) h;exact ⟨u,λ w=>by rw [<- h1 w];simp [binOp],h2⟩)
theorem strBin_ok {op:BinOp}{x y:List UInt8}{v:AV}{t:TypeId}(h:strBin op x y=some v):∃ u,(∀ w,(binOp op t (.string ⟨x.toArray⟩) (.string ⟨y.toArray⟩)).run P w=.ok u w)/\v.R M u:=by
 have tl:∀ l:List UInt8,(⟨l.toArray⟩:ByteArray).toList=l:=λ l=>by rw [ByteArray.toList_eq]
 unfold strBin at h
 cases op <;> simp only [sI,reduceCtorEq] at h
 case add=>
  simp only [nble,Bool.cond_decide] at h
  split at h
  . rename_i hle
    simp only [sI] at h;subst h
    refine ⟨.string (⟨x.toArray⟩ ++ ⟨y.toArray⟩),λ w=>?_,?_⟩
    . have hno:¬ (IntKind.i64.max < ((x.length + y.length:Nat):Int)):=by
       rw [show IntKind.i64.max=9223372036854775807 from rfl];omega
      have hs:∀ l:List UInt8,(⟨l.toArray⟩:ByteArray).size=l.length:=λ l=>by simp [ByteArray.size]
      simp only [binOp,Op.stringOp,hs,gt_iff_lt,hno,if_false,Sem.run_pure]
    . simp only [AV.R]
      first | done | (congr 1;done) | (congr 1;apply ByteArray.ext;simp)
  . cases h
 all_goals
  subst h
  refine ⟨_,λ w=>by simp only [binOp,Op.stringOp,tl,Sem.run_pure];rfl,?_⟩
  simp only [AV.R,eqS_eq]
theorem Ob_of {h:AH}{w:World}{id b κ:Nat}{o:AO}(r:Rel M h w)(hg:h.get id=some o)(hM:M id=some (b,κ)):∃ ob,w.heap[b]?=some ob/\ObR M κ o ob:=by
 rcases r.obj id o hg with ⟨_,hv⟩ | ⟨b',κ',ob,h1,h2,h3⟩
 . rw [hM] at hv;cases hv
 rw [hM] at h1
 simp only [sI,Prod.mk.injEq] at h1
 obtain ⟨rfl,rfl⟩:=h1
 exact ⟨ob,h2,h3⟩
theorem nthF_eq:∀ (l:List Field) (n:Nat),nthF l n=l[n]?
 | [],n=>by simp [nthF]
 | a :: l,0=>by simp [nthF]
 | a :: l,n + 1=>by simp [nthF,nthF_eq l n]
theorem fieldAddr_ok {t:TypeId}{x v:AV}{y:Value}{f:Nat}(h:fieldAddrA P t x f=some v)(rx:x.R M y):∃ u,(∀ w,(Instr.fieldAt t y f).run P w=.ok u w)/\v.R M u:=by
 unfold fieldAddrA at h
 split at h
 . rename_i fs hu
   split at h
   . rename_i fd hf
     rw [nthF_eq,Array.getElem?_toList] at hf
     split at h
     . cases h
     . rename_i n hn hz
       split at h
       . rename_i id off
         simp only [sI] at h;subst h
         simp only [AV.R] at rx
         obtain ⟨b,c,hM,rfl⟩:=rx
         refine ⟨.pointer (some ⟨b,off + fd.offset,none⟩),λ w=>?_,by simp only [AV.R];exact ⟨b,c,hM,rfl⟩⟩
         have hn0:¬ (n=0):=λ e=>hn e
         simp [Instr.fieldAt,run_underlying hu,hf,Instr.sureAddr,fieldPlace,sizeT_ok hz,hn0,addr_add]
       . rename_i g off
         simp only [sI] at h;subst h
         simp only [AV.R] at rx;subst rx
         refine ⟨.pointer (some ⟨g,off + fd.offset,none⟩),λ w=>?_,rfl⟩
         have hn0:¬ (n=0):=λ e=>hn e
         simp [Instr.fieldAt,run_underlying hu,hf,Instr.sureAddr,fieldPlace,sizeT_ok hz,hn0,addr_add]
       . cases h
     . cases h
   . cases h
 . cases h
theorem field_ok {t:TypeId}{x v:AV}{y:Value}{f:Nat}(h:fieldA P t x f=some v)(rx:x.R M y):∃ u,(∀ w,(Instr.field t y f).run P w=.ok u w)/\v.R M u:=by
 unfold fieldA at h
 split at h
 . rename_i fs cs hu
   split at h
   . rename_i fd hf
     rw [nthF_eq,Array.getElem?_toList] at hf
     simp only [AV.R] at rx
     obtain ⟨vs,r,rfl⟩:=rx
     obtain ⟨u,h1,h2⟩:=part_ok h r
     exact ⟨u,λ w=>by simp [Instr.field,run_underlying hu,hf,asAgg,h1],h2⟩
   . cases h
 . cases h
theorem indexAddr_ok {t:TypeId}{x ix v:AV}{y iy:Value}(h:indexAddrA P t x ix=some v)(rx:x.R M y)(ri:ix.R M iy):∃ u,(∀ w,(Instr.indexAt t y iy).run P w=.ok u w)/\v.R M u:=by
 unfold indexAddrA at h
 split at h
 . rename_i k n
   simp only [AV.R] at ri;subst ri
   split at h
   . rename_i e id off len cap u hu
     simp only [nblt,Bool.cond_decide] at h
     split at h
     . rename_i hlt
       split at h
       . rename_i z hz
         simp only [sI] at h;subst h
         simp only [AV.R] at rx
         obtain ⟨b,c,hM,rfl⟩:=rx
         refine ⟨.pointer (some ⟨b,off + n * z,none⟩),λ w=>?_,by simp only [AV.R];exact ⟨b,c,hM,rfl⟩⟩
         simp [Instr.indexAt,asIntOf,run_underlying hu,hlt,sizeT_ok hz,addr_add]
       . cases h
     . cases h
   . rename_i len e id off hu
     simp only [nblt,Bool.cond_decide] at h
     split at h
     . rename_i hlt
       split at h
       . rename_i z hz
         simp only [sI] at h;subst h
         simp only [AV.R] at rx
         obtain ⟨b,c,hM,rfl⟩:=rx
         refine ⟨.pointer (some ⟨b,off + n * z,none⟩),λ w=>?_,by simp only [AV.R];exact ⟨b,c,hM,rfl⟩⟩
         simp [Instr.indexAt,asIntOf,run_underlying hu,hlt,sizeT_ok hz,addr_add,Instr.sureAddr]
       . cases h
     . cases h
   . rename_i len e g off hu
     simp only [nblt,Bool.cond_decide] at h
     split at h
     . rename_i hlt
       split at h
       . rename_i z hz
         simp only [sI] at h;subst h
         simp only [AV.R] at rx;subst rx
         refine ⟨.pointer (some ⟨g,off + n * z,none⟩),λ w=>?_,rfl⟩
         simp [Instr.indexAt,asIntOf,run_underlying hu,hlt,sizeT_ok hz,addr_add,Instr.sureAddr]
       . cases h
     . cases h
   . cases h
 . cases h
theorem index_ok {t:TypeId}{x ix v:AV}{y iy:Value}(h:indexA P t x ix=some v)(rx:x.R M y)(ri:ix.R M iy):∃ u,(∀ w,(Instr.index t y iy).run P w=.ok u w)/\v.R M u:=by
 unfold indexA at h
 split at h
 . rename_i k n
   simp only [AV.R] at ri;subst ri
   split at h
   . rename_i len e cs hu
     simp only [nblt,Bool.cond_decide] at h
     split at h
     . rename_i hlt
       split at h
       . rename_i z hz
         simp only [AV.R] at rx
         obtain ⟨vs,r,rfl⟩:=rx
         obtain ⟨u,h1,h2⟩:=part_ok h r
         exact ⟨u,λ w=>by simp [Instr.index,asIntOf,run_underlying hu,hlt,sizeT_ok hz,h1],h2⟩
       . cases h
     . cases h
   . rename_i l hu
     split at h
     . rename_i c hc
       simp only [sI] at h;subst h
       simp only [AV.R] at rx;subst rx
       refine ⟨.int .u8 c.toNat,λ w=>?_,rfl⟩
       have hlt:n < l.length:=(List.getElem?_eq_some_iff.1 hc).1
       have hc2:(⟨l.toArray⟩:ByteArray)[n]?=some c:=by
        have hsz:n < (⟨l.toArray⟩:ByteArray).size:=by simpa [ByteArray.size] using hlt
        rw [getElem?_pos (⟨l.toArray⟩:ByteArray) n hsz]
        have:=(List.getElem?_eq_some_iff.1 hc).2
        simp only [sI]
        rw [<- this];rfl
       simp [Instr.index,asIntOf,run_underlying hu,hc2]
     . cases h
   . cases h
 . cases h
end
section
variable {P : Program} {M : Mp}
def OR (M:Mp):Option AV->Option Value->Prop
 | none,v=>v=none
 | some a,v=>∃ u,a.R M u/\v=some u
theorem boundA_ok {d a:Nat}{lo:Option AV}{lv:Option Value}(h:boundA d lo=some a)(r:OR M lo lv):(lv=none/\a=d) ∨ ∃ k,lv=some (.int k a):=by
 unfold boundA at h
 split at h
 . simp only [OR] at r
   simp only [sI] at h
   exact .inl ⟨r,h.symm⟩
 . rename_i k n
   simp only [OR,AV.R] at r
   obtain ⟨u,rfl,rfl⟩:=r
   simp only [sI] at h;subst h
   exact .inr ⟨k,rfl⟩
 . cases h
theorem sliceBound_run {k:IntKind}{n y:Nat}{code:BoundsCode}(h:n<=y)(w:World):(Instr.sliceBound (.int k n) y code).run P w=.ok n w:=by
 simp [Instr.sliceBound,asIntOf,h]
theorem bounds_run {isS:Bool}{len cap a b m:Nat}{lo hi mx:Option AV}{lv hv mv:Option Value}(h1:boundA 0 lo=some a)(h2:boundA len hi=some b)(h3:boundA cap mx=some m)
 (r1:OR M lo lv) (r2:OR M hi hv) (r3:OR M mx mv) (hab:a<=b) (hbm:b<=m) (hmc:m<=cap) (hmx:mx.isSome=true->hi.isSome=true) (w:World) :
 (Instr.sliceBounds isS len cap lv hv mv).run P w=.ok (a,b,m) w:=by
 have hmv:hv=none->mv=none:=λ e=>by
  cases mx with
  | none=>simpa [OR] using r3
  | some x=>
    have:=hmx rfl
    cases hi with
    | none=>cases this
    | some y=>simp only [OR] at r2;obtain ⟨_,_,h⟩:=r2;rw [e] at h;cases h
 rcases boundA_ok h1 r1 with ⟨rfl,rfl⟩ | ⟨k1,rfl⟩ <;> rcases boundA_ok h2 r2 with ⟨rfl,rfl⟩ | ⟨k2,rfl⟩ <;> rcases boundA_ok h3 r3 with ⟨rfl,rfl⟩ | ⟨k3,rfl⟩
 all_goals first
  | (cases hmv rfl;done)
  | (simp [Instr.sliceBounds,sliceBound_run hab,sliceBound_run hbm,sliceBound_run hmc];done)
theorem slice_ok {h:AH}{w:World}{t:TypeId}{x v:AV}{y:Value}{lo hi mx:Option AV}{lv hv mv:Option Value}(hs:sliceOpA P h t x lo hi mx=some v)(rx:x.R M y)(r1:OR M lo lv)(r2:OR M hi hv)(r3:OR M mx mv)(r:Rel M h w):
 ∃ u,(∀ m:World,(Instr.sliceAt t y lv hv mv).run P m=.ok u m)/\v.R M u:=by
 unfold sliceOpA at hs
 split at hs
 . cases hs
 rename_i hmh
 have hmx:mx.isSome=true->hi.isSome=true:=λ e=>by
  cases mx with
  | none=>cases e
  | some z=>cases hi with
    | none=>exact absurd rfl (hmh z rfl)
    | some _=>rfl
 clear hmh
 split at hs
 . -- a string
   rename_i l hu
   split at hs
   . rename_i a b h1 h2
     simp only [nble,Bool.cond_decide,<- Bool.decide_and] at hs
     split at hs
     . rename_i hle
       simp only [sI] at hs;subst hs
       simp only [AV.R] at rx;subst rx
       have hsz:(⟨l.toArray⟩:ByteArray).size=l.length:=by simp [ByteArray.size]
       have hb:=λ m:World=>bounds_run (P:=P) (isS:=false) (cap:=l.length) (mx:=none) h1 h2 (by rfl) r1 r2 r3 hle.1 hle.2 (Nat.le_refl _) (λ e=>by cases e) m
       simp only [OR] at r3;subst r3
       refine ⟨.string ((⟨l.toArray⟩:ByteArray).extract a b),λ m=>?_,?_⟩
       . simp [Instr.sliceAt,run_underlying hu,Instr.slice,hsz,hb]
       . simp only [AV.R]
         congr 1
         apply ByteArray.ext
         simp [ByteArray.data_extract]
         try (rw [List.take_drop];congr 1;omega)
     . cases hs
   . cases hs
 . -- nil
   rename_i e hu
   split at hs
   . rename_i z hz h1 h2 h3
     simp only [sI] at hs;subst hs
     simp only [AV.R] at rx;subst rx
     have hb:=λ m:World=>bounds_run (P:=P) (isS:=true) h1 h2 h3 r1 r2 r3 (Nat.le_refl _) (Nat.le_refl _) (Nat.le_refl _) hmx m
     exact ⟨.slice none 0 0,λ w=>by simp [Instr.sliceAt,run_underlying hu,Instr.slice,hb,sizeT_ok hz],rfl⟩
   . cases hs
 . -- a slice whose capacity is known
   rename_i e id off len cap hu
   split at hs
   . rename_i z a b m hz h1 h2 h3
     simp only [nble,nbeq,Bool.cond_decide,<- Bool.decide_and] at hs
     split at hs
     . rename_i hle
       simp only [AV.R] at rx
       obtain ⟨bb,κ,hM,rfl⟩:=rx
       have hb:=λ w:World=>bounds_run (P:=P) (isS:=true) h1 h2 h3 r1 r2 r3 hle.1.1 hle.1.2 hle.2 hmx w
       split at hs
       . rename_i hma
         simp only [sI] at hs;subst hs
         refine ⟨.slice (some ⟨bb,off,none⟩) (b - a) 0,λ w=>?_,by simp only [AV.R];exact ⟨bb,κ,hM,rfl⟩⟩
         simp [Instr.sliceAt,run_underlying hu,Instr.slice,hb,sizeT_ok hz,hma]
       . rename_i hma
         simp only [sI] at hs;subst hs
         refine ⟨.slice (some ⟨bb,off + a * z,none⟩) (b - a) (m - a),λ w=>?_,by simp only [AV.R];exact ⟨bb,κ,hM,rfl⟩⟩
         simp [Instr.sliceAt,run_underlying hu,Instr.slice,hb,sizeT_ok hz,hma,addr_add]
     . cases hs
   . cases hs
 . -- a slice whose capacity is not
   rename_i e id off len cap hu
   simp only [AV.R] at rx
   obtain ⟨bb,κ,hM,rfl⟩:=rx
   split at hs
   . rename_i z a b hz h1 h2
     split at hs
     . split at hs
       . rename_i c e' z' hg
         obtain ⟨ob,hob,vs,rest,rl,rfl,hlen⟩:=Ob_of r hg hM
         simp only at hlen
         simp only [nble,nbeq,nblt,Bool.cond_decide,<- Bool.decide_and] at hs
         split at hs
         . rename_i hle
           obtain ⟨⟨⟨hz0,rfl⟩,hab⟩,hcb⟩:=hle
           have hcl:=RL_length rl
           have hκ:c.length<=κ * z:=by rw [<- hlen,<- hcl];simp
           have hbκ:cap + b<=κ:=Nat.le_of_mul_le_mul_right (Nat.le_trans hcb hκ) hz0
           have hb:=λ w:World=>bounds_run (P:=P) (isS:=true) (cap:=κ - cap) (mx:=none) h1 h2 (by rfl) r1 r2 r3 hab (by omega) (Nat.le_refl _) hmx w
           split at hs
           . rename_i hlt
             have hak:cap + a < κ:=Nat.lt_of_mul_lt_mul_right (Nat.lt_of_lt_of_le hlt hκ)
             simp only [sI] at hs;subst hs
             refine ⟨.slice (some ⟨bb,off + a * z,none⟩) (b - a) (κ - cap - a),λ w=>?_,by simp only [AV.R];exact ⟨bb,κ,hM,by simp;omega⟩⟩
             have hne:¬ (κ - cap=a):=by omega
             simp [Instr.sliceAt,run_underlying hu,Instr.slice,hb,sizeT_ok hz,hne,addr_add]
           . rename_i hlt
             have hba:b=a:=by
              have h3:(cap + b) * z<=(cap + a) * z:=by omega
              have:=Nat.le_of_mul_le_mul_right h3 hz0
              omega
             simp only [sI] at hs;subst hs
             by_cases hne:κ - cap=a
             . refine ⟨.slice (some ⟨bb,off,none⟩) (b - a) (κ - cap - a),λ w=>?_,by simp only [AV.R];exact ⟨⟨bb,off,none⟩,κ - cap - a,by rw [hba];simp⟩⟩
               rw [hne] at hb
               simp [Instr.sliceAt,run_underlying hu,Instr.slice,hb,sizeT_ok hz,hne]
             . refine ⟨.slice (some ⟨bb,off + a * z,none⟩) (b - a) (κ - cap - a),λ w=>?_,by simp only [AV.R];exact ⟨⟨bb,off + a * z,none⟩,κ - cap - a,by rw [hba];simp⟩⟩
               simp [Instr.sliceAt,run_underlying hu,Instr.slice,hb,sizeT_ok hz,hne,addr_add]
         . cases hs
       . cases hs
     . rename_i mk m
       split at hs
       . rename_i c e' z' hg
         obtain ⟨ob,hob,vs,rest,rl,rfl,hlen⟩:=Ob_of r hg hM
         simp only at hlen
         simp only [nble,nbeq,nblt,Bool.cond_decide,<- Bool.decide_and] at hs
         split at hs
         . rename_i hle
           obtain ⟨⟨⟨⟨hz0,rfl⟩,hab⟩,hbm⟩,hcb⟩:=hle
           have hcl:=RL_length rl
           have hκ:c.length<=κ * z:=by rw [<- hlen,<- hcl];simp
           have hbκ:cap + m<=κ:=Nat.le_of_mul_le_mul_right (Nat.le_trans hcb hκ) hz0
           have hb:=λ w:World=>bounds_run (P:=P) (isS:=true) (cap:=κ - cap) h1 h2 (by rfl) r1 r2 r3 hab hbm (by omega) hmx w
           split at hs
           . rename_i hma
             simp only [sI] at hs;subst hs
             refine ⟨.slice (some ⟨bb,off,none⟩) (b - a) 0,λ w=>?_,by simp only [AV.R];exact ⟨bb,κ,hM,rfl⟩⟩
             simp [Instr.sliceAt,run_underlying hu,Instr.slice,hb,sizeT_ok hz,hma]
           . rename_i hma
             simp only [sI] at hs;subst hs
             refine ⟨.slice (some ⟨bb,off + a * z,none⟩) (b - a) (m - a),λ w=>?_,by simp only [AV.R];exact ⟨bb,κ,hM,rfl⟩⟩
             simp [Instr.sliceAt,run_underlying hu,Instr.slice,hb,sizeT_ok hz,hma,addr_add]
         . cases hs
       . cases hs
     . cases hs
   . cases hs
 . -- an array behind its address
   rename_i n e id off hu
   split at hs
   . rename_i z a b m hz h1 h2 h3
     simp only [nble,nbeq,Bool.cond_decide,<- Bool.decide_and] at hs
     split at hs
     . rename_i hle
       simp only [AV.R] at rx
       obtain ⟨bb,κ,hM,rfl⟩:=rx
       have hb:=λ w:World=>bounds_run (P:=P) (isS:=false) h1 h2 h3 r1 r2 r3 hle.1.1 hle.1.2 hle.2 hmx w
       split at hs
       . rename_i hma
         simp only [sI] at hs;subst hs
         refine ⟨.slice (some ⟨bb,off,none⟩) (b - a) 0,λ w=>?_,by simp only [AV.R];exact ⟨bb,κ,hM,rfl⟩⟩
         simp [Instr.sliceAt,run_underlying hu,Instr.sureAddr,hb,sizeT_ok hz,hma]
       . rename_i hma
         simp only [sI] at hs;subst hs
         refine ⟨.slice (some ⟨bb,off + a * z,none⟩) (b - a) (m - a),λ w=>?_,by simp only [AV.R];exact ⟨bb,κ,hM,rfl⟩⟩
         simp [Instr.sliceAt,run_underlying hu,Instr.sureAddr,hb,sizeT_ok hz,hma,addr_add]
     . cases hs
   . cases hs
 . cases hs
end
section
variable {P : Program} {M : Mp}
theorem R_agg {l:List AV}{v:Value}(h:(AV.agg l).R M v):∃ vs,AV.RL M l vs/\v=.agg vs.toArray:=by simpa only [AV.R] using h
set_option maxHeartbeats 2000000 in
theorem eqA_ok:∀ (d D:Nat) (t:TypeId) (x y:AV) (b:Bool) (u v:Value),d<=D->eqA P d t x y=some b->x.R M u->y.R M v->∀ w,(Op.equalIn D t u v).run P w=.ok b w:=by
 intro d
 induction d with
 | zero=>intro D t x y b u v _ h;simp [eqA] at h
 | succ d ih=>
   intro D t x y b u v hD h rx ry w
   obtain ⟨D,rfl⟩:∃ D',D=D' + 1:=⟨D - 1,by omega⟩
   simp only [eqA] at h
   split at h
   all_goals try (simp only [sI] at h)
   case h_20=>
    rename_i tx vx ty vy hu
    simp only [AV.R] at rx ry
    obtain ⟨u',rx',rfl⟩:=rx
    obtain ⟨v',ry',rfl⟩:=ry
    simp only [nbeq] at h
    by_cases ht:tx=ty
    . subst ht
      simp only [decide_true,cond_true] at h
      split at h
      . rename_i i hi
        cases hc:i.comparable with
        | false=>rw [hc] at h;cases h
        | true=>
          rw [hc,cond_true] at h
          simp only [Op.equalIn,Sem.run_bind,run_underlying hu,Result.andThen_ok]
          simp [typeInfo,hi,hc,ih D tx vx vy b u' v' (by omega) h rx' ry' w]
      . cases h
    . simp only [ht,decide_false,cond_false,sI] at h;subst h
      simp only [Op.equalIn,Sem.run_bind,run_underlying hu,Result.andThen_ok]
      simp [ht]
   case h_21=>
    rename_i fs xs ys hu
    obtain ⟨us,r1,rfl⟩:=R_agg rx
    obtain ⟨vs,r2,rfl⟩:=R_agg ry
    cases hp:P.stoodInHeld t with
    | true=>simp [hp] at h
    | false=>
      rw [hp,cond_false] at h
      have hf:P.fieldsOf t=fs:=by simp [Program.fieldsOf,hu]
      rw [run_equalIn_struct w D t us.toArray vs.toArray (by rw [hf];exact hu) hp,hf]
      generalize fs.toList=l at h ⊢
      induction l generalizing w with
      | nil=>simp only [List.foldr_nil,sI] at h;subst h;simp [Op.eqFields]
      | cons f l ihl=>
        simp only [List.foldr_cons] at h
        simp only [Op.eqFields]
        by_cases hn : f.name = "_"
        . simp only [hn,beq_self_eq_true,cond_true] at h
          simp only [hn,ne_eq,not_true_eq_false,if_false]
          exact ihl w h
        · have hb : (f.name == "_") = false := by simp [hn]
          rw [hb,cond_false] at h
          simp only [ne_eq,hn,not_false_eq_true,if_true,Sem.run_bind]
          split at h
          . rename_i pa pb ha hb'
            obtain ⟨ua,e1,q1⟩:=part_ok ha r1
            obtain ⟨ub,e2,q2⟩:=part_ok hb' r2
            rw [e1 w,Result.andThen_ok,e2 w,Result.andThen_ok]
            split at h
            . rename_i he
              rw [ih D f.type pa pb true ua ub (by omega) he q1 q2 w,Result.andThen_ok]
              simp only [Bool.not_true,Bool.false_eq_true,if_false]
              exact ihl w h
            . rename_i he
              rw [ih D f.type pa pb false ua ub (by omega) he q1 q2 w,Result.andThen_ok]
              simp only [sI] at h;subst h
              simp
            . cases h
          . cases h
   case h_22=>cases h
   case h_2=>
    rename_i k a k' b' hu
    simp only [AV.R] at rx ry;subst rx ry
    cases hk:eqK k k' with
    | false=>rw [hk] at h;cases h
    | true=>
      rw [hk,cond_true,sI] at h;subst h
      rw [eqK_eq hk,run_equalIn_int w D t k' _ _ _ hu,eqI_eq]
   case h_1=>simp only [AV.R] at rx ry;subst rx ry;subst h;rename_i hu;exact run_equalIn_bool' w D t _ _ hu
   case h_3=>simp only [AV.R] at rx ry;subst rx ry;subst h;rename_i hu;rw [run_equalIn_string w D t _ _ hu,ByteArray.toList_eq,ByteArray.toList_eq,eqS_eq]
   all_goals (rename_i hu;simp only [AV.R] at rx ry;subst h)
   all_goals try subst rx
   all_goals try subst ry
   all_goals try (obtain ⟨_,_,_,rfl⟩:=rx)
   all_goals try (obtain ⟨_,_,_,rfl⟩:=ry)
   all_goals try (obtain ⟨_,_,rfl⟩:=rx)
   all_goals try (obtain ⟨_,_,rfl⟩:=ry)
   all_goals (simp only [Op.equalIn,Sem.run_bind,run_underlying hu,Result.andThen_ok];rfl)
theorem eq_bin {t:TypeId}{x y:AV}{u v:Value}{op:BinOp}{r:AV}(h:(match op with | .eql=>(eqA P 64 t x y).map AV.b | .neq=>(eqA P 64 t x y).map λ r=>AV.b !r | _=>none)=some r)(rx:x.R M u)(ry:y.R M v)
 (he:∀ w,(binOp .eql t u v).run P w=((Op.equal t u v).run P w).andThen λ b w=>.ok (.bool b) w) (hn:∀ w,(binOp .neq t u v).run P w=((Op.equal t u v).run P w).andThen λ b w=>.ok (.bool !b) w) :
 (op=.eql ∨ op=.neq)/\∃ z,(∀ w,(binOp op t u v).run P w=.ok z w)/\r.R M z:=by
 cases op <;> simp only [Option.map_eq_some_iff,reduceCtorEq] at h
 . obtain ⟨b,hb,rfl⟩:=h
   exact ⟨.inl rfl,.bool b,λ w=>by rw [he,Op.equal,eqA_ok 64 Op.maxDepth t x y b u v (by decide) hb rx ry w];rfl,rfl⟩
 . obtain ⟨b,hb,rfl⟩:=h
   exact ⟨.inr rfl,.bool !b,λ w=>by rw [hn,Op.equal,eqA_ok 64 Op.maxDepth t x y b u v (by decide) hb rx ry w];rfl,rfl⟩
theorem guard_none {op:BinOp}{t:TypeId}{X Y:Operand}{u v:Value}(h1:¬ (u=.nilIface/\v=.nilIface))(h2:∀ a b,¬ (u=.agg a/\v=.agg b))(w:World):(eqGuard op t X Y u v).run P w=.ok () w:=by
 unfold eqGuard
 cases op <;> simp
 all_goals
  split
  . exact absurd ⟨rfl,rfl⟩ h1
  . exact absurd ⟨rfl,rfl⟩ (h2 _ _)
  . rfl
theorem eqA_ni (d:Nat)(t:TypeId)(y:AV)(hy:∀ s z,y ≠ .ifc s z):eqA P (d + 1) t .ni y=none:=by
 cases y <;> first
  | (exact absurd rfl (hy _ _))
  | (simp only [eqA];split <;> first | rfl | (simp_all;done))
theorem run_nilnil {t:TypeId}{ms:Array (String × TypeId)}(hu:P.underlying t=some (.interface ms))(D:Nat)(w:World):(Op.equalIn (D + 1) t .nilIface .nilIface).run P w=.ok true w:=by
 simp only [Op.equalIn,Sem.run_bind,run_underlying hu,Result.andThen_ok];rfl
theorem bin_ok {op:BinOp}{t:TypeId}{x y v:AV}{X Y:Operand}{a b:Value}(h:binA P op t (litO X Y) x y=some v)(rx:x.R M a)(ry:y.R M b):
 ∃ u,(∀ w,(eqGuard op t X Y a b >>= λ _=>binOp op t a b).run P w=.ok u w)/\v.R M u:=by
 unfold binA at h
 split at h
 . simp only [AV.R] at rx ry;subst rx ry
   cases hl:litO X Y with
   | false=>rw [hl] at h;cases h
   | true=>
     rw [hl,cond_true] at h
     split at h
     . rename_i ms hu
       have hg:∀ w,(eqGuard op t X Y .nilIface .nilIface).run P w=.ok () w:=λ w=>by
        unfold eqGuard
        cases X <;> cases Y <;> first
         | exact absurd hl Bool.false_ne_true
         | (cases op <;> simp)
       have he:∀ w,(Op.equal t .nilIface .nilIface).run P w=.ok true w:=λ w=>by
        exact run_nilnil hu 9999 w
       cases op <;> simp only [sI,reduceCtorEq] at h
       . subst h;exact ⟨.bool true,λ w=>by simp [hg,binOp,he],rfl⟩
       . subst h;exact ⟨.bool false,λ w=>by simp [hg,binOp,he],rfl⟩
     . cases h
 . rename_i k n k' m
   simp only [AV.R] at rx ry;subst rx ry
   have hg:=λ w=>guard_none (P:=P) (op:=op) (t:=t) (X:=X) (Y:=Y) (u:=.int k n) (v:=.int k' m) (by simp) (by simp) w
   have key:∃ u,(∀ w,(binOp op t (.int k n) (.int k' m)).run P w=.ok u w)/\v.R M u:=by
    split at h
    . obtain ⟨u,h1,h2⟩:=pureV_ok (P:=P) (M:=M) h
      exact ⟨u,λ w=>by rw [<- h1 w];simp [binOp],h2⟩
    . obtain ⟨u,h1,h2⟩:=pureV_ok (P:=P) (M:=M) h
      exact ⟨u,λ w=>by rw [<- h1 w];simp [binOp],h2⟩
    . cases hk:eqK k k' with
      | false=>rw [hk] at h;cases h
      | true=>
        rw [hk,cond_true] at h
        obtain rfl:=eqK_eq hk
        exact intBin_ok h
   obtain ⟨u,h1,h2⟩:=key
   exact ⟨u,λ w=>by simp [hg,h1],h2⟩
 . rename_i a' b'
   simp only [AV.R] at rx ry;subst rx ry
   have hg:=λ w=>guard_none (P:=P) (op:=op) (t:=t) (X:=X) (Y:=Y) (u:=.string ⟨a'.toArray⟩) (v:=.string ⟨b'.toArray⟩) (by simp) (by simp) w
   obtain ⟨u,h1,h2⟩:=strBin_ok (P:=P) (M:=M) (t:=t) h
   exact ⟨u,λ w=>by simp [hg,h1],h2⟩
 . rename_i xs ys
   obtain ⟨us,r1,rfl⟩:=R_agg rx
   obtain ⟨vs,r2,rfl⟩:=R_agg ry
   cases hgf:guardFree P t with
   | false=>rw [hgf] at h;cases h
   | true=>
     rw [hgf,cond_true] at h
     obtain ⟨_,z,h1,h2⟩:=eq_bin h rx ry (λ w=>by simp only [binOp];simp) (λ w=>by simp only [binOp];simp)
     have hm:P.eqGuardType P.depth t=false:=by simpa [guardFree] using hgf
     exact ⟨z,λ w=>by simp [run_eqGuard_agg w op t X Y us.toArray vs.toArray hm,h1],h2⟩
 . rename_i a' b'
   simp only [AV.R] at rx ry
   obtain ⟨_,z,h1,h2⟩:=eq_bin (M:=M) h rx ry (λ w=>by subst rx ry;simp only [binOp];simp) (λ w=>by subst rx ry;simp only [binOp];simp)
   have hg:=λ w=>guard_none (P:=P) (op:=op) (t:=t) (X:=X) (Y:=Y) (u:=a) (v:=b) (by subst rx;simp) (by subst rx;simp) w
   exact ⟨z,λ w=>by simp [hg,h1],h2⟩
 . cases hp:ptrish x with
   | false=>rw [hp] at h;cases h
   | true=>
     rw [hp,cond_true] at h
     have hb:(∀ w,(binOp .eql t a b).run P w=((Op.equal t a b).run P w).andThen λ b w=>.ok (.bool b) w)/\(∀ w,(binOp .neq t a b).run P w=((Op.equal t a b).run P w).andThen λ b w=>.ok (.bool !b) w):=by
      cases x <;> simp only [ptrish,Bool.false_eq_true] at hp <;> simp only [AV.R] at rx <;> first
       | (subst rx;exact ⟨λ w=>by simp only [binOp];simp,λ w=>by simp only [binOp];simp⟩)
       | (obtain ⟨_,_,_,rfl⟩:=rx;exact ⟨λ w=>by simp only [binOp];simp,λ w=>by simp only [binOp];simp⟩)
       | (obtain ⟨_,_,rfl⟩:=rx;exact ⟨λ w=>by simp only [binOp];simp,λ w=>by simp only [binOp];simp⟩)
     obtain ⟨hop,z,h1,h2⟩:=eq_bin h rx ry hb.1 hb.2
     have hx:(∀ l,a ≠ .agg l)/\(a=.nilIface->b ≠ .nilIface):=by
      refine ⟨λ l e=>?_,λ e1 e2=>?_⟩
      . cases x <;> simp only [ptrish,Bool.false_eq_true] at hp <;> simp only [AV.R] at rx <;> first
         | (subst rx;cases e;done)
         | (obtain ⟨_,_,_,rfl⟩:=rx;cases e;done)
         | (obtain ⟨_,_,rfl⟩:=rx;cases e;done)
      . subst e1 e2
        have hne:eqA P 64 t x y=none:=by
         have hxn:x=.ni:=by
          cases x <;> simp only [ptrish,Bool.false_eq_true] at hp <;> simp only [AV.R] at rx <;> first
           | rfl
           | (cases rx;done)
           | (obtain ⟨_,_,_,rx⟩:=rx;cases rx;done)
           | (obtain ⟨_,_,rx⟩:=rx;cases rx;done)
         subst hxn
         have hyn:∀ s z,y ≠ .ifc s z:=λ s z e=>by subst e;simp [AV.R] at ry
         exact eqA_ni 63 t y hyn
        rw [hne] at h
        rcases hop with rfl | rfl <;> simp at h
     have hg:=λ w=>guard_none (P:=P) (op:=op) (t:=t) (X:=X) (Y:=Y) (u:=a) (v:=b) (λ e=>hx.2 e.1 e.2) (λ l m e=>hx.1 l e.1) w
     exact ⟨z,λ w=>by simp [hg,h1],h2⟩
end
section
variable {P : Program} {M : Mp}
theorem conv_ok {src dst:TypeId}{x v:AV}{y:Value}(h:convA P src dst x=some v)(rx:x.R M y):∃ u,(∀ w,(convert src dst y).run P w=.ok u w)/\v.R M u:=by
 unfold convA at h
 split at h
 . rename_i d k k' n hs hd
   simp only [sI] at h;subst h
   simp only [AV.R] at rx;subst rx
   exact ⟨.int k (k.wrap n),λ w=>by simp [convert,run_underlying hs,run_underlying hd,Conv.intToInt],by simp only [AV.R,wrapF_eq]⟩
 . rename_i d l hs hd
   simp only [sI] at h;subst h
   simp only [AV.R] at rx;subst rx
   exact ⟨.string ⟨l.toArray⟩,λ w=>by simp [convert,run_underlying hs,run_underlying hd],rfl⟩
 . cases h
theorem find_ok {k:IntKind}{n:Int}{k0:IntKind}:∀ {es:List (AV × AV × Nat)} {l:List MapEntry} {j:Nat} {o:Option (Nat × AV)},findA k n es j=some o->EL M es l →
 ∃ ov,Instr.findNow (.int k0) (.int k n) l j=some ov/\(match o,ov with | none,none=>True | some (i,a),some (i',v)=>i=i'/\j<=i/\i < j + l.length/\a.R M v/\(∃ e,l[i - j]?=some e/\e.key=.int k n) | _,_=>False)
 | [],l,j,o,h,r=>by
   simp only [findA,sI] at h;subst h
   simp only [EL] at r;subst r
   exact ⟨none,rfl,trivial⟩
 | (a,v,bn) :: es,l,j,o,h,r=>by
   simp only [EL] at r
   obtain ⟨kv,vv,l',r1,r2,r3,rfl⟩:=r
   cases a <;> simp only [findA,reduceCtorEq] at h
   rename_i k' m
   simp only [AV.R] at r1;subst r1
   cases hk:eqK k k' with
   | false=>rw [hk] at h;cases h
   | true=>
     rw [hk,cond_true] at h
     obtain rfl:=eqK_eq hk
     rw [eqI_eq] at h
     cases hm:n == m with
     | true=>
       rw [hm,cond_true,sI] at h;subst h
       refine ⟨some (j,vv),by simp [Instr.findNow,Instr.sameNow,hm],rfl,Nat.le_refl _,by simp,r2,⟨{ key:=.int k m,val:=vv,born:=bn },by simp,?_⟩⟩
       simp at hm;simp [hm]
     | false=>
       rw [hm,cond_false] at h
       obtain ⟨ov,h1,h2⟩:=find_ok (k0:=k0) h r3
       refine ⟨ov,by simp [Instr.findNow,Instr.sameNow,hm,h1],?_⟩
       cases o with
       | none=>cases ov <;> simp_all
       | some p=>
         cases ov with
         | none=>simp_all
         | some q=>
           obtain ⟨i,a⟩:=p
           obtain ⟨i',v'⟩:=q
           simp only at h2 ⊢
           obtain ⟨e1,e2,e3,e4,e,e5,e6⟩:=h2
           refine ⟨e1,by omega,by simp;omega,e4,e,?_,e6⟩
           rw [show i - j=(i - (j + 1)) + 1 by omega]
           simpa using e5
theorem key_ok {t:TypeId}{k:AV}{kk:IntKind}{n:Int}(h:keyA P t k=some (kk,n)):k=.i kk n/\∃ kt e k0,P.underlying t=some (.map kt e)/\P.underlying kt=some (.int k0):=by
 unfold keyA at h
 split at h
 . rename_i kt e
   split at h
   . rename_i kt' e' hu
     split at h
     . rename_i k0 hk
       simp only [sI,Prod.mk.injEq] at h
       obtain ⟨rfl,rfl⟩:=h
       exact ⟨rfl,_,_,_,hu,hk⟩
     . cases h
   . cases h
 . cases h
theorem checkKey_run {em:Bool}{d:Nat}{kt:TypeId}{k0 k:IntKind}{n:Int}(h:P.underlying kt=some (.int k0))(w:World):(Instr.checkKey em (d + 1) kt (.int k n)).run P w=.ok () w:=by
 simp only [Instr.checkKey,Sem.run_bind,run_underlying h,Result.andThen_ok];rfl
theorem entries_ok {h:AH}{w:World}{m:AV}{mv:Value}{es:List (AV × AV × Nat)}(he:entriesA h m=some es)(rm:m.R M mv)(r:Rel M h w):
 ∃ l,EL M es l/\((mv=.map none/\l=[]) ∨ ∃ b ck,mv=.map (some b)/\(getObj b).run P w=.ok (.map l.toArray ck) w):=by
 unfold entriesA at he
 split at he
 . simp only [sI] at he;subst he
   simp only [AV.R] at rm;subst rm
   exact ⟨[],rfl,.inl ⟨rfl,rfl⟩⟩
 . rename_i id
   simp only [AV.R] at rm
   obtain ⟨b,κ,hM,rfl⟩:=rm
   split at he
   . rename_i es' ck hg
     simp only [sI] at he;subst he
     obtain ⟨ob,hb,l,rl,rfl⟩:=Ob_of r hg hM
     exact ⟨l,rl,.inr ⟨b,ck,rfl,by simp [getObj,Sem.run,hb]⟩⟩
   . cases he
 . cases he
theorem checkScal_run {em:Bool}{d:Nat}{t:TypeId}{v:Value}(h:(match P.underlying t with | some (.int _)=>true | some .string=>true | some .bool=>true | _=>false)=true)(w:World):(Instr.checkKey em (d + 1) t v).run P w=.ok () w:=by
 split at h
 . rename_i hu;simp only [Instr.checkKey,Sem.run_bind,run_underlying hu,Result.andThen_ok];rfl
 . rename_i hu;simp only [Instr.checkKey,Sem.run_bind,run_underlying hu,Result.andThen_ok];rfl
 . rename_i hu;simp only [Instr.checkKey,Sem.run_bind,run_underlying hu,Result.andThen_ok];rfl
 . cases h
theorem checkFields_run {em:Bool}{d:Nat}{xs:List AV}{us:List Value}(rx:AV.RL M xs us)(w:World):∀ {fs:List Field},plainK P fs=true->partsK P xs fs=true →
 (forIn fs PUnit.unit (λ f _=>(do
   if f.name ≠ "_" then Instr.checkKey em (d + 1) f.type (← part f.type us.toArray f.offset)
   pure (ForInStep.yield PUnit.unit):Sem (ForInStep PUnit)))).run P w=.ok PUnit.unit w
 | [],_,_=>rfl
 | f :: fs,h1,h2=>by
   simp only [plainK,partsK,Bool.and_eq_true] at h1 h2
   have ih:=checkFields_run (em:=em) (d:=d) rx w h1.2 h2.2
   have hp:∃ u,(part f.type us.toArray f.offset).run P w=.ok u w:=by
    have h3:=h2.1
    split at h3
    . rename_i a ha
      obtain ⟨u,e,_⟩:=part_ok ha rx
      exact ⟨u,e w⟩
    . cases h3
   obtain ⟨u,hp⟩:=hp
   rw [List.forIn_cons,Sem.run_bind]
   by_cases hn : f.name = "_"
   . simp only [hn,ne_eq,not_true_eq_false,if_false,Sem.run_bind,Sem.run_pure,Result.andThen_ok,pure_bind]
     exact ih
   . simp only [hn,ne_eq,not_false_eq_true,if_true,Sem.run_bind,hp,Result.andThen_ok,checkScal_run (P:=P) h1.1 w,Sem.run_pure]
     exact ih
theorem checkStruct_run {em:Bool}{d:Nat}{kt:TypeId}{fs:Array Field}{xs:List AV}{us:List Value}(hk:P.underlying kt=some (.struct fs))(rx:AV.RL M xs us)(h1:plainK P fs.toList=true)(h2:partsK P xs fs.toList=true)(w:World):(Instr.checkKey em (d + 1 + 1) kt (.agg us.toArray)).run P w=.ok () w:=by
 have:=checkFields_run (P:=P) (em:=em) (d:=d) rx w h1 h2
 generalize hn:d + 1=n at this ⊢
 rw [Instr.checkKey]
 simp only [Sem.run_bind,run_underlying hk,Result.andThen_ok]
 rw [<- Array.forIn_toList]
 simp only [Array.forIn_toList,bind_pure_comp,map_pure,ne_eq,ite_not] at this ⊢
 first
  | (rw [this];rfl)
  | (simp only [this,Result.andThen_ok];done)
  | (simp at this ⊢;rw [this];rfl)
theorem keyG_ok {t:TypeId}{k:AV}{kt:TypeId}{kv:Value}(h:keyG P t k=some kt)(rk:k.R M kv):(∃ e,P.underlying t=some (.map kt e))/\(∃ fs,P.underlying kt=some (.struct fs))/\∀ em (w:World),(Instr.checkKey em 10000 kt kv).run P w=.ok () w:=by
 unfold keyG at h
 split at h
 . rename_i xs
   obtain ⟨us,rx,rfl⟩:=R_agg rk
   split at h
   . rename_i kt' e hu
     split at h
     . rename_i fs hk
       cases hb:plainK P fs.toList && partsK P xs fs.toList with
       | false=>rw [hb] at h;cases h
       | true=>
         rw [hb,cond_true,sI] at h;subst h
         simp only [Bool.and_eq_true] at hb
         refine ⟨⟨e,hu⟩,⟨fs,hk⟩,λ em w=>?_⟩
         exact checkStruct_run (d:=9998) hk rx hb.1 hb.2 w
     . cases h
   . cases h
 . cases h
theorem findG_ok {kt:TypeId}{k:AV}{kv:Value}(rk:k.R M kv)(w:World):∀ {es:List (AV × AV × Nat)} {l:List MapEntry} {j:Nat} {o:Option (Nat × AV)},findG P kt k es j=some o->EL M es l →
 ∃ ov,(Instr.findAsking kt kv l j).run P w=.ok ov w/\(match o,ov with | none,none=>True | some (_,a),some (_,v)=>a.R M v | _,_=>False)
 | [],l,j,o,h,r=>by
   simp only [findG,sI] at h;subst h
   simp only [EL] at r;subst r
   exact ⟨none,rfl,trivial⟩
 | (a,v,bn) :: es,l,j,o,h,r=>by
   simp only [EL] at r
   obtain ⟨kv',vv,l',r1,r2,r3,rfl⟩:=r
   simp only [findG] at h
   simp only [Instr.findAsking,Sem.run_bind]
   split at h
   . rename_i he
     simp only [sI] at h;subst h
     refine ⟨some (j,vv),?_,r2⟩
     rw [Op.equal,eqA_ok 64 Op.maxDepth kt k a true kv kv' (by decide) he rk r1 w];rfl
   . rename_i he
     obtain ⟨ov,e1,e2⟩:=findG_ok rk w h r3
     refine ⟨ov,?_,e2⟩
     rw [Op.equal,eqA_ok 64 Op.maxDepth kt k a false kv kv' (by decide) he rk r1 w];exact e1
   . cases h
theorem findKeyG_run {kt:TypeId}{fs:Array Field}{kv:Value}{l:List MapEntry}{ov:Option (Nat × Value)}{w:World}(hk:P.underlying kt=some (.struct fs))(h:(Instr.findAsking kt kv l).run P w=.ok ov w)(h0:l=[]->ov=none):(Instr.findKey kt kv l).run P w=.ok ov w:=by
 cases l with
 | nil=>rw [h0 rfl];simp [Instr.findKey,run_underlying hk,Instr.findNow]
 | cons e l=>simp [Instr.findKey,run_underlying hk,Instr.findNow,Instr.sameNow,h]
theorem lookup_ok {h:AH}{w:World}{t:TypeId}{m k v:AV}{mv kv:Value}{ok:Bool}(hl:lookupA P h t m k ok=some v)(rm:m.R M mv)(rk:k.R M kv)(r:Rel M h w):
 ∃ u,(Instr.lookup t mv kv ok).run P w=.ok u w/\v.R M u:=by
 unfold lookupA at hl
 split at hl
 . rename_i kk n es hk he
   obtain ⟨rfl,kt,e,k0,hu,hkt⟩:=key_ok hk
   simp only [AV.R] at rk;subst rk
   have hck:∀ em (w:World),(Instr.checkKey em 10000 kt (.int kk n)).run P w=.ok () w:=λ em w=>checkKey_run (d:=9999) hkt w
   obtain ⟨l,rl,hm⟩:=entries_ok (P:=P) he rm r
   split at hl
   . rename_i o hf
     obtain ⟨ov,h1,h2⟩:=find_ok (k0:=k0) hf rl
     have hfk:(Instr.findKey kt (.int kk n) l).run P w=.ok ov w:=by simp [Instr.findKey,run_underlying hkt,h1]
     cases o with
     | none=>
       cases ov with
       | some q=>exact h2.elim
       | none=>
         simp only [lookT] at hl
         split at hl
         . rename_i z hz
           have hz':zeroT P e=some z:=by simpa [elemZ,hu] using hz
           obtain ⟨y,hy,ry,_⟩:=zeroT_ok (M:=M) hz'
           simp only [sI] at hl;subst hl
           rcases hm with ⟨rfl,rfl⟩ | ⟨b,ck,rfl,hgo⟩ <;> cases ok
           . exact ⟨y,by simp [Instr.lookup,run_underlying hu,hck,hfk,hy],ry⟩
           . exact ⟨.tuple #[y,.bool false],by simp [Instr.lookup,run_underlying hu,hck,hfk,hy],by simp only [cond_true,AV.R];exact ⟨[y,.bool false],by simp [AV.RL,AV.R,ry],rfl⟩⟩
           . exact ⟨y,by simp [Instr.lookup,run_underlying hu,hck,hgo,hfk,hy],ry⟩
           . exact ⟨.tuple #[y,.bool false],by simp [Instr.lookup,run_underlying hu,hck,hgo,hfk,hy],by simp only [cond_true,AV.R];exact ⟨[y,.bool false],by simp [AV.RL,AV.R,ry],rfl⟩⟩
         . cases hl
     | some p=>
       cases ov with
       | none=>exact h2.elim
       | some q=>
         obtain ⟨i,a⟩:=p
         obtain ⟨i',y⟩:=q
         simp only [lookT,sI] at hl
         simp only at h2
         obtain ⟨_,_,_,h2,_⟩:=h2
         subst hl
         rcases hm with ⟨rfl,rfl⟩ | ⟨b,ck,rfl,hgo⟩ <;> cases ok
         . exact ⟨y,by simp [Instr.lookup,run_underlying hu,hck,hfk],h2⟩
         . exact ⟨.tuple #[y,.bool true],by simp [Instr.lookup,run_underlying hu,hck,hfk],by simp only [cond_true,AV.R];exact ⟨[y,.bool true],by simp [AV.RL,AV.R,h2],rfl⟩⟩
         . exact ⟨y,by simp [Instr.lookup,run_underlying hu,hck,hgo,hfk],h2⟩
         . exact ⟨.tuple #[y,.bool true],by simp [Instr.lookup,run_underlying hu,hck,hgo,hfk],by simp only [cond_true,AV.R];exact ⟨[y,.bool true],by simp [AV.RL,AV.R,h2],rfl⟩⟩
   . cases hl
 . rename_i es hk0 he
   split at hl
   case h_2=>cases hl
   rename_i kt hk
   obtain ⟨⟨e,hu⟩,⟨fs,hks⟩,hck⟩:=keyG_ok hk rk
   obtain ⟨l,rl,hm⟩:=entries_ok (P:=P) he rm r
   split at hl
   . rename_i o hf
     obtain ⟨ov,h1,h2⟩:=findG_ok (P:=P) rk w hf rl
     have hfk:(Instr.findKey kt kv l).run P w=.ok ov w:=findKeyG_run hks h1 (λ e=>by subst e;simp only [Instr.findAsking,Sem.run_pure,Result.ok.injEq] at h1;exact h1.1.symm)
     cases o with
     | none=>
       cases ov with
       | some q=>exact h2.elim
       | none=>
         simp only [lookT] at hl
         split at hl
         . rename_i z hz
           have hz':zeroT P e=some z:=by simpa [elemZ,hu] using hz
           obtain ⟨y,hy,ry,_⟩:=zeroT_ok (M:=M) hz'
           simp only [sI] at hl;subst hl
           rcases hm with ⟨rfl,rfl⟩ | ⟨b,ck,rfl,hgo⟩ <;> cases ok
           . exact ⟨y,by simp [Instr.lookup,run_underlying hu,hck,hfk,hy],ry⟩
           . exact ⟨.tuple #[y,.bool false],by simp [Instr.lookup,run_underlying hu,hck,hfk,hy],by simp only [cond_true,AV.R];exact ⟨[y,.bool false],by simp [AV.RL,AV.R,ry],rfl⟩⟩
           . exact ⟨y,by simp [Instr.lookup,run_underlying hu,hck,hgo,hfk,hy],ry⟩
           . exact ⟨.tuple #[y,.bool false],by simp [Instr.lookup,run_underlying hu,hck,hgo,hfk,hy],by simp only [cond_true,AV.R];exact ⟨[y,.bool false],by simp [AV.RL,AV.R,ry],rfl⟩⟩
         . cases hl
     | some p=>
       cases ov with
       | none=>exact h2.elim
       | some q=>
         obtain ⟨i,a⟩:=p
         obtain ⟨i',y⟩:=q
         simp only [lookT,sI] at hl
         simp only at h2
         subst hl
         rcases hm with ⟨rfl,rfl⟩ | ⟨b,ck,rfl,hgo⟩ <;> cases ok
         . exact ⟨y,by simp [Instr.lookup,run_underlying hu,hck,hfk],h2⟩
         . exact ⟨.tuple #[y,.bool true],by simp [Instr.lookup,run_underlying hu,hck,hfk],by simp only [cond_true,AV.R];exact ⟨[y,.bool true],by simp [AV.RL,AV.R,h2],rfl⟩⟩
         . exact ⟨y,by simp [Instr.lookup,run_underlying hu,hck,hgo,hfk],h2⟩
         . exact ⟨.tuple #[y,.bool true],by simp [Instr.lookup,run_underlying hu,hck,hgo,hfk],by simp only [cond_true,AV.R];exact ⟨[y,.bool true],by simp [AV.RL,AV.R,h2],rfl⟩⟩
   . cases hl
 . cases hl
theorem upd_setObj {w:World}{b:Nat}{o:Obj}(hb:b < w.heap.size):Upd w { w with heap:=w.heap.setIfInBounds b o } b o where
 os:=rfl
 tape:=rfl
 output:=rfl
 size:=by simp
 other:=λ k hk=>by simp [Array.getElem?_setIfInBounds_ne (Ne.symm hk)]
 at_:=by simp [hb]
theorem run_setObj' {w:World}{b:Nat}{o o':Obj}(hb:w.heap[b]?=some o)(hc:∀ c e f,o ≠ .cells c e f):(setObj b o').run P w=.ok () { w with heap:=w.heap.setIfInBounds b o' }:=by
 cases o <;> first | exact absurd rfl (hc _ _ _) | simp only [setObj,Sem.run,hb]
theorem run_getObj' {w:World}{b:Nat}{o:Obj}(hb:w.heap[b]?=some o)(hc:∀ c e f,o ≠ .cells c e f):(getObj b).run P w=.ok o w:=by
 cases o <;> first | exact absurd rfl (hc _ _ _) | simp only [getObj,Sem.run,hb]
theorem EL_append {k v:AV}{c:Nat}{kv vv:Value}(rk:k.R M kv)(rv:v.R M vv):∀ {es:List (AV × AV × Nat)} {l:List MapEntry},EL M es l->EL M (es ++ [(k,v,c)]) (l ++ [{ key:=kv,val:=vv,born:=c }])
 | [],l,r=>by simp only [EL] at r;subst r;simp only [List.nil_append,EL];exact ⟨kv,vv,[],rk,rv,rfl,rfl⟩
 | e :: es,l,r=>by
   simp only [EL] at r
   obtain ⟨k',v',l',r1,r2,r3,rfl⟩:=r
   simp only [List.cons_append,EL]
   exact ⟨k',v',_,r1,r2,EL_append rk rv r3,rfl⟩
theorem EL_mod {k v:AV}{kv vv:Value}(rk:k.R M kv)(rv:v.R M vv):∀ {es:List (AV × AV × Nat)} {l:List MapEntry} (j:Nat),EL M es l->EL M (modA k v es j) (l.modify j λ e=>{ e with key:=kv,val:=vv })
 | [],l,j,r=>by simp only [EL] at r;subst r;simp [modA,EL]
 | e :: es,l,0,r=>by
   obtain ⟨a,b,c⟩:=e
   simp only [EL] at r
   obtain ⟨k',v',l',r1,r2,r3,rfl⟩:=r
   simp only [modA,EL,List.modify_zero_cons]
   exact ⟨kv,vv,l',rk,rv,r3,rfl⟩
 | e :: es,l,j + 1,r=>by
   obtain ⟨a,b,c⟩:=e
   simp only [EL] at r
   obtain ⟨k',v',l',r1,r2,r3,rfl⟩:=r
   simp only [modA,EL,List.modify_succ_cons]
   exact ⟨k',v',_,r1,r2,EL_mod rk rv j r3,rfl⟩
theorem EL_del:∀ {es:List (AV × AV × Nat)} {l:List MapEntry} (j:Nat),EL M es l->EL M (delA es j) (l.eraseIdx j)
 | [],l,j,r=>by simp only [EL] at r;subst r;simp [delA,EL]
 | e :: es,l,0,r=>by
   simp only [EL] at r
   obtain ⟨k',v',l',r1,r2,r3,rfl⟩:=r
   simpa [delA] using r3
 | e :: es,l,j + 1,r=>by
   simp only [EL] at r
   obtain ⟨k',v',l',r1,r2,r3,rfl⟩:=r
   simp only [delA,EL,List.eraseIdx_cons_succ]
   exact ⟨k',v',_,r1,r2,EL_del j r3,rfl⟩
theorem mapUpdateG_ok {h h':AH}{w:World}{t:TypeId}{m k v:AV}{mv kv vv:Value}(hl:mapUpdateG P h t m k v=some h')(rm:m.R M mv)(rk:k.R M kv)(rv:v.R M vv)(r:Rel M h w):
 ∃ w',(Instr.mapUpdate t mv kv vv).run P w=.ok () w'/\Rel M h' w'/\Fr h h' M M w w'/\Ab h h':=by
 unfold mapUpdateG at hl
 split at hl
 . rename_i kt id hk
   obtain ⟨⟨e,hu⟩,⟨fs,hks⟩,hck⟩:=keyG_ok hk rk
   simp only [AV.R] at rm
   obtain ⟨b,κ,hM,rfl⟩:=rm
   split at hl
   . rename_i es ck hg
     obtain ⟨ob,hb,l,rl,rfl⟩:=Ob_of r hg hM
     have hgo:=run_getObj' (P:=P) hb (by simp)
     have hso:=λ o'=>run_setObj' (P:=P) (o':=o') hb (by simp)
     split at hl
     . rename_i hf
       obtain ⟨ov,h1,h2⟩:=findG_ok (P:=P) rk w hf rl
       cases ov with
       | some q=>exact h2.elim
       | none=>
         have hfk:(Instr.findKey kt kv l).run P w=.ok none w:=findKeyG_run hks h1 (λ _=>rfl)
         refine ⟨_,?_,put_ok r hg hl hM (upd_setObj (heap_lt hb)) ⟨_,EL_append (c:=ck) rk rv rl,rfl⟩⟩
         simp [Instr.mapUpdate,run_underlying hu,hgo,hck,hfk,hso]
     . cases hl
   . cases hl
 . cases hl
theorem mapUpdate_ok {h h':AH}{w:World}{t:TypeId}{m k v:AV}{mv kv vv:Value}(hl:mapUpdateA P h t m k v=some h')(rm:m.R M mv)(rk:k.R M kv)(rv:v.R M vv)(r:Rel M h w):
 ∃ w',(Instr.mapUpdate t mv kv vv).run P w=.ok () w'/\Rel M h' w'/\Fr h h' M M w w'/\Ab h h':=by
 unfold mapUpdateA at hl
 split at hl
 . exact mapUpdateG_ok hl rm rk rv r
 . rename_i kk n id hk
   have rk':=rk
   obtain ⟨rfl,kt,e,k0,hu,hkt⟩:=key_ok hk
   simp only [AV.R] at rk;subst rk
   have hck:∀ em (w:World),(Instr.checkKey em 10000 kt (.int kk n)).run P w=.ok () w:=λ em w=>checkKey_run (d:=9999) hkt w
   simp only [AV.R] at rm
   obtain ⟨b,κ,hM,rfl⟩:=rm
   split at hl
   . rename_i es ck hg
     obtain ⟨ob,hb,l,rl,rfl⟩:=Ob_of r hg hM
     have hgo:=run_getObj' (P:=P) hb (by simp)
     have hso:=λ o'=>run_setObj' (P:=P) (o':=o') hb (by simp)
     split at hl
     . rename_i j a hf
       obtain ⟨ov,h1,h2⟩:=find_ok (k0:=k0) hf rl
       cases ov with
       | none=>exact h2.elim
       | some q=>
         obtain ⟨i',y⟩:=q
         simp only at h2
         obtain ⟨rfl,_,h3,h4,me,h5,h6⟩:=h2
         have hfk:(Instr.findKey kt (.int kk n) l).run P w=.ok (some (j,y)) w:=by simp [Instr.findKey,run_underlying hkt,h1]
         have hks:(Instr.keyThatStays (.int kk n) (.int kk n)).run P w=.ok (.int kk n) w:=by simp [Instr.keyThatStays,Instr.sameBits]
         have hj:l[j]?=some me:=by simpa using h5
         refine ⟨_,?_,put_ok r hg hl hM (upd_setObj (heap_lt hb)) ⟨_,EL_mod rk' rv j rl,rfl⟩⟩
         simp [Instr.mapUpdate,run_underlying hu,hgo,hck,hfk,hj,h6,hks,hso]
     . rename_i hf
       obtain ⟨ov,h1,h2⟩:=find_ok (k0:=k0) hf rl
       cases ov with
       | some q=>exact h2.elim
       | none=>
         have hfk:(Instr.findKey kt (.int kk n) l).run P w=.ok none w:=by simp [Instr.findKey,run_underlying hkt,h1]
         refine ⟨_,?_,put_ok r hg hl hM (upd_setObj (heap_lt hb)) ⟨_,EL_append (c:=ck) rk' rv rl,rfl⟩⟩
         simp [Instr.mapUpdate,run_underlying hu,hgo,hck,hfk,hso]
     . cases hl
   . cases hl
 . cases hl
theorem delete_ok {h h':AH}{w:World}{t:TypeId}{m k:AV}{mv kv:Value}{tys:Array TypeId}{ty:TypeId}(hl:deleteA P h t m k=some h')(rm:m.R M mv)(rk:k.R M kv)(r:Rel M h w)(ht:tys[0]?=some t)(as_:Array Value)(ha:as_[0]?=some mv/\as_[1]?=some kv):
 ∃ w',(Builtin.delete_ tys ty as_).run P w=.ok (.tuple #[]) w'/\Rel M h' w'/\Fr h h' M M w w'/\Ab h h':=by
 unfold deleteA at hl
 split at hl
 . rename_i p hk
   obtain ⟨kk,n⟩:=p
   simp only [sI] at hl;subst hl
   obtain ⟨rfl,kt,e,k0,hu,hkt⟩:=key_ok hk
   simp only [AV.R] at rk rm;subst rk rm
   have hck:∀ em (w:World),(Instr.checkKey em 10000 kt (.int kk n)).run P w=.ok () w:=λ em w=>checkKey_run (d:=9999) hkt w
   exact ⟨w,by simp [Builtin.delete_,ht,ha.1,ha.2,run_underlying hu,hck],r,Fr.same h M w,Ab.refl h⟩
 . rename_i kk n id hk
   obtain ⟨rfl,kt,e,k0,hu,hkt⟩:=key_ok hk
   simp only [AV.R] at rk;subst rk
   have hck:∀ em (w:World),(Instr.checkKey em 10000 kt (.int kk n)).run P w=.ok () w:=λ em w=>checkKey_run (d:=9999) hkt w
   simp only [AV.R] at rm
   obtain ⟨b,κ,hM,rfl⟩:=rm
   split at hl
   . rename_i es ck hg
     obtain ⟨ob,hb,l,rl,rfl⟩:=Ob_of r hg hM
     have hgo:=run_getObj' (P:=P) hb (by simp)
     have hso:=λ o'=>run_setObj' (P:=P) (o':=o') hb (by simp)
     split at hl
     . rename_i j a hf
       obtain ⟨ov,h1,h2⟩:=find_ok (k0:=k0) hf rl
       cases ov with
       | none=>exact h2.elim
       | some q=>
         obtain ⟨i',y⟩:=q
         simp only at h2
         obtain ⟨rfl,_,h3,h4,me,h5,h6⟩:=h2
         have hfk:(Instr.findKey kt (.int kk n) l).run P w=.ok (some (j,y)) w:=by simp [Instr.findKey,run_underlying hkt,h1]
         refine ⟨_,?_,put_ok r hg hl hM (upd_setObj (heap_lt hb)) ⟨_,EL_del j rl,rfl⟩⟩
         have hlt:j < l.length:=by omega
         simp [Builtin.delete_,ht,ha.1,ha.2,run_underlying hu,hgo,hck,hfk,hso,Array.eraseIdxIfInBounds,hlt]
     . rename_i hf
       obtain ⟨ov,h1,h2⟩:=find_ok (k0:=k0) hf rl
       cases ov with
       | some q=>exact h2.elim
       | none=>
         have hfk:(Instr.findKey kt (.int kk n) l).run P w=.ok none w:=by simp [Instr.findKey,run_underlying hkt,h1]
         refine ⟨_,?_,put_ok r hg hl hM (upd_setObj (heap_lt hb)) ⟨_,rl,rfl⟩⟩
         simp [Builtin.delete_,ht,ha.1,ha.2,run_underlying hu,hgo,hck,hfk,hso]
     . cases hl
   . cases hl
 . cases hl
end
end Go.Proofs.Ytknfdbilpfblnaa.Ex
end
