/- The texts CFq, CFw, CFx, RegS, CFz, PlS, CIs, CRv, CRl, CLh: Contracts of the search: is it enough, may a call be the next one, what a call does, a state's numbers. The search's functions as calls of the machine. The search in plain Lean; its marks as a map's .. -/
import Derived.WalkKit
import Derived.BigCall
import Derived.DeepKeys4
import Derived.WideKeyEntry
import Derived.Test.YtknfdbilpfblnaaProg
import Derived.Deep.RegionHeld3
import Derived.Deep.RegionWith
import Derived.Deep.RegionLaw
import Derived.OrdersHeld
import Derived.Lib.Hide
import Derived.WalkMore
import Derived.Test.YtknfdbilpfblnaaU5
set_option linter.all false
set_option maxRecDepth 100000
section
noncomputable section
namespace Go.Proofs.Ytknfdbilpfblnaa.Ex
open Go
structure CaS where
 id:Nat->Int
 th:Nat->Int
 ok:Nat->Int
 key:Nat->Int
 val:Nat->Int
 hi:Nat->Int
 most:Nat->Int
 fr:Nat->Int
 to:Nat->Int
 ov:Nat->Bool
 rk:Nat->Int
 rv:Nat->Int
 nl:Nat->Bool
 pn:Nat->Nat
 pk:Nat->Nat->Int
 pv:Nat->Nat->Int
instance:Inhabited CaS:=⟨⟨λ _=>0,λ _=>0,λ _=>0,λ _=>0,λ _=>0,λ _=>0,λ _=>0,λ _=>0,λ _=>0,λ _=>false,λ _=>0,λ _=>0,λ _=>true,λ _=>0,λ _ _=>0,λ _ _=>0⟩⟩
def cqId (C:CaS)(i:Nat):Int:=C.id i
def cqTh (C:CaS)(i:Nat):Int:=C.th i
def cqOk (C:CaS)(i:Nat):Int:=C.ok i
def cqKey (C:CaS)(i:Nat):Int:=C.key i
def cqVal (C:CaS)(i:Nat):Int:=C.val i
def cqHi (C:CaS)(i:Nat):Int:=C.hi i
def cqMost (C:CaS)(i:Nat):Int:=C.most i
def cqFr (C:CaS)(i:Nat):Int:=C.fr i
def cqTo (C:CaS)(i:Nat):Int:=C.to i
def cqOv (C:CaS)(i:Nat):Bool:=C.ov i
def cqRk (C:CaS)(i:Nat):Int:=C.rk i
def cqRv (C:CaS)(i:Nat):Int:=C.rv i
def cqNl (C:CaS)(i:Nat):Bool:=C.nl i
def cqPn (C:CaS)(i:Nat):Nat:=C.pn i
def cqPk (C:CaS)(i j:Nat):Int:=C.pk i j
def cqPv (C:CaS)(i j:Nat):Int:=C.pv i j
abbrev colsLq (C:CaS):List Col:=[.int .i64 (cqId C),.int .i64 (cqTh C),.int .i64 (cqOk C),.int .u64 (cqKey C),.int .u64 (cqVal C),.int .u64 (cqHi C),.int .i64 (cqMost C),.int .i64 (cqFr C),.int .i64 (cqTo C),.bool (cqOv C),.int .i64 (cqRk C),.int .u64 (cqRv C),.ls (cqNl C) (cqPn C) [.int .u64 (cqPk C),.int .u64 (cqPv C)]]
def smQ (C:CaS)(n:Nat):Bool:=decide (n<=12/\∀ i,i < n->cqPn C i<=1000000)
def srF (nc:Bool)(n:Nat)(C:CaS)(nk:Bool)(m:Nat)(K:Nat->Int)(_ j:Nat):AV:=
 match j with
 | 0=>.lst false nc 13 n (colF (colsLq C))
 | 1=>.lst false nk 1 m (colF [.int .u64 K])
 | _=>.jk
abbrev srO (nc:Bool)(n:Nat)(C:CaS)(nk:Bool)(m:Nat)(K:Nat->Int):AO:=.arr true 57 4 1 (srF nc n C nk m K)
abbrev stL (D B:Nat->Bool)(V:Nat->Int):List AV:=[.yb (D 0),.yb (D 1),.yb (D 2),.yb (D 3),.yb (D 4),.yb (D 5),.yb (D 6),.yb (D 7),.yb (D 8),.yb (D 9),.yb (D 10),.yb (D 11),.yb (B 0),.y .u64 (V 0),.yb (B 1),.y .u64 (V 1),.yb (B 2),.y .u64 (V 2),.yb (B 3),.y .u64 (V 3),.yb (B 4),.y .u64 (V 4),.yb (B 5),.y .u64 (V 5)]
def cmpQ:List AV->List AV->Prop
 | [],[]=>True
 | a :: l,b :: m=>cmpC a b/\cmpQ l m
 | _,_=>False
def cmpG (l:List AV)(v:AV):Prop:=match v with | .agg m=>cmpQ l m | _=>False
def cmpT (l:List AV)(c v:AV):Prop:=match v with | .tup [a,b]=>cmpG l a/\cmpC c b | _=>False
def enB (C:CaS)(n:Nat)(D:Nat->Bool):Bool:=decide (∀ k,k < n->cqOv C k=true->D k=true)
def prEn (C:CaS)(n:Nat)(D:Nat->Bool)(i:Nat):Prop:=i<=n/\∀ k,k < i->cqOv C k=true->D k=true
def mEn (n i:Nat):Nat:=n - i
def annEn (C:CaS)(n:Nat)(D:Nat->Bool)(b:Nat):Option (St->LoopA):=
 match b with
 | 0=>some λ _=>{ ι:=Nat,tms:=[12],tmU:=λ i=>[.y .i64 (yInt i)],ids:=[],hpU:=λ _=>[],del:=[],ex:=0,pre:=prEn C n D,ms:=mEn n }
 | _=>none
def goalEn:Prop:=∀ (nc:Bool) (n:Nat) (C:CaS) (nk:Bool) (m:Nat) (K:Nat->Int) (D B:Nat->Bool) (V:Nat->Int),smQ C n=true →
 wxF Try.prog noSm (annEn C n D) 1000 38 [.ypt true 0 4 0 0,.agg (stL D B V)] (heapOf [srO nc n C nk m K]) (λ v _=>cmpC (.yb (enB C n D)) v)
def frB (C:CaS)(n:Nat)(D:Nat->Bool)(i:Nat):Bool:=decide (D i=false/\∀ k,k < n->D k=false->¬ (cqOv C k=true/\cqTo C k < cqFr C i))
def prFq (C:CaS)(n:Nat)(D:Nat->Bool)(i k:Nat):Prop:=k<=n/\D i=false/\∀ j,j < k->D j=false->¬ (cqOv C j=true/\cqTo C j < cqFr C i)
def annFq (C:CaS)(n:Nat)(D:Nat->Bool)(i:Nat)(b:Nat):Option (St->LoopA):=
 match b with
 | 0=>some λ _=>{ ι:=Nat,tms:=[18],tmU:=λ k=>[.y .i64 (yInt k)],ids:=[],hpU:=λ _=>[],del:=[],ex:=0,pre:=prFq C n D i,ms:=mEn n }
 | _=>none
def goalFr:Prop:=∀ (nc:Bool) (n:Nat) (C:CaS) (nk:Bool) (m:Nat) (K:Nat->Int) (D B:Nat->Bool) (V:Nat->Int) (i:Nat),smQ C n=true->yNlt i n=true →
 wxF Try.prog noSm (annFq C n D i) 1000 40 [.ypt true 0 4 0 0,.agg (stL D B V),.y .i64 (yInt i)] (heapOf [srO nc n C nk m K]) (λ v _=>cmpC (.yb (frB C n D i)) v)
abbrev sPu:Sx:=.pl [.int .u64]
def fIu (ds:List Dx):Option (Bool × Dx × List (List Dx)):=
 match ds with
 | [.rows _ n [.int .u64 k],.v (.y .u64 a)]=>some (yNle n 1000000,.v (.y .i64 (fxI n (keB k a))),[])
 | _=>none
def goalIu:Prop:=∀ (nl:Bool) (n:Nat) (k:Nat->Int) (a:Int),yNle n 1000000=true →
 wxH Try.prog noSm (annFx 8 n (keB k a)) 70 [sPu,.sc] [.rows nl n [.int .u64 k],.v (.y .u64 a)] .sc (.v (.y .i64 (fxI n (keB k a)))) []
def goalFuL:Prop:=goalFu 69
def smK (C:CaS)(n:Nat)(K:Nat->Int)(m:Nat):Bool:=decide (m<=6/\∀ i,i < n->0<=fxI m (keB K (cqKey C i)))
def doLF (C:CaS)(i:Nat):Bool:=fullE (cqOv C i) (cqOk C i) (cqRk C i) (cqRv C i) (cqPn C i) (cqPk C i) (cqPv C i)
def doLD (D:Nat->Bool)(i q:Nat):Bool:=bif decide (i=q) then true else D q
def doLB (C:CaS)(i k:Nat)(B:Nat->Bool)(q:Nat):Bool:=bif doLF C i then B q else bif decide (k=q) then (if cqOk C i=2 then true else if cqOk C i=3 then false else B q) else B q
def doLV (C:CaS)(i k:Nat)(V:Nat->Int)(q:Nat):Int:=bif doLF C i then V q else bif decide (k=q) then (if cqOk C i=2 then cqVal C i else if cqOk C i=3 then 0 else V q) else V q
def doLO (C:CaS)(i k:Nat)(B:Nat->Bool)(V:Nat->Int):Bool:=bif doLF C i then true else bif cqOv C i then sameRes (ySel (B k) 2 1) (ySel (B k) (V k) 0) 0 (λ _=>0) (λ _=>0) (cqRk C i) (cqRv C i) (cqPn C i) (cqPk C i) (cqPv C i) else true
def lDo:List (Nat × Sm):=[(69,.ct (ctS gCa fFu)),(70,.ct (ctX [sPu,.sc] .sc fIu)),(64,.ct (ctS gResult fSame))]
def goalDo:Prop:=∀ (nc:Bool) (n:Nat) (C:CaS) (nk:Bool) (m:Nat) (K:Nat->Int) (D B:Nat->Bool) (V:Nat->Int) (i:Nat),smQ C n=true->smK C n K m=true->yNlt i n=true →
 wxF Try.prog (smL lDo) (λ _=>none) 1000 41 [.ypt true 0 4 0 0,.agg (stL D B V),.y .i64 (yInt i)] (heapOf [srO nc n C nk m K]) (λ v _=>cmpT (stL (doLD D i) (doLB C i (yNat (fxI m (keB K (cqKey C i)))) B) (doLV C i (yNat (fxI m (keB K (cqKey C i)))) V)) (.yb (doLO C i (yNat (fxI m (keB K (cqKey C i)))) B V)) v)
def mk1 (D:Nat->Bool)(i j:Nat):Int:=ySel (yAnd (decide (j < i)) (D j)) 1 0
def mk2 (B:Nat->Bool)(i q:Nat):Int:=ySel (yAnd (decide (q < i)) (B q)) 1 0
def mk3 (B:Nat->Bool)(V:Nat->Int)(i q:Nat):Int:=ySel (yAnd (decide (q < i)) (B q)) (V q) 0
abbrev mkL (D B:Nat->Bool)(V:Nat->Int)(a b:Nat):List AV:=[.y .u64 (mk1 D a 0),.y .u64 (mk1 D a 1),.y .u64 (mk1 D a 2),.y .u64 (mk1 D a 3),.y .u64 (mk1 D a 4),.y .u64 (mk1 D a 5),.y .u64 (mk1 D a 6),.y .u64 (mk1 D a 7),.y .u64 (mk1 D a 8),.y .u64 (mk1 D a 9),.y .u64 (mk1 D a 10),.y .u64 (mk1 D a 11),.y .u64 (mk2 B b 0),.y .u64 (mk3 B V b 0),.y .u64 (mk2 B b 1),.y .u64 (mk3 B V b 1),.y .u64 (mk2 B b 2),.y .u64 (mk3 B V b 2),.y .u64 (mk2 B b 3),.y .u64 (mk3 B V b 3),.y .u64 (mk2 B b 4),.y .u64 (mk3 B V b 4),.y .u64 (mk2 B b 5),.y .u64 (mk3 B V b 5)]
def prMk (m i:Nat):Prop:=i<=m
def annMk (D B:Nat->Bool)(V:Nat->Int)(b:Nat):Option (St->LoopA):=
 match b with
 | 0=>some λ _=>{ ι:=Nat,tms:=[10],tmU:=λ i=>[.y .i64 (yInt i)],ids:=[2],hpU:=λ i=>[.cells (mkL D B V i 0) 102 none],del:=[],ex:=0,pre:=prMk 12,ms:=mEn 12 }
 | 1=>some λ _=>{ ι:=Nat,tms:=[20],tmU:=λ i=>[.y .i64 (yInt i)],ids:=[2],hpU:=λ i=>[.cells (mkL D B V 12 i) 102 none],del:=[],ex:=2,pre:=prMk 6,ms:=mEn 6 }
 | _=>none
def goalMk:Prop:=∀ (D B:Nat->Bool) (V:Nat->Int),
 wxF Try.prog noSm (annMk D B V) 1000 39 [.agg (stL D B V)] (heapOf []) (λ v _=>cmpG (mkL D B V 12 6) v)
theorem pick12 {D:Nat->Bool}{b:Bool}:∀ i,i < 12->yPick i [D 0,D 1,D 2,D 3,D 4,D 5,D 6,D 7,D 8,D 9,D 10,D 11,b]=D i
 | 0,_=>rfl | 1,_=>rfl | 2,_=>rfl | 3,_=>rfl | 4,_=>rfl | 5,_=>rfl | 6,_=>rfl | 7,_=>rfl | 8,_=>rfl | 9,_=>rfl | 10,_=>rfl | 11,_=>rfl
 | n + 12,h=>absurd h (by omega)
theorem pick12' {D:Nat->Bool}:∀ i,i < 12->yPick i [D 0,D 1,D 2,D 3,D 4,D 5,D 6,D 7,D 8,D 9,D 10,D 11]=D i
 | 0,_=>rfl | 1,_=>rfl | 2,_=>rfl | 3,_=>rfl | 4,_=>rfl | 5,_=>rfl | 6,_=>rfl | 7,_=>rfl | 8,_=>rfl | 9,_=>rfl | 10,_=>rfl | 11,_=>rfl
 | n + 12,h=>absurd h (by omega)
theorem pick6 {D:Nat->Bool}:∀ i,i < 6->yPick i [D 0,D 1,D 2,D 3,D 4,D 5]=D i
 | 0,_=>rfl | 1,_=>rfl | 2,_=>rfl | 3,_=>rfl | 4,_=>rfl | 5,_=>rfl
 | n + 6,h=>absurd h (by omega)
theorem pick6I {D:Nat->Int}:∀ i,i < 6->yPickI i [D 0,D 1,D 2,D 3,D 4,D 5]=D i
 | 0,_=>rfl | 1,_=>rfl | 2,_=>rfl | 3,_=>rfl | 4,_=>rfl | 5,_=>rfl
 | n + 6,h=>absurd h (by omega)
def goalIuV:Prop:=(∀ (nl:Bool) (n:Nat) (k:Nat->Int) (a:Int),yNle n (nat_lit 1000000)=true->true=true/\(∃ (i0:Nat),prFx n (keB k a) i0/\true=true/\yInt i0=(0:Int)/\true=true)/\∀ (g:Nat->AV) (i:Nat),prFx n (keB k a) i->(yLt (yInt i) (yInt n)=true->mst (yIn (yInt i) n) ((yEq a (k (yNat (yInt i)))=true->fxI n (keB k a)=yInt i/\true=true)/\(yEq a (k (yNat (yInt i)))=false->true=true/\∃ (i':Nat),prFx n (keB k a) i'/\Nat.succ (mFx n i')<=mFx n i/\true=true/\yInt i'=yWrap .i64 (yAdd (yInt i) 1)/\true=true)))/\(yLt (yInt i) (yInt n)=false->fxI n (keB k a)=(-1:Int)/\true=true))
theorem goalIu_eq:goalIu=goalIuV:=by kernel_rfl
set_option maxHeartbeats 8000000 in
theorem goalIu_vc:goalIuV:=by
 unfold goalIuV
 intro nl n k a hn
 have hn:n<=1000000:=of_decide_eq_true hn
 refine ⟨rfl,⟨0,fx_0 _ _,rfl,rfl,rfl⟩,λ g i hi=>⟨λ h=>?_,λ h=>?_⟩⟩
 . refine mstI (yInN (yLtN h)) ⟨λ e=>?_,λ e=>?_⟩
   . exact ⟨fx_hit hi (yLtN h) (decide_eq_true (of_decide_eq_true e).symm),rfl⟩
   . obtain ⟨q1,q2,q3⟩:=fx_next (by omega) hi (yLtN h) (decide_eq_false λ h=>of_decide_eq_false e h.symm)
     exact ⟨rfl,i + 1,q1,q2,rfl,q3,rfl⟩
 . exact ⟨fx_none hi (yLtF h),rfl⟩
theorem goalIu_tt:(goalIu)=True:=goalIu_eq.trans (eq_true goalIu_vc)
theorem goalIu_ok:goalIu:=@ft' goalIu goalIu_tt
def goalEnV:Prop:=(∀ (nc:Bool) (n:Nat) (C:CaS) (nk:Bool) (m:Nat) (K:Nat->Int) (D B:Nat->Bool) (V:Nat->Int),smQ C n=true->mst (yNlt 0 1) (true=true/\(∃ (i0:Nat),prEn C n D i0/\true=true/\yInt i0=(0:Int)/\true=true)/\∀ (g:Nat->AV) (i:Nat),prEn C n D i->(yLt (yInt i) (yInt n)=true->mst (yIn (yInt i) n) ((cqOv C (yNat (yInt i))=true->mst (yIn (yInt i) 12) (mst (yNlt (yNat (yInt i)) 13) ((yNot (yPick (yNat (yInt i)) [D 0,D 1,D 2,D 3,D 4,D 5,D 6,D 7,D 8,D 9,D 10,D 11,B 0])=true->enB C n D=false)/\(yNot (yPick (yNat (yInt i)) [D 0,D 1,D 2,D 3,D 4,D 5,D 6,D 7,D 8,D 9,D 10,D 11,B 0])=false->true=true/\∃ (i':Nat),prEn C n D i'/\Nat.succ (mEn n i')<=mEn n i/\true=true/\yInt i'=yWrap .i64 (yAdd (yInt i) 1)/\true=true))))/\(cqOv C (yNat (yInt i))=false->true=true/\∃ (i':Nat),prEn C n D i'/\Nat.succ (mEn n i')<=mEn n i/\true=true/\yInt i'=yWrap .i64 (yAdd (yInt i) 1)/\true=true)))/\(yLt (yInt i) (yInt n)=false->enB C n D=true)))
theorem goalEn_eq:goalEn=goalEnV:=by kernel_rfl
set_option maxHeartbeats 8000000 in
theorem goalEn_vc:goalEnV:=by
 unfold goalEnV
 intro nc n C nk m K D B V hs
 obtain ⟨hn,_⟩:=of_decide_eq_true hs
 have nxt:∀ i,i < n->prEn C n D i->(cqOv C i=true->D i=true)->∃ (i':Nat),prEn C n D i'/\Nat.succ (mEn n i')<=mEn n i/\true=true/\yInt i'=yWrap .i64 (yAdd (yInt i) (1:Int))/\true=true:=λ i hi hp h=>
  ⟨i + 1,⟨hi,λ k hk=>by
   rcases Nat.lt_succ_iff_lt_or_eq.1 hk with h2 | rfl
   . exact hp.2 k h2
   . exact h⟩,by unfold mEn;omega,rfl,by show ((i + 1:Nat):Int)=yWrap .i64 ((i:Int) + 1);rw [wrap64 (by omega) (by omega)];omega,rfl⟩
 refine mstI rfl ⟨rfl,⟨0,⟨Nat.zero_le _,λ k hk=>absurd hk (Nat.not_lt_zero _)⟩,rfl,rfl,rfl⟩,λ g i hp=>⟨λ h=>?_,λ h=>?_⟩⟩
 . have hi:=yLtN h
   refine mstI (yInN hi) ⟨λ ho=>mstI (show yIn (yInt i) 12=true from yInN (by omega)) (mstI (decide_eq_true (show i < 13 by omega)) ⟨λ e=>?_,λ e=>?_⟩),λ ho=>⟨rfl,nxt i hi hp λ h=>?_⟩⟩
   . have e:(!yPick i [D 0,D 1,D 2,D 3,D 4,D 5,D 6,D 7,D 8,D 9,D 10,D 11,B 0])=true:=e
     rw [pick12 i (by omega)] at e
     exact decide_eq_false λ hh=>by
      have:=hh i hi ho
      rw [this] at e;cases e
   . have e:(!yPick i [D 0,D 1,D 2,D 3,D 4,D 5,D 6,D 7,D 8,D 9,D 10,D 11,B 0])=false:=e
     rw [pick12 i (by omega)] at e
     exact ⟨rfl,nxt i hi hp λ _=>by simpa using e⟩
   . have ho:cqOv C i=false:=ho
     rw [ho] at h;cases h
 . have hi:=yLtF h
   exact decide_eq_true λ k hk=>hp.2 k (by omega)
theorem goalEn_tt:(goalEn)=True:=goalEn_eq.trans (eq_true goalEn_vc)
theorem goalEn_ok:goalEn:=@ft' goalEn goalEn_tt
def goalFrV:Prop:=(∀ (nc:Bool) (n:Nat) (C:CaS) (nk:Bool) (m:Nat) (K:Nat->Int) (D B:Nat->Bool) (V:Nat->Int) (i:Nat),smQ C n=true->yNlt i n=true->mst (yIn (yInt i) 12) (mst (yNlt (yNat (yInt i)) 13) ((yPick (yNat (yInt i)) [D 0,D 1,D 2,D 3,D 4,D 5,D 6,D 7,D 8,D 9,D 10,D 11,B 0]=true->frB C n D i=false)/\(yPick (yNat (yInt i)) [D 0,D 1,D 2,D 3,D 4,D 5,D 6,D 7,D 8,D 9,D 10,D 11,B 0]=false->mst (yNlt 0 1) (true=true/\(∃ (i0:Nat),prFq C n D i i0/\true=true/\yInt i0=(0:Int)/\true=true)/\∀ (g:Nat->AV) (i_1:Nat),prFq C n D i i_1->(yLt (yInt i_1) (yInt n)=true->mst (yIn (yInt i_1) n) (mst (yIn (yInt i_1) 12) (mst (yNlt (yNat (yInt i_1)) 13) ((yNot (yPick (yNat (yInt i_1)) [D 0,D 1,D 2,D 3,D 4,D 5,D 6,D 7,D 8,D 9,D 10,D 11,B 0])=true->mst (yNlt 0 1) (mst (yIn (yInt i) n) ((cqOv C (yNat (yInt i_1))=true->(yLt (cqTo C (yNat (yInt i_1))) (cqFr C (yNat (yInt i)))=true->frB C n D i=false)/\(yLt (cqTo C (yNat (yInt i_1))) (cqFr C (yNat (yInt i)))=false->true=true/\∃ (i':Nat),prFq C n D i i'/\Nat.succ (mEn n i')<=mEn n i_1/\true=true/\yInt i'=yWrap .i64 (yAdd (yInt i_1) 1)/\true=true))/\(cqOv C (yNat (yInt i_1))=false->true=true/\∃ (i':Nat),prFq C n D i i'/\Nat.succ (mEn n i')<=mEn n i_1/\true=true/\yInt i'=yWrap .i64 (yAdd (yInt i_1) 1)/\true=true))))/\(yNot (yPick (yNat (yInt i_1)) [D 0,D 1,D 2,D 3,D 4,D 5,D 6,D 7,D 8,D 9,D 10,D 11,B 0])=false->true=true/\∃ (i':Nat),prFq C n D i i'/\Nat.succ (mEn n i')<=mEn n i_1/\true=true/\yInt i'=yWrap .i64 (yAdd (yInt i_1) 1)/\true=true)))))/\(yLt (yInt i_1) (yInt n)=false->frB C n D i=true))))))
theorem goalFr_eq:goalFr=goalFrV:=by kernel_rfl
set_option maxHeartbeats 8000000 in
theorem goalFr_vc:goalFrV:=by
 unfold goalFrV
 intro nc n C nk m K D B V i hs hi
 obtain ⟨hn,_⟩:=of_decide_eq_true hs
 have hi:i < n:=of_decide_eq_true hi
 have nxt:∀ k,k < n->prFq C n D i k->(D k=false->¬ (cqOv C k=true/\cqTo C k < cqFr C i))->∃ (i':Nat),prFq C n D i i'/\Nat.succ (mEn n i')<=mEn n k/\true=true/\yInt i'=yWrap .i64 (yAdd (yInt k) (1:Int))/\true=true:=λ k hk hp h=>
  ⟨k + 1,⟨hk,hp.2.1,λ j hj=>by
   rcases Nat.lt_succ_iff_lt_or_eq.1 hj with h2 | rfl
   . exact hp.2.2 j h2
   . exact h⟩,by unfold mEn;omega,rfl,by show ((k + 1:Nat):Int)=yWrap .i64 ((k:Int) + 1);rw [wrap64 (by omega) (by omega)];omega,rfl⟩
 refine mstI (show yIn (yInt i) 12=true from yInN (by omega)) (mstI (decide_eq_true (show i < 13 by omega)) ⟨λ e=>?_,λ e=>?_⟩)
 . have e:yPick i [D 0,D 1,D 2,D 3,D 4,D 5,D 6,D 7,D 8,D 9,D 10,D 11,B 0]=true:=e
   rw [pick12 i (by omega)] at e
   exact decide_eq_false λ hh=>by rw [hh.1] at e;cases e
 . have e:yPick i [D 0,D 1,D 2,D 3,D 4,D 5,D 6,D 7,D 8,D 9,D 10,D 11,B 0]=false:=e
   rw [pick12 i (by omega)] at e
   refine mstI rfl ⟨rfl,⟨0,⟨Nat.zero_le _,e,λ k hk=>absurd hk (Nat.not_lt_zero _)⟩,rfl,rfl,rfl⟩,λ g k hp=>⟨λ h=>?_,λ h=>?_⟩⟩
   . have hk:=yLtN h
     refine mstI (yInN hk) (mstI (show yIn (yInt k) 12=true from yInN (by omega)) (mstI (decide_eq_true (show k < 13 by omega)) ⟨λ e2=>mstI rfl (mstI (yInN hi) ⟨λ ho=>⟨λ hl=>?_,λ hl=>⟨rfl,nxt k hk hp λ _ hh=>?_⟩⟩,λ ho=>⟨rfl,nxt k hk hp λ _ hh=>?_⟩⟩),λ e2=>⟨rfl,nxt k hk hp λ hd=>?_⟩⟩))
     . have e2:(!yPick k [D 0,D 1,D 2,D 3,D 4,D 5,D 6,D 7,D 8,D 9,D 10,D 11,B 0])=true:=e2
       rw [pick12 k (by omega)] at e2
       exact decide_eq_false λ hh=>hh.2 k hk (by simpa using e2) ⟨ho,of_decide_eq_true hl⟩
     . exact of_decide_eq_false hl hh.2
     . have ho:cqOv C k=false:=ho
       rw [ho] at hh;cases hh.1
     . have e2:(!yPick k [D 0,D 1,D 2,D 3,D 4,D 5,D 6,D 7,D 8,D 9,D 10,D 11,B 0])=false:=e2
       rw [pick12 k (by omega),hd] at e2;cases e2
   . have hk:=yLtF h
     exact decide_eq_true ⟨e,λ k hk=>hp.2.2 k (by omega)⟩
theorem goalFr_tt:(goalFr)=True:=goalFr_eq.trans (eq_true goalFr_vc)
theorem goalFr_ok:goalFr:=@ft' goalFr goalFr_tt
theorem goalFuL_eq:goalFuL=(∀ (id th ok key val hi most fr to:Int) (ov:Bool) (rk rv:Int) (nl:Bool) (n:Nat) (a0 a1:Nat->Int),yNle n (nat_lit 1000000)=true->(ov=true->(yEq ok (2:Int)=true->(yNle (yNadd 0 n) n=true->((yCol (CK.int .u64) n λ (i:Nat)=>AV.y .u64 (a0 i))=true->((yCol (CK.int .u64) n λ (i:Nat)=>AV.y .u64 (a1 i))=true->(yNle n (nat_lit 1000000)=true->fullE ov ok rk rv n a0 a1=sameRes rk rv n (λ (i:Nat)=>a0 i) (λ (i:Nat)=>a1 i) 3 0 0 (λ (i:Nat)=>(0:Int)) λ (i:Nat)=>(0:Int))/\(yNle n (nat_lit 1000000)=false->False))/\((yCol (CK.int .u64) n λ (i:Nat)=>AV.y .u64 (a1 i))=false->False))/\((yCol (CK.int .u64) n λ (i:Nat)=>AV.y .u64 (a0 i))=false->False))/\(yNle (yNadd 0 n) n=false->False))/\(yEq ok (2:Int)=false->fullE ov ok rk rv n a0 a1=false))/\(ov=false->fullE ov ok rk rv n a0 a1=false)):=by kernel_rfl
theorem goalFuL_ok:goalFu 69:=@fullE_ok _ goalFuL_eq
theorem doLB_full {C:CaS}{i k q:Nat}{B:Nat->Bool}(h:doLF C i=true):doLB C i k B q=B q:=by unfold doLB;rw [h];rfl
theorem doLV_full {C:CaS}{i k q:Nat}{V:Nat->Int}(h:doLF C i=true):doLV C i k V q=V q:=by unfold doLV;rw [h];rfl
theorem doLB_put {C:CaS}{i k q:Nat}{B:Nat->Bool}(h:doLF C i=false)(h2:cqOk C i=2):doLB C i k B q=ySelB (yNeq k q) true (B q):=by unfold doLB;rw [h,if_pos h2];rfl
theorem doLV_put {C:CaS}{i k q:Nat}{V:Nat->Int}(h:doLF C i=false)(h2:cqOk C i=2):doLV C i k V q=ySel (yNeq k q) (cqVal C i) (V q):=by unfold doLV;rw [h,if_pos h2];rfl
theorem doLB_del {C:CaS}{i k q:Nat}{B:Nat->Bool}(h:doLF C i=false)(h2:cqOk C i=3):doLB C i k B q=ySelB (yNeq k q) false (B q):=by unfold doLB;rw [h,if_neg (by omega),if_pos h2];rfl
theorem doLV_del {C:CaS}{i k q:Nat}{V:Nat->Int}(h:doLF C i=false)(h2:cqOk C i=3):doLV C i k V q=ySel (yNeq k q) 0 (V q):=by unfold doLV;rw [h,if_neg (by omega),if_pos h2];rfl
theorem doLB_oth {C:CaS}{i k q:Nat}{B:Nat->Bool}(h:doLF C i=false)(h2:cqOk C i ≠ 2)(h3:cqOk C i ≠ 3):doLB C i k B q=B q:=by
 unfold doLB;rw [h,if_neg h2,if_neg h3];cases decide (k=q) <;> rfl
theorem doLV_oth {C:CaS}{i k q:Nat}{V:Nat->Int}(h:doLF C i=false)(h2:cqOk C i ≠ 2)(h3:cqOk C i ≠ 3):doLV C i k V q=V q:=by
 unfold doLV;rw [h,if_neg h2,if_neg h3];cases decide (k=q) <;> rfl
theorem doLO_full {C:CaS}{i k:Nat}{B:Nat->Bool}{V:Nat->Int}(h:doLF C i=true):doLO C i k B V=true:=by unfold doLO;rw [h];rfl
theorem doLO_open {C:CaS}{i k:Nat}{B:Nat->Bool}{V:Nat->Int}(h:doLF C i=false)(ho:cqOv C i=false):doLO C i k B V=true:=by unfold doLO;rw [h,ho];rfl
theorem doLO_t {C:CaS}{i k:Nat}{B:Nat->Bool}{V:Nat->Int}(h:doLF C i=false)(ho:cqOv C i=true)(hb:B k=true):doLO C i k B V=sameRes 2 (V k) 0 (λ _=>0) (λ _=>0) (cqRk C i) (cqRv C i) (cqPn C i) (cqPk C i) (cqPv C i):=by unfold doLO;rw [h,ho,hb];rfl
theorem doLO_f {C:CaS}{i k:Nat}{B:Nat->Bool}{V:Nat->Int}(h:doLF C i=false)(ho:cqOv C i=true)(hb:B k=false):doLO C i k B V=sameRes 1 0 0 (λ _=>0) (λ _=>0) (cqRk C i) (cqRv C i) (cqPn C i) (cqPk C i) (cqPv C i):=by unfold doLO;rw [h,ho,hb];rfl
theorem mk1_t {D:Nat->Bool}{i:Nat}(h:D i=true)(j:Nat):mk1 D (i + 1) j=ySel (yNeq i j) 1 (mk1 D i j):=by
 unfold mk1 yNeq ySel yAnd
 by_cases hj:i=j
 . subst hj;rw [h];simp
 . have:decide (j < i + 1)=decide (j < i):=by rw [decide_eq_decide];omega
   rw [this];simp [hj]
theorem mk1_f {D:Nat->Bool}{i:Nat}(h:D i=false)(j:Nat):mk1 D (i + 1) j=mk1 D i j:=by
 unfold mk1
 by_cases hj:i=j
 . subst hj;rw [h];simp [yAnd]
 . have:decide (j < i + 1)=decide (j < i):=by rw [decide_eq_decide];omega
   rw [this]
theorem mk3_t {B:Nat->Bool}{V:Nat->Int}{i:Nat}(h:B i=true)(j:Nat):mk3 B V (i + 1) j=ySel (yNeq i j) (V i) (mk3 B V i j):=by
 unfold mk3 yNeq ySel yAnd
 by_cases hj:i=j
 . subst hj;rw [h];simp
 . have:decide (j < i + 1)=decide (j < i):=by rw [decide_eq_decide];omega
   rw [this];simp [hj]
theorem mk3_f {B:Nat->Bool}{V:Nat->Int}{i:Nat}(h:B i=false)(j:Nat):mk3 B V (i + 1) j=mk3 B V i j:=by
 unfold mk3
 by_cases hj:i=j
 . subst hj;rw [h];simp [yAnd]
 . have:decide (j < i + 1)=decide (j < i):=by rw [decide_eq_decide];omega
   rw [this]
theorem fxI_ltq (n:Nat)(p:Nat->Bool):fxI n p=-1 ∨ (0<=fxI n p/\fxI n p < n):=by
 unfold fxI
 split
 . rename_i i h
   have:=List.mem_range.1 (List.mem_of_find?_eq_some h)
   exact .inr ⟨by omega,by omega⟩
 . exact .inl rfl
def goalDo_3 (m:Nat)(K:Nat->Int)(C:CaS)(i:Nat):=fxI m (keB (λ (i:Nat)=>K i) (cqKey C (yNat (yInt i))))
def goalDo_0 (D:Nat->Bool)(i:Nat)(C:CaS)(m:Nat)(K:Nat->Int)(B:Nat->Bool)(V:Nat->Int):=doLD D i (nat_lit 0)=ySelB (yNeq (yNat (yInt i)) 0) true (D 0)/\doLD D i (nat_lit 1)=ySelB (yNeq (yNat (yInt i)) 1) true (D 1)/\doLD D i (nat_lit 2)=ySelB (yNeq (yNat (yInt i)) 2) true (D 2)/\doLD D i (nat_lit 3)=ySelB (yNeq (yNat (yInt i)) 3) true (D 3)/\doLD D i (nat_lit 4)=ySelB (yNeq (yNat (yInt i)) 4) true (D 4)/\doLD D i (nat_lit 5)=ySelB (yNeq (yNat (yInt i)) 5) true (D 5)/\doLD D i (nat_lit 6)=ySelB (yNeq (yNat (yInt i)) 6) true (D 6)/\doLD D i (nat_lit 7)=ySelB (yNeq (yNat (yInt i)) 7) true (D 7)/\doLD D i (nat_lit 8)=ySelB (yNeq (yNat (yInt i)) 8) true (D 8)/\doLD D i (nat_lit 9)=ySelB (yNeq (yNat (yInt i)) 9) true (D 9)/\doLD D i (nat_lit 10)=ySelB (yNeq (yNat (yInt i)) 10) true (D 10)/\doLD D i (nat_lit 11)=ySelB (yNeq (yNat (yInt i)) 11) true (D 11)/\doLB C i (yNat (fxI m (keB K (cqKey C i)))) B (nat_lit 0)=ySelB (yNeq (yNat (goalDo_3 m K C i)) 0) true (ySelB (yNeq (yNat (yInt i)) 12) true (B 0))/\doLV C i (yNat (fxI m (keB K (cqKey C i)))) V (nat_lit 0)=ySel (yNeq (yNat (goalDo_3 m K C i)) 0) (cqVal C (yNat (yInt i))) (V 0)/\doLB C i (yNat (fxI m (keB K (cqKey C i)))) B (nat_lit 1)=ySelB (yNeq (yNat (goalDo_3 m K C i)) 1) true (B 1)/\doLV C i (yNat (fxI m (keB K (cqKey C i)))) V (nat_lit 1)=ySel (yNeq (yNat (goalDo_3 m K C i)) 1) (cqVal C (yNat (yInt i))) (V 1)/\doLB C i (yNat (fxI m (keB K (cqKey C i)))) B (nat_lit 2)=ySelB (yNeq (yNat (goalDo_3 m K C i)) 2) true (B 2)/\doLV C i (yNat (fxI m (keB K (cqKey C i)))) V (nat_lit 2)=ySel (yNeq (yNat (goalDo_3 m K C i)) 2) (cqVal C (yNat (yInt i))) (V 2)/\doLB C i (yNat (fxI m (keB K (cqKey C i)))) B (nat_lit 3)=ySelB (yNeq (yNat (goalDo_3 m K C i)) 3) true (B 3)/\doLV C i (yNat (fxI m (keB K (cqKey C i)))) V (nat_lit 3)=ySel (yNeq (yNat (goalDo_3 m K C i)) 3) (cqVal C (yNat (yInt i))) (V 3)/\doLB C i (yNat (fxI m (keB K (cqKey C i)))) B (nat_lit 4)=ySelB (yNeq (yNat (goalDo_3 m K C i)) 4) true (B 4)/\doLV C i (yNat (fxI m (keB K (cqKey C i)))) V (nat_lit 4)=ySel (yNeq (yNat (goalDo_3 m K C i)) 4) (cqVal C (yNat (yInt i))) (V 4)/\doLB C i (yNat (fxI m (keB K (cqKey C i)))) B (nat_lit 5)=ySelB (yNeq (yNat (goalDo_3 m K C i)) 5) true (B 5)/\doLV C i (yNat (fxI m (keB K (cqKey C i)))) V (nat_lit 5)=ySel (yNeq (yNat (goalDo_3 m K C i)) 5) (cqVal C (yNat (yInt i))) (V 5)/\True
def goalDo_1 (D:Nat->Bool)(i:Nat)(C:CaS)(m:Nat)(K:Nat->Int)(B:Nat->Bool)(V:Nat->Int):=doLD D i (nat_lit 0)=ySelB (yNeq (yNat (yInt i)) 0) true (D 0)/\doLD D i (nat_lit 1)=ySelB (yNeq (yNat (yInt i)) 1) true (D 1)/\doLD D i (nat_lit 2)=ySelB (yNeq (yNat (yInt i)) 2) true (D 2)/\doLD D i (nat_lit 3)=ySelB (yNeq (yNat (yInt i)) 3) true (D 3)/\doLD D i (nat_lit 4)=ySelB (yNeq (yNat (yInt i)) 4) true (D 4)/\doLD D i (nat_lit 5)=ySelB (yNeq (yNat (yInt i)) 5) true (D 5)/\doLD D i (nat_lit 6)=ySelB (yNeq (yNat (yInt i)) 6) true (D 6)/\doLD D i (nat_lit 7)=ySelB (yNeq (yNat (yInt i)) 7) true (D 7)/\doLD D i (nat_lit 8)=ySelB (yNeq (yNat (yInt i)) 8) true (D 8)/\doLD D i (nat_lit 9)=ySelB (yNeq (yNat (yInt i)) 9) true (D 9)/\doLD D i (nat_lit 10)=ySelB (yNeq (yNat (yInt i)) 10) true (D 10)/\doLD D i (nat_lit 11)=ySelB (yNeq (yNat (yInt i)) 11) true (D 11)/\doLB C i (yNat (fxI m (keB K (cqKey C i)))) B (nat_lit 0)=ySelB (yNeq (yNat (goalDo_3 m K C i)) 0) false (ySelB (yNeq (yNat (yInt i)) 12) true (B 0))/\doLV C i (yNat (fxI m (keB K (cqKey C i)))) V (nat_lit 0)=ySel (yNeq (yNat (goalDo_3 m K C i)) 0) 0 (V 0)/\doLB C i (yNat (fxI m (keB K (cqKey C i)))) B (nat_lit 1)=ySelB (yNeq (yNat (goalDo_3 m K C i)) 1) false (B 1)/\doLV C i (yNat (fxI m (keB K (cqKey C i)))) V (nat_lit 1)=ySel (yNeq (yNat (goalDo_3 m K C i)) 1) 0 (V 1)/\doLB C i (yNat (fxI m (keB K (cqKey C i)))) B (nat_lit 2)=ySelB (yNeq (yNat (goalDo_3 m K C i)) 2) false (B 2)/\doLV C i (yNat (fxI m (keB K (cqKey C i)))) V (nat_lit 2)=ySel (yNeq (yNat (goalDo_3 m K C i)) 2) 0 (V 2)/\doLB C i (yNat (fxI m (keB K (cqKey C i)))) B (nat_lit 3)=ySelB (yNeq (yNat (goalDo_3 m K C i)) 3) false (B 3)/\doLV C i (yNat (fxI m (keB K (cqKey C i)))) V (nat_lit 3)=ySel (yNeq (yNat (goalDo_3 m K C i)) 3) 0 (V 3)/\doLB C i (yNat (fxI m (keB K (cqKey C i)))) B (nat_lit 4)=ySelB (yNeq (yNat (goalDo_3 m K C i)) 4) false (B 4)/\doLV C i (yNat (fxI m (keB K (cqKey C i)))) V (nat_lit 4)=ySel (yNeq (yNat (goalDo_3 m K C i)) 4) 0 (V 4)/\doLB C i (yNat (fxI m (keB K (cqKey C i)))) B (nat_lit 5)=ySelB (yNeq (yNat (goalDo_3 m K C i)) 5) false (B 5)/\doLV C i (yNat (fxI m (keB K (cqKey C i)))) V (nat_lit 5)=ySel (yNeq (yNat (goalDo_3 m K C i)) 5) 0 (V 5)/\True
def goalDo_2 (D:Nat->Bool)(i:Nat)(C:CaS)(m:Nat)(K:Nat->Int)(B:Nat->Bool)(V:Nat->Int):=doLD D i (nat_lit 0)=ySelB (yNeq (yNat (yInt i)) 0) true (D 0)/\doLD D i (nat_lit 1)=ySelB (yNeq (yNat (yInt i)) 1) true (D 1)/\doLD D i (nat_lit 2)=ySelB (yNeq (yNat (yInt i)) 2) true (D 2)/\doLD D i (nat_lit 3)=ySelB (yNeq (yNat (yInt i)) 3) true (D 3)/\doLD D i (nat_lit 4)=ySelB (yNeq (yNat (yInt i)) 4) true (D 4)/\doLD D i (nat_lit 5)=ySelB (yNeq (yNat (yInt i)) 5) true (D 5)/\doLD D i (nat_lit 6)=ySelB (yNeq (yNat (yInt i)) 6) true (D 6)/\doLD D i (nat_lit 7)=ySelB (yNeq (yNat (yInt i)) 7) true (D 7)/\doLD D i (nat_lit 8)=ySelB (yNeq (yNat (yInt i)) 8) true (D 8)/\doLD D i (nat_lit 9)=ySelB (yNeq (yNat (yInt i)) 9) true (D 9)/\doLD D i (nat_lit 10)=ySelB (yNeq (yNat (yInt i)) 10) true (D 10)/\doLD D i (nat_lit 11)=ySelB (yNeq (yNat (yInt i)) 11) true (D 11)/\doLB C i (yNat (fxI m (keB K (cqKey C i)))) B (nat_lit 0)=ySelB (yNeq (yNat (yInt i)) 12) true (B 0)/\doLV C i (yNat (fxI m (keB K (cqKey C i)))) V (nat_lit 0)=V 0/\doLB C i (yNat (fxI m (keB K (cqKey C i)))) B (nat_lit 1)=B 1/\doLV C i (yNat (fxI m (keB K (cqKey C i)))) V (nat_lit 1)=V 1/\doLB C i (yNat (fxI m (keB K (cqKey C i)))) B (nat_lit 2)=B 2/\doLV C i (yNat (fxI m (keB K (cqKey C i)))) V (nat_lit 2)=V 2/\doLB C i (yNat (fxI m (keB K (cqKey C i)))) B (nat_lit 3)=B 3/\doLV C i (yNat (fxI m (keB K (cqKey C i)))) V (nat_lit 3)=V 3/\doLB C i (yNat (fxI m (keB K (cqKey C i)))) B (nat_lit 4)=B 4/\doLV C i (yNat (fxI m (keB K (cqKey C i)))) V (nat_lit 4)=V 4/\doLB C i (yNat (fxI m (keB K (cqKey C i)))) B (nat_lit 5)=B 5/\doLV C i (yNat (fxI m (keB K (cqKey C i)))) V (nat_lit 5)=V 5/\True
def goalDo_4 (C:CaS)(i:Nat):=yCol (CK.int .u64) (cqPn C (yNat (yInt i))) λ (i_1:Nat)=>AV.y .u64 (cqPk C (yNat (yInt i)) i_1)
def goalDo_5 (C:CaS)(i:Nat):=yCol (CK.int .u64) (cqPn C (yNat (yInt i))) λ (i_1:Nat)=>AV.y .u64 (cqPv C (yNat (yInt i)) i_1)
def goalDo_6 (C:CaS)(i:Nat):=fullE (cqOv C (yNat (yInt i))) (cqOk C (yNat (yInt i))) (cqRk C (yNat (yInt i))) (cqRv C (yNat (yInt i))) (cqPn C (yNat (yInt i))) (λ (i_1:Nat)=>cqPk C (yNat (yInt i)) i_1) λ (i_1:Nat)=>cqPv C (yNat (yInt i)) i_1
def goalDoV:Prop:=(∀ (nc:Bool) (n:Nat) (C:CaS) (nk:Bool) (m:Nat) (K:Nat->Int) (D B:Nat->Bool) (V:Nat->Int) (i:Nat),smQ C n=true->smK C n K m=true->yNlt i n=true->mst (yNlt 0 1) (mst (yIn (yInt i) n) (mst (yIn (yInt i) 12) (mst (yNlt (yNat (yInt i)) 13) (mst (goalDo_4 C i) (mst (goalDo_5 C i) (mst (yNle (cqPn C (yNat (yInt i))) 1000000) (((goalDo_6 C i)=true->(goalDo_2 D i C m K B V)/\doLO C i (yNat (fxI m (keB K (cqKey C i)))) B V=true)/\((goalDo_6 C i)=false->mst (yNlt 0 1) (mst (yCol (CK.int .u64) m λ (i:Nat)=>AV.y .u64 (K i)) (mst (yNle m 1000000) (mst (yIn (goalDo_3 m K C i) 6) (mst (yNlt (yNat (goalDo_3 m K C i)) 6) (mst (yNlt (yNat (goalDo_3 m K C i)) 6) ((yPick (yNat (goalDo_3 m K C i)) [ySelB (yNeq (yNat (yInt i)) 12) true (B 0),B 1,B 2,B 3,B 4,B 5]=true->(yEq (cqOk C (yNat (yInt i))) (2:Int)=true->mst (yIn (goalDo_3 m K C i) 6) (mst (yNlt (yNat (goalDo_3 m K C i)) 6) ((yNot (cqOv C (yNat (yInt i)))=true->(goalDo_0 D i C m K B V)/\doLO C i (yNat (fxI m (keB K (cqKey C i)))) B V=true)/\(yNot (cqOv C (yNat (yInt i)))=false->mst (goalDo_4 C i) (mst (goalDo_5 C i) (mst (yNle 0 1000000) ((goalDo_0 D i C m K B V)/\doLO C i (yNat (fxI m (keB K (cqKey C i)))) B V=sameRes 2 (yPickI (yNat (goalDo_3 m K C i)) [V 0,V 1,V 2,V 3,V 4,V 5]) 0 (λ (i:Nat)=>(0:Int)) (λ (i:Nat)=>(0:Int)) (cqRk C (yNat (yInt i))) (cqRv C (yNat (yInt i))) (cqPn C (yNat (yInt i))) (λ (i_1:Nat)=>cqPk C (yNat (yInt i)) i_1) λ (i_1:Nat)=>cqPv C (yNat (yInt i)) i_1)))))))/\(yEq (cqOk C (yNat (yInt i))) (2:Int)=false->(yEq (cqOk C (yNat (yInt i))) (3:Int)=true->mst (yIn (goalDo_3 m K C i) 6) (mst (yNlt (yNat (goalDo_3 m K C i)) 6) ((yNot (cqOv C (yNat (yInt i)))=true->(goalDo_1 D i C m K B V)/\doLO C i (yNat (fxI m (keB K (cqKey C i)))) B V=true)/\(yNot (cqOv C (yNat (yInt i)))=false->mst (goalDo_4 C i) (mst (goalDo_5 C i) (mst (yNle 0 1000000) ((goalDo_1 D i C m K B V)/\doLO C i (yNat (fxI m (keB K (cqKey C i)))) B V=sameRes 2 (yPickI (yNat (goalDo_3 m K C i)) [V 0,V 1,V 2,V 3,V 4,V 5]) 0 (λ (i:Nat)=>(0:Int)) (λ (i:Nat)=>(0:Int)) (cqRk C (yNat (yInt i))) (cqRv C (yNat (yInt i))) (cqPn C (yNat (yInt i))) (λ (i_1:Nat)=>cqPk C (yNat (yInt i)) i_1) λ (i_1:Nat)=>cqPv C (yNat (yInt i)) i_1)))))))/\(yEq (cqOk C (yNat (yInt i))) (3:Int)=false->(yNot (cqOv C (yNat (yInt i)))=true->(goalDo_2 D i C m K B V)/\doLO C i (yNat (fxI m (keB K (cqKey C i)))) B V=true)/\(yNot (cqOv C (yNat (yInt i)))=false->mst (goalDo_4 C i) (mst (goalDo_5 C i) (mst (yNle 0 1000000) ((goalDo_2 D i C m K B V)/\doLO C i (yNat (fxI m (keB K (cqKey C i)))) B V=sameRes 2 (yPickI (yNat (goalDo_3 m K C i)) [V 0,V 1,V 2,V 3,V 4,V 5]) 0 (λ (i:Nat)=>(0:Int)) (λ (i:Nat)=>(0:Int)) (cqRk C (yNat (yInt i))) (cqRv C (yNat (yInt i))) (cqPn C (yNat (yInt i))) (λ (i_1:Nat)=>cqPk C (yNat (yInt i)) i_1) λ (i_1:Nat)=>cqPv C (yNat (yInt i)) i_1)))))))/\(yPick (yNat (goalDo_3 m K C i)) [ySelB (yNeq (yNat (yInt i)) 12) true (B 0),B 1,B 2,B 3,B 4,B 5]=false->(yEq (cqOk C (yNat (yInt i))) (2:Int)=true->mst (yIn (goalDo_3 m K C i) 6) (mst (yNlt (yNat (goalDo_3 m K C i)) 6) ((yNot (cqOv C (yNat (yInt i)))=true->(goalDo_0 D i C m K B V)/\doLO C i (yNat (fxI m (keB K (cqKey C i)))) B V=true)/\(yNot (cqOv C (yNat (yInt i)))=false->mst (goalDo_4 C i) (mst (goalDo_5 C i) (mst (yNle 0 1000000) ((goalDo_0 D i C m K B V)/\doLO C i (yNat (fxI m (keB K (cqKey C i)))) B V=sameRes 1 0 0 (λ (i:Nat)=>(0:Int)) (λ (i:Nat)=>(0:Int)) (cqRk C (yNat (yInt i))) (cqRv C (yNat (yInt i))) (cqPn C (yNat (yInt i))) (λ (i_1:Nat)=>cqPk C (yNat (yInt i)) i_1) λ (i_1:Nat)=>cqPv C (yNat (yInt i)) i_1)))))))/\(yEq (cqOk C (yNat (yInt i))) (2:Int)=false->(yEq (cqOk C (yNat (yInt i))) (3:Int)=true->mst (yIn (goalDo_3 m K C i) 6) (mst (yNlt (yNat (goalDo_3 m K C i)) 6) ((yNot (cqOv C (yNat (yInt i)))=true->(goalDo_1 D i C m K B V)/\doLO C i (yNat (fxI m (keB K (cqKey C i)))) B V=true)/\(yNot (cqOv C (yNat (yInt i)))=false->mst (goalDo_4 C i) (mst (goalDo_5 C i) (mst (yNle 0 1000000) ((goalDo_1 D i C m K B V)/\doLO C i (yNat (fxI m (keB K (cqKey C i)))) B V=sameRes 1 0 0 (λ (i:Nat)=>(0:Int)) (λ (i:Nat)=>(0:Int)) (cqRk C (yNat (yInt i))) (cqRv C (yNat (yInt i))) (cqPn C (yNat (yInt i))) (λ (i_1:Nat)=>cqPk C (yNat (yInt i)) i_1) λ (i_1:Nat)=>cqPv C (yNat (yInt i)) i_1)))))))/\(yEq (cqOk C (yNat (yInt i))) (3:Int)=false->(yNot (cqOv C (yNat (yInt i)))=true->(goalDo_2 D i C m K B V)/\doLO C i (yNat (fxI m (keB K (cqKey C i)))) B V=true)/\(yNot (cqOv C (yNat (yInt i)))=false->mst (goalDo_4 C i) (mst (goalDo_5 C i) (mst (yNle 0 1000000) ((goalDo_2 D i C m K B V)/\doLO C i (yNat (fxI m (keB K (cqKey C i)))) B V=sameRes 1 0 0 (λ (i:Nat)=>(0:Int)) (λ (i:Nat)=>(0:Int)) (cqRk C (yNat (yInt i))) (cqRv C (yNat (yInt i))) (cqPn C (yNat (yInt i))) (λ (i_1:Nat)=>cqPk C (yNat (yInt i)) i_1) λ (i_1:Nat)=>cqPv C (yNat (yInt i)) i_1))))))))))))))))))))))
theorem goalDo_eq:goalDo=goalDoV:=by kernel_rfl
set_option maxHeartbeats 8000000 in
theorem goalDo_vc:goalDoV:=by
 unfold goalDoV goalDo_6 goalDo_5 goalDo_4 goalDo_2 goalDo_1 goalDo_0 goalDo_3
 intro nc n C nk m K D B V i hs hk hi
 obtain ⟨hn,hp⟩:=of_decide_eq_true hs
 obtain ⟨hm,hx⟩:=of_decide_eq_true hk
 have hi:i < n:=of_decide_eq_true hi
 have hx:=hx i hi
 have hx2:fxI m (keB K (cqKey C i)) < 6:=by rcases fxI_ltq m (keB K (cqKey C i)) with h | h <;> omega
 obtain ⟨k,hkk⟩:∃ k:Nat,fxI m (keB K (cqKey C i))=(k:Int):=⟨_,(Int.toNat_of_nonneg hx).symm⟩
 have hk6:k < 6:=by omega
 have n12:yNeq (yNat (yInt i)) 12=false:=decide_eq_false (show ¬ i=12 by omega)
 have hkn:yNat (goalDo_3 m K C i)=k:=by show (fxI m (keB K (cqKey C i))).toNat=k;rw [hkk];rfl
 have hkn2:yNat (fxI m (keB K (cqKey C i)))=k:=hkn
 have pkB:yPick (yNat (goalDo_3 m K C i)) [ySelB (yNeq (yNat (yInt i)) 12) true (B 0),B 1,B 2,B 3,B 4,B 5]=B k:=by rw [n12,hkn];exact pick6 k hk6
 have pkV:yPickI (yNat (goalDo_3 m K C i)) [V 0,V 1,V 2,V 3,V 4,V 5]=V k:=by rw [hkn];exact pick6I k hk6
 have i6:yIn (goalDo_3 m K C i) 6=true:=decide_eq_true ⟨hx,hx2⟩
 have l6:yNlt (yNat (goalDo_3 m K C i)) 6=true:=by rw [hkn];exact decide_eq_true hk6
 have l2:(∀ q,doLB C i (yNat (fxI m (keB K (cqKey C i)))) B q=B q)->(∀ q,doLV C i (yNat (fxI m (keB K (cqKey C i)))) V q=V q)->goalDo_2 D i C m K B V:=λ hB hV=>by
  unfold goalDo_2
  rw [n12]
  repeat' (first | exact trivial | exact hB _ | exact hV _ | rfl | apply And.intro)
 have l0:(∀ q,doLB C i (yNat (fxI m (keB K (cqKey C i)))) B q=ySelB (yNeq (yNat (fxI m (keB K (cqKey C i)))) q) true (B q))->(∀ q,doLV C i (yNat (fxI m (keB K (cqKey C i)))) V q=ySel (yNeq (yNat (fxI m (keB K (cqKey C i)))) q) (cqVal C i) (V q))->goalDo_0 D i C m K B V:=λ hB hV=>by
  unfold goalDo_0
  rw [n12]
  repeat' (first | exact trivial | exact hB _ | exact hV _ | rfl | apply And.intro)
 have l1:(∀ q,doLB C i (yNat (fxI m (keB K (cqKey C i)))) B q=ySelB (yNeq (yNat (fxI m (keB K (cqKey C i)))) q) false (B q))->(∀ q,doLV C i (yNat (fxI m (keB K (cqKey C i)))) V q=ySel (yNeq (yNat (fxI m (keB K (cqKey C i)))) q) 0 (V q))->goalDo_1 D i C m K B V:=λ hB hV=>by
  unfold goalDo_1
  rw [n12]
  repeat' (first | exact trivial | exact hB _ | exact hV _ | rfl | apply And.intro)
 have no:∀ {b:Bool},yNot b=true->b=false:=λ h=>by simpa [yNot] using h
 have ye:∀ {b:Bool},yNot b=false->b=true:=λ h=>by simpa [yNot] using h
 refine mstI rfl (mstI (yInN hi) (mstI (show yIn (yInt i) 12=true from yInN (by omega)) (mstI (decide_eq_true (show i < 13 by omega)) (mstI yCol_int (mstI yCol_int (mstI (decide_eq_true (hp i hi)) ⟨λ hf=>?_,λ hf=>?_⟩))))))
 . have hf:doLF C i=true:=hf
   exact ⟨l2 (λ q=>doLB_full hf) (λ q=>doLV_full hf),doLO_full hf⟩
 . have hf:doLF C i=false:=hf
   refine mstI rfl (mstI yCol_int (mstI (decide_eq_true (show m<=1000000 by omega)) (mstI i6 (mstI l6 (mstI l6 ⟨λ e=>?_,λ e=>?_⟩)))))
   . have hb:B k=true:=pkB.symm.trans e
     have ot:cqOv C i=true->doLO C i (yNat (fxI m (keB K (cqKey C i)))) B V=sameRes 2 (yPickI (yNat (goalDo_3 m K C i)) [V 0,V 1,V 2,V 3,V 4,V 5]) 0 (λ _=>0) (λ _=>0) (cqRk C i) (cqRv C i) (cqPn C i) (cqPk C i) (cqPv C i):=λ ho=>by rw [pkV,hkn2];exact doLO_t hf ho hb
     refine ⟨λ h2=>mstI i6 (mstI l6 ⟨λ ho=>?_,λ ho=>mstI yCol_int (mstI yCol_int (mstI rfl ?_))⟩),λ h2=>⟨λ h3=>mstI i6 (mstI l6 ⟨λ ho=>?_,λ ho=>mstI yCol_int (mstI yCol_int (mstI rfl ?_))⟩),λ h3=>⟨λ ho=>?_,λ ho=>mstI yCol_int (mstI yCol_int (mstI rfl ?_))⟩⟩⟩
     . exact ⟨l0 (λ q=>doLB_put hf (of_decide_eq_true h2)) (λ q=>doLV_put hf (of_decide_eq_true h2)),doLO_open hf (no ho)⟩
     . exact ⟨l0 (λ q=>doLB_put hf (of_decide_eq_true h2)) (λ q=>doLV_put hf (of_decide_eq_true h2)),ot (ye ho)⟩
     . exact ⟨l1 (λ q=>doLB_del hf (of_decide_eq_true h3)) (λ q=>doLV_del hf (of_decide_eq_true h3)),doLO_open hf (no ho)⟩
     . exact ⟨l1 (λ q=>doLB_del hf (of_decide_eq_true h3)) (λ q=>doLV_del hf (of_decide_eq_true h3)),ot (ye ho)⟩
     . exact ⟨l2 (λ q=>doLB_oth hf (of_decide_eq_false h2) (of_decide_eq_false h3)) (λ q=>doLV_oth hf (of_decide_eq_false h2) (of_decide_eq_false h3)),doLO_open hf (no ho)⟩
     . exact ⟨l2 (λ q=>doLB_oth hf (of_decide_eq_false h2) (of_decide_eq_false h3)) (λ q=>doLV_oth hf (of_decide_eq_false h2) (of_decide_eq_false h3)),ot (ye ho)⟩
   . have hb:B k=false:=pkB.symm.trans e
     have ot:cqOv C i=true->doLO C i (yNat (fxI m (keB K (cqKey C i)))) B V=sameRes 1 0 0 (λ _=>0) (λ _=>0) (cqRk C i) (cqRv C i) (cqPn C i) (cqPk C i) (cqPv C i):=λ ho=>by rw [hkn2];exact doLO_f hf ho hb
     refine ⟨λ h2=>mstI i6 (mstI l6 ⟨λ ho=>?_,λ ho=>mstI yCol_int (mstI yCol_int (mstI rfl ?_))⟩),λ h2=>⟨λ h3=>mstI i6 (mstI l6 ⟨λ ho=>?_,λ ho=>mstI yCol_int (mstI yCol_int (mstI rfl ?_))⟩),λ h3=>⟨λ ho=>?_,λ ho=>mstI yCol_int (mstI yCol_int (mstI rfl ?_))⟩⟩⟩
     . exact ⟨l0 (λ q=>doLB_put hf (of_decide_eq_true h2)) (λ q=>doLV_put hf (of_decide_eq_true h2)),doLO_open hf (no ho)⟩
     . exact ⟨l0 (λ q=>doLB_put hf (of_decide_eq_true h2)) (λ q=>doLV_put hf (of_decide_eq_true h2)),ot (ye ho)⟩
     . exact ⟨l1 (λ q=>doLB_del hf (of_decide_eq_true h3)) (λ q=>doLV_del hf (of_decide_eq_true h3)),doLO_open hf (no ho)⟩
     . exact ⟨l1 (λ q=>doLB_del hf (of_decide_eq_true h3)) (λ q=>doLV_del hf (of_decide_eq_true h3)),ot (ye ho)⟩
     . exact ⟨l2 (λ q=>doLB_oth hf (of_decide_eq_false h2) (of_decide_eq_false h3)) (λ q=>doLV_oth hf (of_decide_eq_false h2) (of_decide_eq_false h3)),doLO_open hf (no ho)⟩
     . exact ⟨l2 (λ q=>doLB_oth hf (of_decide_eq_false h2) (of_decide_eq_false h3)) (λ q=>doLV_oth hf (of_decide_eq_false h2) (of_decide_eq_false h3)),ot (ye ho)⟩
theorem goalDo_tt:(goalDo)=True:=goalDo_eq.trans (eq_true goalDo_vc)
theorem goalDo_ok:goalDo:=@ft' goalDo goalDo_tt
def goalMk_0 (i:Nat):=yWrap .i64 (yAdd 12 (yWrap .i64 (yMul 2 (yInt i))))
def goalMk_1 (i:Nat)(V:Nat->Int):=yPickI (yNat (yInt i)) [V 0,V 1,V 2,V 3,V 4,V 5]
def goalMkV:Prop:=(∀ (D B:Nat->Bool) (V:Nat->Int),true=true/\(∃ (i0:Nat),prMk 12 i0/\true=true/\yInt i0=(0:Int)/\mk1 D i0 (nat_lit 0)=(0:Int)/\mk1 D i0 (nat_lit 1)=(0:Int)/\mk1 D i0 (nat_lit 2)=(0:Int)/\mk1 D i0 (nat_lit 3)=(0:Int)/\mk1 D i0 (nat_lit 4)=(0:Int)/\mk1 D i0 (nat_lit 5)=(0:Int)/\mk1 D i0 (nat_lit 6)=(0:Int)/\mk1 D i0 (nat_lit 7)=(0:Int)/\mk1 D i0 (nat_lit 8)=(0:Int)/\mk1 D i0 (nat_lit 9)=(0:Int)/\mk1 D i0 (nat_lit 10)=(0:Int)/\mk1 D i0 (nat_lit 11)=(0:Int)/\mk2 B 0 (nat_lit 0)=(0:Int)/\mk3 B V 0 (nat_lit 0)=(0:Int)/\mk2 B 0 (nat_lit 1)=(0:Int)/\mk3 B V 0 (nat_lit 1)=(0:Int)/\mk2 B 0 (nat_lit 2)=(0:Int)/\mk3 B V 0 (nat_lit 2)=(0:Int)/\mk2 B 0 (nat_lit 3)=(0:Int)/\mk3 B V 0 (nat_lit 3)=(0:Int)/\mk2 B 0 (nat_lit 4)=(0:Int)/\mk3 B V 0 (nat_lit 4)=(0:Int)/\mk2 B 0 (nat_lit 5)=(0:Int)/\mk3 B V 0 (nat_lit 5)=(0:Int)/\true=true)/\∀ (g:Nat->AV) (i:Nat),prMk 12 i->(yLt (yInt i) (12:Int)=true->mst (yIn (yInt i) 12) (mst (yNlt (yNat (yInt i)) 12) ((yPick (yNat (yInt i)) [D 0,D 1,D 2,D 3,D 4,D 5,D 6,D 7,D 8,D 9,D 10,D 11]=true->mst (yIn (yInt i) 24) (mst (yNlt (yNat (yInt i)) 24) (true=true/\∃ (i':Nat),prMk 12 i'/\Nat.succ (mEn 12 i')<=mEn 12 i/\true=true/\yInt i'=yWrap .i64 (yAdd (yInt i) 1)/\mk1 D i' (nat_lit 0)=ySel (yNeq (yNat (yInt i)) 0) 1 (mk1 D i 0)/\mk1 D i' (nat_lit 1)=ySel (yNeq (yNat (yInt i)) 1) 1 (mk1 D i 1)/\mk1 D i' (nat_lit 2)=ySel (yNeq (yNat (yInt i)) 2) 1 (mk1 D i 2)/\mk1 D i' (nat_lit 3)=ySel (yNeq (yNat (yInt i)) 3) 1 (mk1 D i 3)/\mk1 D i' (nat_lit 4)=ySel (yNeq (yNat (yInt i)) 4) 1 (mk1 D i 4)/\mk1 D i' (nat_lit 5)=ySel (yNeq (yNat (yInt i)) 5) 1 (mk1 D i 5)/\mk1 D i' (nat_lit 6)=ySel (yNeq (yNat (yInt i)) 6) 1 (mk1 D i 6)/\mk1 D i' (nat_lit 7)=ySel (yNeq (yNat (yInt i)) 7) 1 (mk1 D i 7)/\mk1 D i' (nat_lit 8)=ySel (yNeq (yNat (yInt i)) 8) 1 (mk1 D i 8)/\mk1 D i' (nat_lit 9)=ySel (yNeq (yNat (yInt i)) 9) 1 (mk1 D i 9)/\mk1 D i' (nat_lit 10)=ySel (yNeq (yNat (yInt i)) 10) 1 (mk1 D i 10)/\mk1 D i' (nat_lit 11)=ySel (yNeq (yNat (yInt i)) 11) 1 (mk1 D i 11)/\mk2 B 0 (nat_lit 0)=ySel (yNeq (yNat (yInt i)) 12) 1 (mk2 B 0 0)/\mk3 B V 0 (nat_lit 0)=ySel (yNeq (yNat (yInt i)) 13) 1 (mk3 B V 0 0)/\mk2 B 0 (nat_lit 1)=ySel (yNeq (yNat (yInt i)) 14) 1 (mk2 B 0 1)/\mk3 B V 0 (nat_lit 1)=ySel (yNeq (yNat (yInt i)) 15) 1 (mk3 B V 0 1)/\mk2 B 0 (nat_lit 2)=ySel (yNeq (yNat (yInt i)) 16) 1 (mk2 B 0 2)/\mk3 B V 0 (nat_lit 2)=ySel (yNeq (yNat (yInt i)) 17) 1 (mk3 B V 0 2)/\mk2 B 0 (nat_lit 3)=ySel (yNeq (yNat (yInt i)) 18) 1 (mk2 B 0 3)/\mk3 B V 0 (nat_lit 3)=ySel (yNeq (yNat (yInt i)) 19) 1 (mk3 B V 0 3)/\mk2 B 0 (nat_lit 4)=ySel (yNeq (yNat (yInt i)) 20) 1 (mk2 B 0 4)/\mk3 B V 0 (nat_lit 4)=ySel (yNeq (yNat (yInt i)) 21) 1 (mk3 B V 0 4)/\mk2 B 0 (nat_lit 5)=ySel (yNeq (yNat (yInt i)) 22) 1 (mk2 B 0 5)/\mk3 B V 0 (nat_lit 5)=ySel (yNeq (yNat (yInt i)) 23) 1 (mk3 B V 0 5)/\true=true)))/\(yPick (yNat (yInt i)) [D 0,D 1,D 2,D 3,D 4,D 5,D 6,D 7,D 8,D 9,D 10,D 11]=false->true=true/\∃ (i':Nat),prMk 12 i'/\Nat.succ (mEn 12 i')<=mEn 12 i/\true=true/\yInt i'=yWrap .i64 (yAdd (yInt i) 1)/\mk1 D i' (nat_lit 0)=mk1 D i 0/\mk1 D i' (nat_lit 1)=mk1 D i 1/\mk1 D i' (nat_lit 2)=mk1 D i 2/\mk1 D i' (nat_lit 3)=mk1 D i 3/\mk1 D i' (nat_lit 4)=mk1 D i 4/\mk1 D i' (nat_lit 5)=mk1 D i 5/\mk1 D i' (nat_lit 6)=mk1 D i 6/\mk1 D i' (nat_lit 7)=mk1 D i 7/\mk1 D i' (nat_lit 8)=mk1 D i 8/\mk1 D i' (nat_lit 9)=mk1 D i 9/\mk1 D i' (nat_lit 10)=mk1 D i 10/\mk1 D i' (nat_lit 11)=mk1 D i 11/\mk2 B 0 (nat_lit 0)=mk2 B 0 0/\mk3 B V 0 (nat_lit 0)=mk3 B V 0 0/\mk2 B 0 (nat_lit 1)=mk2 B 0 1/\mk3 B V 0 (nat_lit 1)=mk3 B V 0 1/\mk2 B 0 (nat_lit 2)=mk2 B 0 2/\mk3 B V 0 (nat_lit 2)=mk3 B V 0 2/\mk2 B 0 (nat_lit 3)=mk2 B 0 3/\mk3 B V 0 (nat_lit 3)=mk3 B V 0 3/\mk2 B 0 (nat_lit 4)=mk2 B 0 4/\mk3 B V 0 (nat_lit 4)=mk3 B V 0 4/\mk2 B 0 (nat_lit 5)=mk2 B 0 5/\mk3 B V 0 (nat_lit 5)=mk3 B V 0 5/\true=true))))/\(yLt (yInt i) (12:Int)=false->true=true/\(∃ (i0:Nat),prMk 6 i0/\true=true/\yInt i0=(0:Int)/\mk1 D 12 (nat_lit 0)=mk1 D i 0/\mk1 D 12 (nat_lit 1)=mk1 D i 1/\mk1 D 12 (nat_lit 2)=mk1 D i 2/\mk1 D 12 (nat_lit 3)=mk1 D i 3/\mk1 D 12 (nat_lit 4)=mk1 D i 4/\mk1 D 12 (nat_lit 5)=mk1 D i 5/\mk1 D 12 (nat_lit 6)=mk1 D i 6/\mk1 D 12 (nat_lit 7)=mk1 D i 7/\mk1 D 12 (nat_lit 8)=mk1 D i 8/\mk1 D 12 (nat_lit 9)=mk1 D i 9/\mk1 D 12 (nat_lit 10)=mk1 D i 10/\mk1 D 12 (nat_lit 11)=mk1 D i 11/\mk2 B i0 (nat_lit 0)=mk2 B 0 0/\mk3 B V i0 (nat_lit 0)=mk3 B V 0 0/\mk2 B i0 (nat_lit 1)=mk2 B 0 1/\mk3 B V i0 (nat_lit 1)=mk3 B V 0 1/\mk2 B i0 (nat_lit 2)=mk2 B 0 2/\mk3 B V i0 (nat_lit 2)=mk3 B V 0 2/\mk2 B i0 (nat_lit 3)=mk2 B 0 3/\mk3 B V i0 (nat_lit 3)=mk3 B V 0 3/\mk2 B i0 (nat_lit 4)=mk2 B 0 4/\mk3 B V i0 (nat_lit 4)=mk3 B V 0 4/\mk2 B i0 (nat_lit 5)=mk2 B 0 5/\mk3 B V i0 (nat_lit 5)=mk3 B V 0 5/\true=true)/\∀ (g:Nat->AV) (i:Nat),prMk 6 i->(yLt (yInt i) (6:Int)=true->mst (yIn (yInt i) 6) (mst (yNlt (yNat (yInt i)) 6) (mst (yNlt (yNat (yInt i)) 6) ((yPick (yNat (yInt i)) [B 0,B 1,B 2,B 3,B 4,B 5]=true->mst (yIn (goalMk_0 i) 24) (mst (yNlt (yNat (goalMk_0 i)) 24) (mst (yIn (yWrap .i64 (yAdd (goalMk_0 i) 1)) 24) (mst (yNlt (yNat (yWrap .i64 (yAdd (goalMk_0 i) 1))) 24) (true=true/\∃ (i':Nat),prMk 6 i'/\Nat.succ (mEn 6 i')<=mEn 6 i/\true=true/\yInt i'=yWrap .i64 (yAdd (yInt i) 1)/\mk1 D 12 (nat_lit 0)=ySel (yNeq (yNat (yWrap .i64 (yAdd (goalMk_0 i) 1))) 0) (goalMk_1 i V) (ySel (yNeq (yNat (goalMk_0 i)) 0) 1 (mk1 D 12 0))/\mk1 D 12 (nat_lit 1)=ySel (yNeq (yNat (yWrap .i64 (yAdd (goalMk_0 i) 1))) 1) (goalMk_1 i V) (ySel (yNeq (yNat (goalMk_0 i)) 1) 1 (mk1 D 12 1))/\mk1 D 12 (nat_lit 2)=ySel (yNeq (yNat (yWrap .i64 (yAdd (goalMk_0 i) 1))) 2) (goalMk_1 i V) (ySel (yNeq (yNat (goalMk_0 i)) 2) 1 (mk1 D 12 2))/\mk1 D 12 (nat_lit 3)=ySel (yNeq (yNat (yWrap .i64 (yAdd (goalMk_0 i) 1))) 3) (goalMk_1 i V) (ySel (yNeq (yNat (goalMk_0 i)) 3) 1 (mk1 D 12 3))/\mk1 D 12 (nat_lit 4)=ySel (yNeq (yNat (yWrap .i64 (yAdd (goalMk_0 i) 1))) 4) (goalMk_1 i V) (ySel (yNeq (yNat (goalMk_0 i)) 4) 1 (mk1 D 12 4))/\mk1 D 12 (nat_lit 5)=ySel (yNeq (yNat (yWrap .i64 (yAdd (goalMk_0 i) 1))) 5) (goalMk_1 i V) (ySel (yNeq (yNat (goalMk_0 i)) 5) 1 (mk1 D 12 5))/\mk1 D 12 (nat_lit 6)=ySel (yNeq (yNat (yWrap .i64 (yAdd (goalMk_0 i) 1))) 6) (goalMk_1 i V) (ySel (yNeq (yNat (goalMk_0 i)) 6) 1 (mk1 D 12 6))/\mk1 D 12 (nat_lit 7)=ySel (yNeq (yNat (yWrap .i64 (yAdd (goalMk_0 i) 1))) 7) (goalMk_1 i V) (ySel (yNeq (yNat (goalMk_0 i)) 7) 1 (mk1 D 12 7))/\mk1 D 12 (nat_lit 8)=ySel (yNeq (yNat (yWrap .i64 (yAdd (goalMk_0 i) 1))) 8) (goalMk_1 i V) (ySel (yNeq (yNat (goalMk_0 i)) 8) 1 (mk1 D 12 8))/\mk1 D 12 (nat_lit 9)=ySel (yNeq (yNat (yWrap .i64 (yAdd (goalMk_0 i) 1))) 9) (goalMk_1 i V) (ySel (yNeq (yNat (goalMk_0 i)) 9) 1 (mk1 D 12 9))/\mk1 D 12 (nat_lit 10)=ySel (yNeq (yNat (yWrap .i64 (yAdd (goalMk_0 i) 1))) 10) (goalMk_1 i V) (ySel (yNeq (yNat (goalMk_0 i)) 10) 1 (mk1 D 12 10))/\mk1 D 12 (nat_lit 11)=ySel (yNeq (yNat (yWrap .i64 (yAdd (goalMk_0 i) 1))) 11) (goalMk_1 i V) (ySel (yNeq (yNat (goalMk_0 i)) 11) 1 (mk1 D 12 11))/\mk2 B i' (nat_lit 0)=ySel (yNeq (yNat (yWrap .i64 (yAdd (goalMk_0 i) 1))) 12) (goalMk_1 i V) (ySel (yNeq (yNat (goalMk_0 i)) 12) 1 (mk2 B i 0))/\mk3 B V i' (nat_lit 0)=ySel (yNeq (yNat (yWrap .i64 (yAdd (goalMk_0 i) 1))) 13) (goalMk_1 i V) (ySel (yNeq (yNat (goalMk_0 i)) 13) 1 (mk3 B V i 0))/\mk2 B i' (nat_lit 1)=ySel (yNeq (yNat (yWrap .i64 (yAdd (goalMk_0 i) 1))) 14) (goalMk_1 i V) (ySel (yNeq (yNat (goalMk_0 i)) 14) 1 (mk2 B i 1))/\mk3 B V i' (nat_lit 1)=ySel (yNeq (yNat (yWrap .i64 (yAdd (goalMk_0 i) 1))) 15) (goalMk_1 i V) (ySel (yNeq (yNat (goalMk_0 i)) 15) 1 (mk3 B V i 1))/\mk2 B i' (nat_lit 2)=ySel (yNeq (yNat (yWrap .i64 (yAdd (goalMk_0 i) 1))) 16) (goalMk_1 i V) (ySel (yNeq (yNat (goalMk_0 i)) 16) 1 (mk2 B i 2))/\mk3 B V i' (nat_lit 2)=ySel (yNeq (yNat (yWrap .i64 (yAdd (goalMk_0 i) 1))) 17) (goalMk_1 i V) (ySel (yNeq (yNat (goalMk_0 i)) 17) 1 (mk3 B V i 2))/\mk2 B i' (nat_lit 3)=ySel (yNeq (yNat (yWrap .i64 (yAdd (goalMk_0 i) 1))) 18) (goalMk_1 i V) (ySel (yNeq (yNat (goalMk_0 i)) 18) 1 (mk2 B i 3))/\mk3 B V i' (nat_lit 3)=ySel (yNeq (yNat (yWrap .i64 (yAdd (goalMk_0 i) 1))) 19) (goalMk_1 i V) (ySel (yNeq (yNat (goalMk_0 i)) 19) 1 (mk3 B V i 3))/\mk2 B i' (nat_lit 4)=ySel (yNeq (yNat (yWrap .i64 (yAdd (goalMk_0 i) 1))) 20) (goalMk_1 i V) (ySel (yNeq (yNat (goalMk_0 i)) 20) 1 (mk2 B i 4))/\mk3 B V i' (nat_lit 4)=ySel (yNeq (yNat (yWrap .i64 (yAdd (goalMk_0 i) 1))) 21) (goalMk_1 i V) (ySel (yNeq (yNat (goalMk_0 i)) 21) 1 (mk3 B V i 4))/\mk2 B i' (nat_lit 5)=ySel (yNeq (yNat (yWrap .i64 (yAdd (goalMk_0 i) 1))) 22) (goalMk_1 i V) (ySel (yNeq (yNat (goalMk_0 i)) 22) 1 (mk2 B i 5))/\mk3 B V i' (nat_lit 5)=ySel (yNeq (yNat (yWrap .i64 (yAdd (goalMk_0 i) 1))) 23) (goalMk_1 i V) (ySel (yNeq (yNat (goalMk_0 i)) 23) 1 (mk3 B V i 5))/\true=true)))))/\(yPick (yNat (yInt i)) [B 0,B 1,B 2,B 3,B 4,B 5]=false->true=true/\∃ (i':Nat),prMk 6 i'/\Nat.succ (mEn 6 i')<=mEn 6 i/\true=true/\yInt i'=yWrap .i64 (yAdd (yInt i) 1)/\mk1 D 12 (nat_lit 0)=mk1 D 12 0/\mk1 D 12 (nat_lit 1)=mk1 D 12 1/\mk1 D 12 (nat_lit 2)=mk1 D 12 2/\mk1 D 12 (nat_lit 3)=mk1 D 12 3/\mk1 D 12 (nat_lit 4)=mk1 D 12 4/\mk1 D 12 (nat_lit 5)=mk1 D 12 5/\mk1 D 12 (nat_lit 6)=mk1 D 12 6/\mk1 D 12 (nat_lit 7)=mk1 D 12 7/\mk1 D 12 (nat_lit 8)=mk1 D 12 8/\mk1 D 12 (nat_lit 9)=mk1 D 12 9/\mk1 D 12 (nat_lit 10)=mk1 D 12 10/\mk1 D 12 (nat_lit 11)=mk1 D 12 11/\mk2 B i' (nat_lit 0)=mk2 B i 0/\mk3 B V i' (nat_lit 0)=mk3 B V i 0/\mk2 B i' (nat_lit 1)=mk2 B i 1/\mk3 B V i' (nat_lit 1)=mk3 B V i 1/\mk2 B i' (nat_lit 2)=mk2 B i 2/\mk3 B V i' (nat_lit 2)=mk3 B V i 2/\mk2 B i' (nat_lit 3)=mk2 B i 3/\mk3 B V i' (nat_lit 3)=mk3 B V i 3/\mk2 B i' (nat_lit 4)=mk2 B i 4/\mk3 B V i' (nat_lit 4)=mk3 B V i 4/\mk2 B i' (nat_lit 5)=mk2 B i 5/\mk3 B V i' (nat_lit 5)=mk3 B V i 5/\true=true)))))/\(yLt (yInt i) (6:Int)=false->mk1 D 12 (nat_lit 0)=mk1 D 12 0/\mk1 D 12 (nat_lit 1)=mk1 D 12 1/\mk1 D 12 (nat_lit 2)=mk1 D 12 2/\mk1 D 12 (nat_lit 3)=mk1 D 12 3/\mk1 D 12 (nat_lit 4)=mk1 D 12 4/\mk1 D 12 (nat_lit 5)=mk1 D 12 5/\mk1 D 12 (nat_lit 6)=mk1 D 12 6/\mk1 D 12 (nat_lit 7)=mk1 D 12 7/\mk1 D 12 (nat_lit 8)=mk1 D 12 8/\mk1 D 12 (nat_lit 9)=mk1 D 12 9/\mk1 D 12 (nat_lit 10)=mk1 D 12 10/\mk1 D 12 (nat_lit 11)=mk1 D 12 11/\mk2 B 6 (nat_lit 0)=mk2 B i 0/\mk3 B V 6 (nat_lit 0)=mk3 B V i 0/\mk2 B 6 (nat_lit 1)=mk2 B i 1/\mk3 B V 6 (nat_lit 1)=mk3 B V i 1/\mk2 B 6 (nat_lit 2)=mk2 B i 2/\mk3 B V 6 (nat_lit 2)=mk3 B V i 2/\mk2 B 6 (nat_lit 3)=mk2 B i 3/\mk3 B V 6 (nat_lit 3)=mk3 B V i 3/\mk2 B 6 (nat_lit 4)=mk2 B i 4/\mk3 B V 6 (nat_lit 4)=mk3 B V i 4/\mk2 B 6 (nat_lit 5)=mk2 B i 5/\mk3 B V 6 (nat_lit 5)=mk3 B V i 5/\True)))
theorem goalMk_eq:goalMk=goalMkV:=by kernel_rfl
set_option maxHeartbeats 8000000 in
theorem goalMk_vc:goalMkV:=by
 unfold goalMkV goalMk_1 goalMk_0
 intro D B V
 have z1:∀ j,mk1 D 0 j=0:=λ j=>by unfold mk1;simp [yAnd,ySel]
 have z2:∀ j,mk2 B 0 j=0:=λ j=>by unfold mk2;simp [yAnd,ySel]
 have z3:∀ j,mk3 B V 0 j=0:=λ j=>by unfold mk3;simp [yAnd,ySel]
 have m12:∀ i,i < 12->(mEn 12 (i + 1)).succ<=mEn 12 i:=λ i h=>by unfold mEn;omega
 have m6:∀ i,i < 6->(mEn 6 (i + 1)).succ<=mEn 6 i:=λ i h=>by unfold mEn;omega
 have w1:∀ i:Nat,i < 12->yInt (i + 1)=yWrap .i64 (yAdd (yInt i) 1):=λ i hi=>by show ((i + 1:Nat):Int)=yWrap .i64 ((i:Int) + 1);rw [wrap64 (by omega) (by omega)];omega
 have ge:∀ {i q:Nat} {a x:Int},i < 12->12<=q->x=ySel (yNeq (yNat (yInt i)) q) a x:=λ {i q a x} hi hq=>by
  rw [show yNeq (yNat (yInt i)) q=false from decide_eq_false (show ¬ i=q by omega)];rfl
 refine ⟨rfl,⟨0,Nat.zero_le _,rfl,rfl,?_⟩,λ g i hp=>⟨λ h=>?_,λ h=>?_⟩⟩
 . repeat' (first | exact z1 _ | exact z2 _ | exact z3 _ | rfl | apply And.intro)
 . have hi:i < 12:=by have:=of_decide_eq_true h;exact Int.ofNat_lt.1 this
   refine mstI (show yIn (yInt i) 12=true from yInN hi) (mstI (show yNlt i 12=true from decide_eq_true hi) ⟨λ e=>mstI (show yIn (yInt i) 24=true from yInN (by omega)) (mstI (decide_eq_true (show i < 24 by omega)) ⟨rfl,i + 1,hi,m12 i hi,rfl,w1 i hi,?_⟩),λ e=>⟨rfl,i + 1,hi,m12 i hi,rfl,w1 i hi,?_⟩⟩)
   . have e:D i=true:=(pick12' i hi).symm.trans e
     repeat' (first | exact mk1_t e _ | exact ge hi (by decide) | rfl | apply And.intro)
   . have e:D i=false:=(pick12' i hi).symm.trans e
     repeat' (first | exact mk1_f e _ | rfl | apply And.intro)
 . obtain rfl:i=12:=by
    have h1:¬ (i:Int) < 12:=of_decide_eq_false h
    have h2:i<=12:=hp
    omega
   refine ⟨rfl,⟨0,Nat.zero_le _,rfl,rfl,?_⟩,λ g i hp=>⟨λ h=>?_,λ h=>?_⟩⟩
   . repeat' (first | rfl | apply And.intro)
   . have hi:i < 6:=by have:=of_decide_eq_true h;exact Int.ofNat_lt.1 this
     have a1:yWrap .i64 (yAdd 12 (yWrap .i64 (yMul 2 (yInt i))))=((12 + 2 * i:Nat):Int):=by
      show yWrap .i64 (12 + yWrap .i64 (2 * (i:Int)))=_
      rw [wrap64 (n:=2 * (i:Int)) (by omega) (by omega),wrap64 (by omega) (by omega)];omega
     have a2:yWrap .i64 (yAdd (yWrap .i64 (yAdd 12 (yWrap .i64 (yMul 2 (yInt i))))) 1)=((13 + 2 * i:Nat):Int):=by
      rw [a1]
      show yWrap .i64 (((12 + 2 * i:Nat):Int) + 1)=_
      rw [wrap64 (by omega) (by omega)];omega
     have b0:∀ q,yNeq (yNat (yWrap .i64 (yAdd 12 (yWrap .i64 (yMul 2 (yInt i)))))) q=decide (12 + 2 * i=q):=λ q=>by rw [a1];rfl
     have b1:∀ q,yNeq (yNat (yWrap .i64 (yAdd (yWrap .i64 (yAdd 12 (yWrap .i64 (yMul 2 (yInt i))))) 1))) q=decide (13 + 2 * i=q):=λ q=>by rw [a2];rfl
     have pv:yPickI (yNat (yInt i)) [V 0,V 1,V 2,V 3,V 4,V 5]=V i:=pick6I i hi
     have w6:yInt (i + 1)=yWrap .i64 (yAdd (yInt i) 1):=w1 i (by omega)
     refine mstI (show yIn (yInt i) 6=true from yInN hi) (mstI (show yNlt i 6=true from decide_eq_true hi) (mstI (show yNlt i 6=true from decide_eq_true hi) ⟨λ e=>?_,λ e=>⟨rfl,i + 1,hi,m6 i hi,rfl,w6,?_⟩⟩))
     . have e:B i=true:=(pick6 i hi).symm.trans e
       refine mstI (show yIn (yWrap .i64 (yAdd 12 (yWrap .i64 (yMul 2 (yInt i))))) 24=true by rw [a1];exact yInN (by omega)) (mstI (show yNlt (yNat (yWrap .i64 (yAdd 12 (yWrap .i64 (yMul 2 (yInt i)))))) 24=true by rw [a1];exact decide_eq_true (show 12 + 2 * i < 24 by omega)) (mstI (show yIn (yWrap .i64 (yAdd (yWrap .i64 (yAdd 12 (yWrap .i64 (yMul 2 (yInt i))))) 1)) 24=true by rw [a2];exact yInN (by omega)) (mstI (show yNlt (yNat (yWrap .i64 (yAdd (yWrap .i64 (yAdd 12 (yWrap .i64 (yMul 2 (yInt i))))) 1))) 24=true by rw [a2];exact decide_eq_true (show 13 + 2 * i < 24 by omega)) ⟨rfl,i + 1,hi,m6 i hi,rfl,w6,?_⟩)))
       have c1:∀ q x,q < 12->x=ySel (yNeq (yNat (yWrap .i64 (yAdd (yWrap .i64 (yAdd 12 (yWrap .i64 (yMul 2 (yInt i))))) 1))) q) (yPickI (yNat (yInt i)) [V 0,V 1,V 2,V 3,V 4,V 5]) (ySel (yNeq (yNat (yWrap .i64 (yAdd 12 (yWrap .i64 (yMul 2 (yInt i)))))) q) 1 x):=λ q x hq=>by
        rw [b0,b1,decide_eq_false (show ¬ 12 + 2 * i=q by omega),decide_eq_false (show ¬ 13 + 2 * i=q by omega)];rfl
       have c2:∀ q,mk2 B (i + 1) q=ySel (yNeq (yNat (yWrap .i64 (yAdd (yWrap .i64 (yAdd 12 (yWrap .i64 (yMul 2 (yInt i))))) 1))) (12 + 2 * q)) (yPickI (yNat (yInt i)) [V 0,V 1,V 2,V 3,V 4,V 5]) (ySel (yNeq (yNat (yWrap .i64 (yAdd 12 (yWrap .i64 (yMul 2 (yInt i)))))) (12 + 2 * q)) 1 (mk2 B i q)):=λ q=>by
        rw [b0,b1,decide_eq_false (show ¬ 13 + 2 * i=12 + 2 * q by omega),show decide (12 + 2 * i=12 + 2 * q)=yNeq i q by unfold yNeq;rw [decide_eq_decide];omega]
        exact mk1_t e q
       have c3:∀ q,mk3 B V (i + 1) q=ySel (yNeq (yNat (yWrap .i64 (yAdd (yWrap .i64 (yAdd 12 (yWrap .i64 (yMul 2 (yInt i))))) 1))) (13 + 2 * q)) (yPickI (yNat (yInt i)) [V 0,V 1,V 2,V 3,V 4,V 5]) (ySel (yNeq (yNat (yWrap .i64 (yAdd 12 (yWrap .i64 (yMul 2 (yInt i)))))) (13 + 2 * q)) 1 (mk3 B V i q)):=λ q=>by
        rw [b0,b1,decide_eq_false (show ¬ 12 + 2 * i=13 + 2 * q by omega),show decide (13 + 2 * i=13 + 2 * q)=yNeq i q by unfold yNeq;rw [decide_eq_decide];omega,pv]
        exact mk3_t e q
       repeat' (first | exact c2 0 | exact c3 0 | exact c2 1 | exact c3 1 | exact c2 2 | exact c3 2 | exact c2 3 | exact c3 3 | exact c2 4 | exact c3 4 | exact c2 5 | exact c3 5 | exact c1 _ _ (by decide) | rfl | apply And.intro)
     . have e:B i=false:=(pick6 i hi).symm.trans e
       repeat' (first | exact mk1_f e _ | exact mk3_f e _ | rfl | apply And.intro)
   . obtain rfl:i=6:=by
      have h1:¬ (i:Int) < 6:=of_decide_eq_false h
      have h2:i<=6:=hp
      omega
     repeat' (first | exact trivial | rfl | apply And.intro)
theorem goalMk_tt:(goalMk)=True:=goalMk_eq.trans (eq_true goalMk_vc)
theorem goalMk_ok:goalMk:=@ft' goalMk goalMk_tt
end Go.Proofs.Ytknfdbilpfblnaa.Ex
end
section
noncomputable section
namespace Go.Proofs.Ytknfdbilpfblnaa.Ex
open Go Go.RowKit
structure SrW (nc:Bool)(n:Nat)(C:CaS)(nk:Bool)(m:Nat)(K:Nat->Int)(Z:Nat->Option (Array Value))(bs:Nat)(vc vk vm vo:Value)(w:World):Prop where
 hs:w.heap[bs]?=some (.cells #[vc,vk,vm,vo] 57 (0,0))
 fz:∀ b cs,Z b=some cs->∃ e fr,w.heap[b]?=some (.cells cs e fr)
 rc:(AV.lst false nc 13 n (colF (colsLq C))).R ⟨λ _=>none,Z⟩ vc
 rk:(AV.lst false nk 1 m (colF [.int .u64 K])).R ⟨λ _=>none,Z⟩ vk
 oc:vc.oneCell'=true
 ok:vk.oneCell'=true
 om:vm.oneCell'=true
 oo:vo.oneCell'=true
theorem gwT (w:World):GW w:=λ g c h=>by simp [GL] at h
def srM (Z:Nat->Option (Array Value))(bs:Nat):Mp:=⟨λ i=>match i with | 0=>some (bs,0) | _ + 1=>none,Z⟩
theorem srM_le (Z:Nat->Option (Array Value))(bs:Nat):Le ⟨λ _=>none,Z⟩ (srM Z bs):=⟨λ _ _ e=>(by cases e),λ _ _ e=>e⟩
section
variable {nc : Bool} {n : Nat} {C : CaS} {nk : Bool} {m : Nat} {K : Nat -> Int} {Z : Nat -> Option (Array Value)} {bs : Nat} {vc vk vm vo : Value} {w : World}
theorem srRel (h:SrW nc n C nk m K Z bs vc vk vm vo w):Rel (srM Z bs) (heapOf [srO nc n C nk m K]) w/\FreshA (srM Z bs) (heapOf [srO nc n C nk m K]).nx:=by
 have key:∀ id o,(heapOf [srO nc n C nk m K]).get id=some o->id=0/\o=srO nc n C nk m K:=λ id o e=>by
  rw [heapOf_get (bl:=[srO nc n C nk m K]) (show 1 < 4294967296 by decide)] at e
  cases id with
  | zero=>simp at e;exact ⟨rfl,e.symm⟩
  | succ i=>simp at e
 refine ⟨⟨λ id o e=>?_,λ i j b κ κ' o hi hr _ _ _=>?_,λ x hx=>?_,gwT w,λ x b κ o hx hro hM=>?_,λ b cs e=>h.fz b cs e,λ i b κ o hi hr _=>?_⟩,λ id hid=>?_⟩
 . obtain ⟨rfl,rfl⟩:=key id o e
   refine .inr ⟨bs,0,_,rfl,h.hs,_,_,_,rfl,λ i hi j hj=>?_⟩
   obtain rfl:i=0:=by omega
   match j,hj with
   | 0,_=>exact ⟨vc,rfl,h.oc,AV.R.mono (srM_le Z bs) _ _ h.rc⟩
   | 1,_=>exact ⟨vk,rfl,h.ok,AV.R.mono (srM_le Z bs) _ _ h.rk⟩
   | 2,_=>exact ⟨vm,rfl,h.om,by simp only [srF,AV.R];exact h.om⟩
   | 3,_=>exact ⟨vo,rfl,h.oo,by simp only [srF,AV.R];exact h.oo⟩
 . obtain ⟨rfl,rfl⟩:=key i o hi;cases hr
 . cases hh:(heapOf [srO nc n C nk m K]).get x with
   | none=>exact absurd hh hx
   | some o=>obtain ⟨rfl,_⟩:=key x o hh;exact Nat.zero_lt_one
 . obtain ⟨rfl,rfl⟩:=key x o hx;cases hro
 . obtain ⟨rfl,rfl⟩:=key i o hi;cases hr
 . cases id with
   | zero=>exact absurd hid (by show ¬ 1<=0;decide)
   | succ i=>rfl
theorem sr_calls (hm:Try.prog.follows .mixedOrders=true){sm:FuncId->Option Sm}(hs:SmOK Try.prog sm){ann:Nat->Option (St->LoopA)}{f:FuncId}{args:List AV}{Kp:AV->Prop}{us:List Value}(hsr:SrW nc n C nk m K Z bs vc vk vm vo w)
 (h:wxF Try.prog sm ann 1000 f args (heapOf [srO nc n C nk m K]) (λ v _=>Kp v)) (ra:AV.RL (srM Z bs) args us):Calls Try.prog f us.toArray w λ e w'=>∃ v u M',e=.returned u/\Kp v/\v.R M' u/\Below w.heap.size w w':=by
 obtain ⟨rel,fr⟩:=srRel hsr
 obtain ⟨_,cc⟩:=wxF_ok hm hs h (srM Z bs) us w none (λ e w'=>∃ v u M',e=.returned u/\Kp v/\v.R M' u/\Below w.heap.size w w') ra rel fr (λ v h' M' u w' hk rv rel' _ f _=>
  ⟨v,u,M',rfl,hk,rv,f.os,f.tape,f.output,f.size,λ k hk2=>f.keep k hk2 (λ ⟨id,κ,o,hg,hro,_⟩=>by
   rw [heapOf_get (bl:=[srO nc n C nk m K]) (show 1 < 4294967296 by decide)] at hg
   cases id with
   | zero=>simp at hg;subst hg;cases hro
   | succ i=>simp at hg)⟩)
 exact CallsIn.calls cc (λ k d hd=>by simp [FW] at hd)
end
abbrev stV (D B:Nat->Bool)(V:Nat->Int):List Value:=[.bool (D 0),.bool (D 1),.bool (D 2),.bool (D 3),.bool (D 4),.bool (D 5),.bool (D 6),.bool (D 7),.bool (D 8),.bool (D 9),.bool (D 10),.bool (D 11),.bool (B 0),.int .u64 (V 0),.bool (B 1),.int .u64 (V 1),.bool (B 2),.int .u64 (V 2),.bool (B 3),.int .u64 (V 3),.bool (B 4),.int .u64 (V 4),.bool (B 5),.int .u64 (V 5)]
def scV:AV->Option Value
 | .yb b=>some (.bool b)
 | .y k n=>some (.int k n)
 | _=>none
theorem scL_R (M:Mp):∀ {l:List AV} {vs:List Value},l.map scV=vs.map some->AV.RL M l vs
 | [],[],_=>rfl
 | a :: l,v :: vs,h=>by
   simp only [List.map_cons,List.cons.injEq] at h
   simp only [AV.RL]
   refine ⟨v,vs,?_,scL_R M h.2,rfl⟩
   have h:=h.1
   unfold scV at h
   split at h <;> first | (cases h;done) | (simp only [sI] at h;subst h;simp only [AV.R])
 | [],_ :: _,h=>by simp at h
 | _ :: _,[],h=>by simp at h
theorem scL_inv {M:Mp}:∀ {l:List AV} {vs us:List Value},l.map scV=vs.map some->AV.RL M l us->us=vs
 | [],[],us,_,r=>by simpa only [AV.RL] using r
 | a :: l,v :: vs,us,h,r=>by
   simp only [List.map_cons,List.cons.injEq] at h
   simp only [AV.RL] at r
   obtain ⟨u,us',r1,r2,rfl⟩:=r
   rw [scL_inv h.2 r2]
   have h:=h.1
   unfold scV at h
   split at h <;> first | (cases h;done) | (simp only [sI] at h;subst h;simp only [AV.R] at r1;rw [r1])
 | [],_ :: _,_,h,_=>by simp at h
 | _ :: _,[],_,h,_=>by simp at h
theorem stL_R (M:Mp)(D B:Nat->Bool)(V:Nat->Int):AV.RL M (stL D B V) (stV D B V):=scL_R M rfl
theorem cmpQ_ok {M M':Mp}:∀ {l k:List AV} {us:List Value},cmpQ l k->AV.RL M k us->AV.RL M' l us
 | [],[],us,_,r=>by simp only [AV.RL] at r ⊢;exact r
 | a :: l,b :: k,us,h,r=>by
   simp only [AV.RL] at r ⊢
   obtain ⟨v,vs,r1,r2,rfl⟩:=r
   exact ⟨v,vs,(cmpC_ok h.1 r1).1,cmpQ_ok h.2 r2,rfl⟩
 | [],_ :: _,_,h,_=>h.elim
 | _ :: _,[],_,h,_=>h.elim
theorem stL_inv {M:Mp}{D B:Nat->Bool}{V:Nat->Int}{us:List Value}(h:AV.RL M (stL D B V) us):us=stV D B V:=scL_inv rfl h
abbrev mkV (D B:Nat->Bool)(V:Nat->Int):List Value:=[.int .u64 (mk1 D 12 0),.int .u64 (mk1 D 12 1),.int .u64 (mk1 D 12 2),.int .u64 (mk1 D 12 3),.int .u64 (mk1 D 12 4),.int .u64 (mk1 D 12 5),.int .u64 (mk1 D 12 6),.int .u64 (mk1 D 12 7),.int .u64 (mk1 D 12 8),.int .u64 (mk1 D 12 9),.int .u64 (mk1 D 12 10),.int .u64 (mk1 D 12 11),.int .u64 (mk2 B 6 0),.int .u64 (mk3 B V 6 0),.int .u64 (mk2 B 6 1),.int .u64 (mk3 B V 6 1),.int .u64 (mk2 B 6 2),.int .u64 (mk3 B V 6 2),.int .u64 (mk2 B 6 3),.int .u64 (mk3 B V 6 3),.int .u64 (mk2 B 6 4),.int .u64 (mk3 B V 6 4),.int .u64 (mk2 B 6 5),.int .u64 (mk3 B V 6 5)]
theorem mkL_inv {M:Mp}{D B:Nat->Bool}{V:Nat->Int}{us:List Value}(h:AV.RL M (mkL D B V 12 6) us):us=mkV D B V:=scL_inv rfl h
theorem cmpG_ok {M:Mp}{l:List AV}{v:AV}{u:Value}(h:cmpG l v)(r:v.R M u):∃ us,u=.agg us.toArray/\AV.RL M l us:=by
 unfold cmpG at h
 split at h
 . simp only [AV.R] at r
   obtain ⟨vs,r1,rfl⟩:=r
   exact ⟨vs,rfl,cmpQ_ok h r1⟩
 . exact h.elim
theorem cmpT_ok {M:Mp}{l:List AV}{c v:AV}{u:Value}(h:cmpT l c v)(r:v.R M u):∃ us b,u=.tuple #[.agg us.toArray,b]/\AV.RL M l us/\c.R M b:=by
 unfold cmpT at h
 split at h
 . simp only [AV.R,AV.RL] at r
   obtain ⟨vs,⟨u1,_,r1,⟨u2,_,r2,rfl,rfl⟩,rfl⟩,rfl⟩:=r
   obtain ⟨us,rfl,h3⟩:=cmpG_ok h.1 r1
   exact ⟨us,u2,rfl,h3,(cmpC_ok h.2 r2).1⟩
 . exact h.elim
section
variable {nc : Bool} {n : Nat} {C : CaS} {nk : Bool} {m : Nat} {K : Nat -> Int} {Z : Nat -> Option (Array Value)} {bs : Nat} {vc vk vm vo : Value} {w : World}
theorem enough_c (hm:Try.prog.follows .mixedOrders=true)(h:SrW nc n C nk m K Z bs vc vk vm vo w)(hs:smQ C n=true)(D B:Nat->Bool)(V:Nat->Int):
 Calls Try.prog 38 #[.pointer (some ⟨bs,0,none⟩),.agg (stV D B V).toArray] w λ e w'=>e=.returned (.bool (enB C n D))/\Below w.heap.size w w':=by
 have g:=@goalEn_ok
 unfold goalEn at g
 refine (sr_calls hm noSm_ok h (g nc n C nk m K D B V hs) (us:=[.pointer (some ⟨bs,0,none⟩),.agg (stV D B V).toArray]) ?_).mono ?_
 . exact ⟨_,_,⟨bs,0,rfl,rfl⟩,⟨_,_,⟨_,stL_R _ D B V,rfl⟩,rfl,rfl⟩,rfl⟩
 . rintro e w' ⟨v,u,M',rfl,hk,hr,hb⟩
   have:=(cmpC_ok hk (M':=M') hr).1
   simp only [AV.R] at this
   exact ⟨by rw [this],hb⟩
theorem free_c (hm:Try.prog.follows .mixedOrders=true)(h:SrW nc n C nk m K Z bs vc vk vm vo w)(hs:smQ C n=true)(D B:Nat->Bool)(V:Nat->Int){i:Nat}(hi:i < n):
 Calls Try.prog 40 #[.pointer (some ⟨bs,0,none⟩),.agg (stV D B V).toArray,.int .i64 i] w λ e w'=>e=.returned (.bool (frB C n D i))/\Below w.heap.size w w':=by
 have g:=@goalFr_ok
 unfold goalFr at g
 refine (sr_calls hm noSm_ok h (g nc n C nk m K D B V i hs (decide_eq_true hi)) (us:=[.pointer (some ⟨bs,0,none⟩),.agg (stV D B V).toArray,.int .i64 i]) ?_).mono ?_
 . exact ⟨_,_,⟨bs,0,rfl,rfl⟩,⟨_,_,⟨_,stL_R _ D B V,rfl⟩,⟨_,_,rfl,rfl,rfl⟩,rfl⟩,rfl⟩
 . rintro e w' ⟨v,u,M',rfl,hk,hr,hb⟩
   have:=(cmpC_ok hk (M':=M') hr).1
   simp only [AV.R] at this
   exact ⟨by rw [this],hb⟩
def ixN (K:Nat->Int)(m:Nat)(C:CaS)(i:Nat):Nat:=yNat (fxI m (keB K (cqKey C i)))
theorem smIu (hm:Try.prog.follows .mixedOrders=true):SmCall Try.prog 70 (λ args h=>(ctX [sPu,.sc] .sc fIu args h).sel):=
 ctX_ok hm noSm_ok (λ ds r post h=>by
  unfold fIu at h
  split at h
  . rename_i nl n k a
    simp only [sI,Prod.mk.injEq] at h
    obtain ⟨h1,rfl,rfl⟩:=h
    have h2:=@goalIu_ok
    unfold goalIu at h2
    exact ⟨_,1000,@h2 nl n k a h1⟩
  . cases h)
theorem lDo_ok (hm:Try.prog.follows .mixedOrders=true):SmOK Try.prog (smL lDo):=smL_ok ⟨smFu hm (smL_ok ⟨smSame hm goalSameRef_ok,smSame hm goalSameMod_ok,trivial⟩) @goalFuL_ok,smIu hm,smSame hm goalSameMod_ok,trivial⟩
theorem do_c (hm:Try.prog.follows .mixedOrders=true)(h:SrW nc n C nk m K Z bs vc vk vm vo w)(hs:smQ C n=true)(hk:smK C n K m=true)(D B:Nat->Bool)(V:Nat->Int){i:Nat}(hi:i < n):
 Calls Try.prog 41 #[.pointer (some ⟨bs,0,none⟩),.agg (stV D B V).toArray,.int .i64 i] w λ e w'=>e=.returned (.tuple #[.agg (stV (doLD D i) (doLB C i (ixN K m C i) B) (doLV C i (ixN K m C i) V)).toArray,.bool (doLO C i (ixN K m C i) B V)])/\Below w.heap.size w w':=by
 have g:=@goalDo_ok
 unfold goalDo at g
 refine (sr_calls hm (lDo_ok hm) h (g nc n C nk m K D B V i hs hk (decide_eq_true hi)) (us:=[.pointer (some ⟨bs,0,none⟩),.agg (stV D B V).toArray,.int .i64 i]) ?_).mono ?_
 . exact ⟨_,_,⟨bs,0,rfl,rfl⟩,⟨_,_,⟨_,stL_R _ D B V,rfl⟩,⟨_,_,rfl,rfl,rfl⟩,rfl⟩,rfl⟩
 . rintro e w' ⟨v,u,M',rfl,hk,hr,hb⟩
   obtain ⟨us,b,rfl,h1,h2⟩:=cmpT_ok hk hr
   simp only [AV.R] at h2
   rw [stL_inv h1,h2]
   exact ⟨rfl,hb⟩
end
theorem mark_c (hm:Try.prog.follows .mixedOrders=true)(w:World)(D B:Nat->Bool)(V:Nat->Int):
 Calls Try.prog 39 #[.agg (stV D B V).toArray] w λ e w'=>e=.returned (.agg (mkV D B V).toArray)/\Below w.heap.size w w':=by
 have g:=@goalMk_ok
 unfold goalMk at g
 obtain ⟨rel,fr⟩:=heapOf_rel (w:=w) (bl:=[]) (bs:=[]) rfl (show 0 < 4294967296 by decide) (gwT w)
 obtain ⟨_,cc⟩:=wxF_ok hm noSm_ok (g D B V) (Mof []) [.agg (stV D B V).toArray] w none (λ e w'=>e=.returned (.agg (mkV D B V).toArray)/\Below w.heap.size w w') ⟨_,_,⟨_,stL_R _ D B V,rfl⟩,rfl,rfl⟩ rel fr (λ v h' M' u w' hk rv rel' _ f _=>by
  obtain ⟨us,rfl,h1⟩:=cmpG_ok hk rv
  rw [mkL_inv h1]
  exact ⟨rfl,f.os,f.tape,f.output,f.size,λ k hk2=>f.keep k hk2 (own_none (w:=w) (bl:=[]) (bs:=[]) rfl (show 0 < 4294967296 by decide) k)⟩)
 exact CallsIn.calls cc (λ k d hd=>by simp [FW] at hd)
end Go.Proofs.Ytknfdbilpfblnaa.Ex
end
section
noncomputable section
namespace Go.Proofs.Ytknfdbilpfblnaa.Ex
open Go Go.RowKit
def un (n:Nat)(D:Nat->Bool):Nat:=((List.range n).filter λ i=>!D i).length
section
variable (C : CaS) (n : Nat) (K : Nat -> Int) (m : Nat)
def srX:Nat->(Nat->Bool)->(Nat->Bool)->(Nat->Int)->Option (List Nat)
 | f,D,B,V=>if enB C n D=true then some [] else match f with
   | 0=>none
   | f + 1=>(List.range n).findSome? λ i=>if frB C n D i=true/\doLO C i (ixN K m C i) B V=true then (srX f (doLD D i) (doLB C i (ixN K m C i) B) (doLV C i (ixN K m C i) V)).map (i :: ·) else none
end
theorem un_le (n:Nat)(D:Nat->Bool):un n D<=n:=by
 have:=List.length_filter_le (λ i=>!D i) (List.range n)
 rw [List.length_range] at this
 exact this
theorem filter_one {p q:Nat->Bool}{i:Nat}(hq:∀ j,q j=(p j && !decide (i=j)))(hp:p i=true):∀ n,(List.filter q (List.range n)).length + (if i < n then 1 else 0)=(List.filter p (List.range n)).length
 | 0=>by simp
 | n + 1=>by
   have ih:=filter_one hq hp n
   rw [List.range_succ,List.filter_append,List.filter_append,List.length_append,List.length_append]
   by_cases h:i=n
   . subst h
     have h1:q i=false:=by rw [hq];simp
     simp only [List.filter_cons,List.filter_nil,h1,hp]
     simp at ih ⊢
     exact ih
   . have h1:q n=p n:=by rw [hq];simp [h]
     simp only [List.filter_cons,List.filter_nil,h1]
     have e:(if i < n + 1 then 1 else 0)=(if i < n then 1 else (0:Nat)):=by split <;> split <;> omega
     rw [e]
     omega
theorem un_next {n i:Nat}{D:Nat->Bool}(hi:i < n)(hd:D i=false):un n (doLD D i) + 1=un n D:=by
 have:=filter_one (p:=λ j=>!D j) (q:=λ j=>!doLD D i j) (i:=i) (λ j=>by
  unfold doLD
  by_cases h:i=j <;> simp [h]) (by simp [hd]) n
 rw [if_pos hi] at this
 exact this
theorem un_pos {C:CaS}{n:Nat}{D:Nat->Bool}(h:enB C n D=false):0 < un n D:=by
 have h:=of_decide_eq_false h
 refine Classical.byContradiction λ hc=>h λ k hk _=>?_
 have h0:un n D=0:=by omega
 unfold un at h0
 rw [List.length_eq_zero_iff,List.filter_eq_nil_iff] at h0
 have:=h0 k (List.mem_range.2 hk)
 simpa using this
structure SameS (D B:Nat->Bool)(V:Nat->Int)(D' B':Nat->Bool)(V':Nat->Int):Prop where
 d:∀ i,i < 12->D i=D' i
 b:∀ q,q < 6->B q=B' q
 v:∀ q,q < 6->V q=V' q
theorem SameS.step {C:CaS}{i k:Nat}{D B:Nat->Bool}{V:Nat->Int}{D' B':Nat->Bool}{V':Nat->Int}(h:SameS D B V D' B' V'):SameS (doLD D i) (doLB C i k B) (doLV C i k V) (doLD D' i) (doLB C i k B') (doLV C i k V'):=
 ⟨λ j hj=>by unfold doLD;rw [h.d j hj],λ q hq=>by unfold doLB;rw [h.b q hq],λ q hq=>by unfold doLV;rw [h.v q hq]⟩
theorem un_same {n:Nat}(hn:n<=12){D D':Nat->Bool}(h:∀ i,i < 12->D i=D' i):un n D=un n D':=by
 unfold un
 congr 1
 refine List.filter_congr λ i hi=>?_
 rw [h i (by have:=List.mem_range.1 hi;omega)]
theorem findSome_congr {α:Type}{f g:Nat->Option α}:∀ {l:List Nat},(∀ i ∈ l,f i=g i)->l.findSome? f=l.findSome? g
 | [],_=>rfl
 | a :: l,h=>by
   rw [List.findSome?_cons,List.findSome?_cons,h a (by simp),findSome_congr (λ i hi=>h i (by simp [hi]))]
theorem srX_same {C:CaS}{n:Nat}{K:Nat->Int}{m:Nat}(hn:n<=12)(hk:∀ i,i < n->ixN K m C i < 6):∀ (f:Nat) {D B:Nat->Bool} {V:Nat->Int} {D' B':Nat->Bool} {V':Nat->Int},SameS D B V D' B' V'->srX C n K m f D B V=srX C n K m f D' B' V':=λ f=>by
 have he:∀ {D D':Nat->Bool},(∀ i,i < 12->D i=D' i)->enB C n D=enB C n D':=λ {D D'} h=>by
  unfold enB
  rw [decide_eq_decide]
  constructor <;> intro g k hk2 ho
  . rw [<- h k (by omega)];exact g k hk2 ho
  . rw [h k (by omega)];exact g k hk2 ho
 induction f with
 | zero=>intro D B V D' B' V' h;unfold srX;rw [he h.d]
 | succ f ih=>
   intro D B V D' B' V' h
   unfold srX
   rw [he h.d]
   split
   . rfl
   . refine findSome_congr λ i hi=>?_
     have hi:=List.mem_range.1 hi
     have h1:frB C n D i=frB C n D' i:=by
      unfold frB
      rw [decide_eq_decide,h.d i (by omega)]
      constructor <;> rintro ⟨g1,g2⟩ <;> refine ⟨g1,λ k hk2 hd=>g2 k hk2 ?_⟩
      . rw [h.d k (by omega)];exact hd
      . rw [<- h.d k (by omega)];exact hd
     have h2:doLO C i (ixN K m C i) B V=doLO C i (ixN K m C i) B' V':=by
      unfold doLO
      rw [h.b _ (hk i hi),h.v _ (hk i hi)]
     rw [h1,h2,ih (h.step (C:=C) (i:=i) (k:=ixN K m C i))]
structure VOk (B:Nat->Bool)(V:Nat->Int):Prop where
 wf:∀ q,q < 6->(Lit.int .u64 (V q)).wf=true
 z:∀ q,q < 6->B q=false->V q=0
theorem VOk.step {C:CaS}{i k:Nat}{B:Nat->Bool}{V:Nat->Int}(h:VOk B V)(hw:(Lit.int .u64 (cqVal C i)).wf=true):VOk (doLB C i k B) (doLV C i k V) where
 wf q hq:=by
  unfold doLV
  cases doLF C i with
  | true=>exact h.wf q hq
  | false=>
    simp only [cond_false]
    cases decide (k=q) with
    | false=>exact h.wf q hq
    | true=>
      simp only [cond_true]
      split
      . exact hw
      . split
        . rfl
        . exact h.wf q hq
 z q hq:=by
   unfold doLV doLB
   cases doLF C i with
   | true=>exact h.z q hq
   | false=>
     simp only [cond_false]
     cases decide (k=q) with
     | false=>exact h.z q hq
     | true=>
       simp only [cond_true]
       split
       . intro h;cases h
       . split
         . intro _;rfl
         . exact h.z q hq
theorem mk1_12 {D:Nat->Bool}{j:Nat}(hj:j < 12):mk1 D 12 j=ySel (D j) 1 0:=by unfold mk1;rw [decide_eq_true hj];rfl
theorem mk2_6 {B:Nat->Bool}{q:Nat}(hq:q < 6):mk2 B 6 q=ySel (B q) 1 0:=by unfold mk2;rw [decide_eq_true hq];rfl
theorem mk3_6 {B:Nat->Bool}{V:Nat->Int}{q:Nat}(hq:q < 6):mk3 B V 6 q=ySel (B q) (V q) 0:=by unfold mk3;rw [decide_eq_true hq];rfl
theorem ySel_inj {a b:Bool}(h:ySel a 1 0=ySel b 1 0):a=b:=by cases a <;> cases b <;> first | rfl | (exact absurd h (by decide))
theorem mkV_inj {D B:Nat->Bool}{V:Nat->Int}{D' B':Nat->Bool}{V':Nat->Int}(hv:VOk B V)(hv':VOk B' V')(h:mkV D B V=mkV D' B' V'):SameS D B V D' B' V':=by
 have key:∀ (i:Nat) (hi:i < 24),(mkV D B V)[i]?=(mkV D' B' V')[i]?:=λ i hi=>by rw [h]
 have hd:∀ i,i < 12->mk1 D 12 i=mk1 D' 12 i:=λ i hi=>by
  have:=key i (by omega)
  match i,hi with
  | 0,_ | 1,_ | 2,_ | 3,_ | 4,_ | 5,_ | 6,_ | 7,_ | 8,_ | 9,_ | 10,_ | 11,_=>simpa using this
  | n + 12,h=>omega
 have hb:∀ q,q < 6->mk2 B 6 q=mk2 B' 6 q:=λ q hq=>by
  have:=key (12 + 2 * q) (by omega)
  match q,hq with
  | 0,_ | 1,_ | 2,_ | 3,_ | 4,_ | 5,_=>simpa using this
  | n + 6,h=>omega
 have hw:∀ q,q < 6->mk3 B V 6 q=mk3 B' V' 6 q:=λ q hq=>by
  have:=key (13 + 2 * q) (by omega)
  match q,hq with
  | 0,_ | 1,_ | 2,_ | 3,_ | 4,_ | 5,_=>simpa using this
  | n + 6,h=>omega
 have hb2:∀ q,q < 6->B q=B' q:=λ q hq=>ySel_inj (by rw [<- mk2_6 hq,<- mk2_6 hq];exact hb q hq)
 refine ⟨λ i hi=>ySel_inj (by rw [<- mk1_12 hi,<- mk1_12 hi];exact hd i hi),hb2,λ q hq=>?_⟩
 have:=hw q hq
 rw [mk3_6 hq,mk3_6 hq,<- hb2 q hq] at this
 cases hB:B q with
 | true=>rw [hB] at this;exact this
 | false=>rw [hv.z q hq hB,hv'.z q hq ((hb2 q hq).symm.trans hB)]
theorem mkLaw:WideMaps.KeyLaw Try.prog 102:=deep_law_laid (by kernel_rfl) (m:=2) (by omega) (of_decide_eq_true (by kernel_rfl)) (by kernel_rfl) (by kernel_rfl)
theorem keyU (d:Nat){x:Value}(h:∃ n,x=.int .u64 n/\(Lit.int .u64 n).wf=true):∃ y,Try.prog.keyLits (d + 1) 34 [x]=some y:=by
 obtain ⟨n,rfl,hw⟩:=h
 have hu:Try.prog.underlying 34=some (.int .u64):=by kernel_rfl
 exact ⟨[.int .u64 n],by simp [Program.keyLits,hu,hw]⟩
theorem keyLits_arr {P:Program}{d:Nat}{t e:TypeId}{n:Nat}{cs:List Value}(hu:P.underlying t=some (.array n e)):P.keyLits (d + 1) t cs=if cs.length=P.cellsOf t then ((List.range n).mapM λ i=>P.keyLits d e ((cs.drop (i * P.cellsOf e)).take (P.cellsOf e))).map List.flatten else none:=by
 conv=>lhs;unfold Program.keyLits
 simp only [hu]
theorem pos_succ {n:Nat}(h:0 < n):∃ d,n=d + 1:=⟨n - 1,by omega⟩
theorem tsz:∃ d,Try.prog.types.size=d + 1:=pos_succ (of_decide_eq_true (by kernel_rfl))
set_option maxHeartbeats 1000000 in
theorem mk_key {D B:Nat->Bool}{V:Nat->Int}(h:VOk B V):∃ l,keyOf Try.prog 102 (.agg (mkV D B V).toArray)=some l:=by
 have hu:Try.prog.underlying 102=some (.array 24 34):=by kernel_rfl
 have hkt:Try.prog.keyType 102=true:=by kernel_rfl
 have hc:Try.prog.cellsOf 102=24:=by kernel_rfl
 have hc2:Try.prog.cellsOf 34=1:=by kernel_rfl
 obtain ⟨d,hd⟩:=tsz
 have w0:∀ b:Bool,(Lit.int .u64 (ySel b 1 0)).wf=true:=λ b=>by cases b <;> rfl
 have w1:∀ j,j < 12->(Lit.int .u64 (mk1 D 12 j)).wf=true:=λ j hj=>by rw [mk1_12 hj];exact w0 _
 have w2:∀ j,j < 6->(Lit.int .u64 (mk2 B 6 j)).wf=true:=λ j hj=>by rw [mk2_6 hj];exact w0 _
 have w3:∀ j,j < 6->(Lit.int .u64 (mk3 B V 6 j)).wf=true:=λ j hj=>by
  rw [mk3_6 hj]
  cases B j with
  | true=>exact h.wf j hj
  | false=>rfl
 have hall:∀ x ∈ mkV D B V,∃ n,x=.int .u64 n/\(Lit.int .u64 n).wf=true:=λ x hx=>by
  simp only [mkV,List.mem_cons,List.not_mem_nil,or_false] at hx
  rcases hx with rfl | rfl | rfl | rfl | rfl | rfl | rfl | rfl | rfl | rfl | rfl | rfl | rfl | rfl | rfl | rfl | rfl | rfl | rfl | rfl | rfl | rfl | rfl | rfl <;> first | exact ⟨_,rfl,w1 _ (by decide)⟩ | exact ⟨_,rfl,w2 _ (by decide)⟩ | exact ⟨_,rfl,w3 _ (by decide)⟩
 obtain ⟨r,hr⟩:=MapFrom.mapM_some (f:=λ i=>Try.prog.keyLits (d + 1) 34 (((mkV D B V).drop (i * 1)).take 1)) (l:=List.range 24) (λ i hi=>by
  have hi:i < (mkV D B V).length:=List.mem_range.1 hi
  have e:((mkV D B V).drop (i * 1)).take 1=[(mkV D B V)[i]]:=by
   rw [Nat.mul_one,List.drop_eq_getElem_cons hi];rfl
  rw [e]
  exact keyU d (hall _ (List.getElem_mem _)))
 refine ⟨.string (keyBytes r.flatten),?_⟩
 unfold keyOf
 simp only [hu,hkt,hd,Value.formed,hc]
 have e1:((mkV D B V).toArray.size == 24)=true:=rfl
 have e2:(Value.agg (mkV D B V).toArray).cells.toList=mkV D B V:=rfl
 rw [e1,e2]
 simp only [Bool.and_self,if_true]
 rw [keyLits_arr hu,hc,hc2,if_pos (show (mkV D B V).length=24 from rfl),hr]
 rfl
end Go.Proofs.Ytknfdbilpfblnaa.Ex
end
section
noncomputable section
namespace Go.Proofs.Ytknfdbilpfblnaa
open Go
section
variable {P : Program} {ops : Array Oper} {Q : Exit -> Act -> World -> Prop} {md : Region.Mode} {H : List (Nat × (World -> Prop))}
def HeldTill (H:List (Nat × (World->Prop)))(listed:Array Bool)(w:World):Prop:=∀ x ∈ H,listed.getD x.1 true=false->x.2 w
def ClosedUp (md:Region.Mode)(ops:Array Oper)(listed:Array Bool):Prop:=
 ∀ j oj,ops[j]?=some oj->listed.getD j true=true->∀ e ∈ oj.after,Region.binds md e=true->listed.getD e.on false=true
def wpAnyS (P:Program)(md:Region.Mode)(ops:Array Oper)(Q:Exit->Act->World->Prop)(H:List (Nat × (World->Prop))):Nat->Array Bool->Act->World->Prop
 | 0,listed,a,w=>Region.ready md ops listed=[]/\Q .normal a w
 | fuel + 1,listed,a,w=>
   (Region.ready md ops listed=[]->Q .normal a w) ∧
   ∀ i ∈ Region.ready md ops listed,wpOp P ops Q i (λ a' w'=>HeldTill H (listed.setIfInBounds i true) w'/\wpAnyS P md ops Q H fuel (listed.setIfInBounds i true) a' w') a w
theorem wpAny_of_S:∀ (fuel:Nat) (listed:Array Bool) (a:Act) (w:World),wpAnyS P md ops Q H fuel listed a w->wpAny P md ops Q fuel listed a w
 | 0,_,_,_,h=>h
 | fuel + 1,_,_,_,h=>⟨h.1,λ i hi=>wpOp_mono (λ a' w' h'=>wpAny_of_S fuel _ a' w' h'.2) (h.2 i hi)⟩
theorem ClosedUp.step {listed:Array Bool}(h:ClosedUp md ops listed)(hsz:listed.size=ops.size){i:Nat}(hi:i ∈ Region.ready md ops listed):ClosedUp md ops (listed.setIfInBounds i true):=by
 obtain ⟨hun,oi,hoi,hall⟩:=mem_ready.1 hi
 have hil:i < listed.size:=by rw [hsz];exact (Array.getElem?_eq_some_iff.1 hoi).1
 intro j oj hj hl e he hb
 have key:listed.getD e.on false=true:=by
  by_cases hji:j=i
  . subst hji
    rw [hoi] at hj;cases hj
    exact hall e he hb
  . refine h j oj hj ?_ e he hb
    rwa [getD_set_ne true (Ne.symm hji)] at hl
 by_cases hei:e.on=i
 . rw [hei];simp [hil]
 . rw [getD_set_ne false (Ne.symm hei)];exact key
theorem wpAnyS_first {i:Nat}{oi:Oper}{v:Value}{T:World->Prop}(hi:ops[i]?=some oi)(hsel:∀ (j:Nat) (o:Oper) cs b,ops[j]?=some o->o.op ≠ .select cs b)
 (hQ:∀ c a w,Q (.panic c) (a.put oi.dst v) w->Q (.panic c) a w) (hne:∀ x ∈ H,x.1 ≠ i)
 (hT:∀ (l:Array Bool) w,ClosedUp md ops l->l.getD i true=false->HeldTill H l w->T w) :
 ∀ (fuel:Nat) (listed:Array Bool) (a:Act) (w:World),listed.size=ops.size->ClosedUp md ops listed →
   (∀ j oj,ops[j]?=some oj->j ≠ i->listed.getD j true=false->(∀ e ∈ oj.after,Region.binds md e=true->e.on ≠ i)->oi.apart ops oj=true) →
   i ∈ Region.ready md ops listed->YieldsIf P ops T oi v a->HeldTill H listed w →
   wpAnyS P md ops Q H fuel (listed.setIfInBounds i true) (a.put oi.dst v) w->wpAnyS P md ops Q H (fuel + 1) listed a w:=by
 have hput:∀ (listed:Array Bool) (w:World),HeldTill H listed w->HeldTill H (listed.setIfInBounds i true) w:=λ listed w h x hx hl=>by
  refine h x hx ?_
  rwa [getD_set_ne true (Ne.symm (hne x hx))] at hl
 intro fuel
 induction fuel with
 | zero=>
   intro listed a w _ hcl _ hr hy hS hh
   refine ⟨λ h=>(by rw [h] at hr;cases hr),λ j hj=>?_⟩
   by_cases hji:j=i
   . subst hji;exact hy.wpOp hi (hT listed w hcl (mem_ready.1 hr).1 hS) ⟨hput _ _ hS,hh⟩
   . have:=ready_mono hj hji
     rw [hh.1] at this
     cases this
 | succ fuel ih=>
   intro listed a w hsz hcl hfree hr hy hS hh
   refine ⟨λ h=>(by rw [h] at hr;cases hr),λ j hj=>?_⟩
   by_cases hji:j=i
   . subst hji;exact hy.wpOp hi (hT listed w hcl (mem_ready.1 hr).1 hS) ⟨hput _ _ hS,hh⟩
   . have h1:=hh.2 j (ready_mono hj hji)
     obtain ⟨hjun,oj,hoj,hall⟩:=mem_ready.1 hj
     have hnot:∀ e ∈ oj.after,Region.binds md e=true->e.on ≠ i:=λ e he hb heq=>by
      have h1:=hall e he hb
      have h0:=(mem_ready.1 hr).1
      rw [heq] at h1
      rcases Nat.lt_or_ge i listed.size with h' | h'
      . simp [h'] at h0 h1;rw [h0] at h1;cases h1
      . simp [Array.getElem?_eq_none h'] at h1
     have h2:=wpOp_putIf hoj (hfree j oj hoj hji hjun hnot) (λ cs b=>hsel i oi cs b hi) (λ cs b=>hsel j oj cs b hoj) hQ hy h1
     have hfree':∀ k ok,ops[k]?=some ok->k ≠ i->(listed.setIfInBounds j true).getD k true=false →
      (∀ e ∈ ok.after,Region.binds md e=true->e.on ≠ i)->oi.apart ops ok=true:=λ k ok hk hki hun hno=>by
      refine hfree k ok hk hki ?_ hno
      by_cases hjk:j=k
      . subst hjk;exact hjun
      . rw [getD_set_ne true hjk] at hun;exact hun
     have hback:∀ w',HeldTill H ((listed.setIfInBounds i true).setIfInBounds j true) w'->HeldTill H (listed.setIfInBounds j true) w':=λ w' h x hx hl=>by
      refine h x hx ?_
      rw [Array.setIfInBounds_comm _ _ (Ne.symm hji),getD_set_ne true (Ne.symm (hne x hx))]
      exact hl
     refine wpOp_mono (λ a' w' h3=>⟨hback w' h3.2.1,ih (listed.setIfInBounds j true) a' w' (by simpa using hsz) (hcl.step hsz hj) hfree' (ready_mono hr (Ne.symm hji)) h3.1 (hback w' h3.2.1) ?_⟩) h2
     rw [Array.setIfInBounds_comm _ _ hji]
     exact h3.2.2
def waitsIn (md:Region.Mode)(ops:Array Oper):Nat->Nat->Nat->Bool
 | 0,_,_=>false
 | f + 1,c,i=>match ops[c]? with | some oc=>oc.after.any (λ e=>Region.binds md e && (e.on == i || waitsIn md ops f e.on i)) | none=>false
def waitsFor (md:Region.Mode)(ops:Array Oper)(c i:Nat):Bool:=waitsIn md ops 40 c i
theorem waitsIn_listed {l:Array Bool}(hcl:ClosedUp md ops l):∀ (f c i:Nat),waitsIn md ops f c i=true->l.getD c true=true->l.getD i false=true:=by
 intro f
 induction f with
 | zero=>intro c i h;cases h
 | succ f ih=>
   intro c i h hl
   unfold waitsIn at h
   split at h
   . rename_i oc hoc
     obtain ⟨e,he,hb⟩:=Array.any_eq_true'.1 h
     simp only [Bool.and_eq_true,Bool.or_eq_true,beq_iff_eq] at hb
     have h1:=hcl c oc hoc hl e he hb.1
     rcases hb.2 with h2 | h2
     . rw [h2] at h1;exact h1
     . refine ih e.on i h2 ?_
       rcases Nat.lt_or_ge e.on l.size with h' | h'
       . simp [h'] at h1 ⊢;exact h1
       . simp [Array.getElem?_eq_none h'] at h1
   . cases h
def closedUpB (md:Region.Mode)(ops:Array Oper)(listed:Array Bool):Bool:=
 (List.range ops.size).all λ j=>match ops[j]? with | some oj=>!listed.getD j true || oj.after.all λ e=>!Region.binds md e || listed.getD e.on false | none=>true
theorem closedUpB_spec {listed:Array Bool}(h:closedUpB md ops listed=true):ClosedUp md ops listed:=by
 intro j oj hj hl e he hb
 have hjl:j < ops.size:=(Array.getElem?_eq_some_iff.1 hj).1
 have:=List.all_eq_true.1 h j (List.mem_range.2 hjl)
 simp only [hj,hl,Bool.not_true,Bool.false_or] at this
 have:=Array.all_eq_true'.1 this e he
 simpa [hb] using this
theorem wpAnyS_take {i:Nat}{oi:Oper}{v:Value}{fuel:Nat}{listed:Array Bool}{a:Act}{w:World}(hi:ops[i]?=some oi)
 (hs:Region.noSelect ops=true) (hf:Region.free md ops listed i=true) (hr:(Region.ready md ops listed).contains i=true)
 (hc:closedUpB md ops listed=true) (hsz:listed.size=ops.size) (hn:H.all (λ x=>x.1 != i)=true)
 (hQ:∀ c a w,Q (.panic c) (a.put oi.dst v) w->Q (.panic c) a w) (hS:HeldTill H listed w) (hy:YieldsIf P ops (λ _=>True) oi v a)
 (h:HeldTill H (listed.setIfInBounds i true) w->wpAnyS P md ops Q H fuel (listed.setIfInBounds i true) (a.put oi.dst v) w):wpAnyS P md ops Q H (fuel + 1) listed a w:=
 have hne:∀ x ∈ H,x.1 ≠ i:=λ x hx=>by simpa using List.all_eq_true.1 hn x hx
 wpAnyS_first hi (Region.noSelect_spec hs) hQ hne (λ _ _ _ _ _=>trivial) fuel listed a w hsz (closedUpB_spec hc) (Region.free_spec hi hf) (by simpa using hr) hy hS
  (h λ x hx hl=>hS x hx (by rwa [getD_set_ne true (Ne.symm (hne x hx))] at hl))
theorem wpAnyS_load {i c:Nat}{oi:Oper}{v:Value}{T:World->Prop}{fuel:Nat}{listed:Array Bool}{a:Act}{w:World}(hi:ops[i]?=some oi)
 (hs:Region.noSelect ops=true) (hf:Region.free md ops listed i=true) (hr:(Region.ready md ops listed).contains i=true)
 (hc:closedUpB md ops listed=true) (hsz:listed.size=ops.size) (hn:H.all (λ x=>x.1 != i)=true) (hw:waitsFor md ops c i=true) (hcT:(c,T) ∈ H)
 (hQ:∀ c a w,Q (.panic c) (a.put oi.dst v) w->Q (.panic c) a w) (hS:HeldTill H listed w) (hy:YieldsIf P ops T oi v a)
 (h:HeldTill H (listed.setIfInBounds i true) w->wpAnyS P md ops Q H fuel (listed.setIfInBounds i true) (a.put oi.dst v) w):wpAnyS P md ops Q H (fuel + 1) listed a w:=
 have hne:∀ x ∈ H,x.1 ≠ i:=λ x hx=>by simpa using List.all_eq_true.1 hn x hx
 wpAnyS_first hi (Region.noSelect_spec hs) hQ hne (λ l w' hcl hl hH=>by
  refine hH (c,T) hcT ?_
  cases hlc:l.getD c true with
  | false=>rfl
  | true=>
    have:=waitsIn_listed hcl 40 c i hw hlc
    rcases Nat.lt_or_ge i l.size with h' | h'
    . simp [h'] at hl this;rw [hl] at this;cases this
    . simp [Array.getElem?_eq_none h'] at this) fuel listed a w hsz (closedUpB_spec hc) (Region.free_spec hi hf) (by simpa using hr) hy hS
  (h λ x hx hl=>hS x hx (by rwa [getD_set_ne true (Ne.symm (hne x hx))] at hl))
def AllReadyS (P:Program)(md:Region.Mode)(ops:Array Oper)(Q:Exit->Act->World->Prop)(H:List (Nat × (World->Prop)))(fuel:Nat)(listed:Array Bool)(a:Act)(w:World)(rs:List Nat):Prop:=
 ∀ i ∈ rs,wpOp P ops Q i (λ a' w'=>HeldTill H (listed.setIfInBounds i true) w'/\wpAnyS P md ops Q H fuel (listed.setIfInBounds i true) a' w') a w
theorem AllReadyS.nil {fuel:Nat}{listed:Array Bool}{a:Act}{w:World}:AllReadyS P md ops Q H fuel listed a w []:=λ _ h=>by cases h
theorem AllReadyS.cons {fuel:Nat}{listed:Array Bool}{a:Act}{w:World}{i:Nat}{o:Oper}{rs:List Nat}(ho:ops[i]?=some o)
 (h:∀ K':Act->World->Prop,Shut (∀ a w,HeldTill H (listed.setIfInBounds i true) w->(HeldTill H (listed.setIfInBounds i true) w->wpAnyS P md ops Q H fuel (listed.setIfInBounds i true) a w)->K' a w)->if Region.wanted o (yielded ops a.tmps)=true then Oper.wp P o a w K' Q else K' (a.put o.dst undef) w)
 (hs:AllReadyS P md ops Q H fuel listed a w rs):AllReadyS P md ops Q H fuel listed a w (i :: rs):=λ j hj=>by
 rcases List.mem_cons.1 hj with rfl | hj
 . exact wpOp_step ho (λ K' hK=>h K' (λ a w hS hW=>hK a w ⟨hS,hW hS⟩))
 . exact hs j hj
theorem wpAnyS_ready {rs:List Nat}{fuel:Nat}{listed:Array Bool}{a:Act}{w:World}(hr:Region.ready md ops listed=rs)(hne:rs ≠ [])
 (h:AllReadyS P md ops Q H fuel listed a w rs):wpAnyS P md ops Q H (fuel + 1) listed a w:=
 ⟨λ h0=>absurd (hr ▸ h0) hne,hr ▸ h⟩
theorem wpAnyS_done {listed:Array Bool}{a:Act}{w:World}(hr:Region.ready md ops listed=[])(h:Q .normal a w):
 ∀ fuel,wpAnyS P md ops Q H fuel listed a w
 | 0=>⟨hr,h⟩
 | _ + 1=>⟨λ _=>h,by rw [hr];simp⟩
theorem wp_region_S {id:Nat}{a:Act}{w:World}(H:List (Nat × (World->Prop)))(hm:P.follows .mixedOrders=true)
 (h:wpAnyS P .any ops Q H ops.size (Array.replicate ops.size false) a w.drew):(Code.region id ops true).wp P Q a w:=
 wp_region_any hm (wpAny_of_S _ _ _ _ h)
end
end Go.Proofs.Ytknfdbilpfblnaa
end
section
noncomputable section
namespace Go.Proofs.Ytknfdbilpfblnaa.Ex
open Go Go.RowKit
abbrev St3:=(Nat->Bool) × (Nat->Bool) × (Nat->Int)
structure TrQ (C:CaS)(n:Nat)(K:Nat->Int)(m:Nat)(Q:St3->Prop)(es:Array MapEntry)(clock:Nat):Prop where
 st:MapKept.Stamped es clock
 ent:∀ x ∈ es.toList,∃ D B V,x.key=.agg (mkV D B V).toArray/\x.val=.int .i64 1/\VOk B V/\(srX C n K m (un n D) D B V=none ∨ Q (D,B,V))
def smW (C:CaS)(n:Nat):Prop:=∀ i,i < n->(Lit.int .u64 (cqVal C i)).wf=true
abbrev idsO (C:CaS)(l:List Nat):List Value:=l.map λ i=>.int .i64 (cqId C i)
structure FrR (C:CaS)(n:Nat)(K:Nat->Int)(m:Nat)(bs bm:Nat)(vc vk vo:Value)(w:World)(O:List Nat)(Q:St3->Prop)(r:Option (List Nat))(e:Ending)(w':World):Prop where
 ret:e=.returned (.bool r.isSome)
 out:∃ vo' es' clock',w'.heap[bs]?=some (.cells #[vc,vk,.map (some bm),vo'] 57 (0,0))/\w'.heap[bm]?=some (.map es' clock') ∧
  Kp (λ g=>g=bs ∨ g=bm ∨ vo.ownBlock=some g) w w'/\(∀ g,vo'.ownBlock=some g->vo.ownBlock=some g ∨ w.heap.size<=g) ∧
  w'.ownsRow 0 3 1 vo' (O ++ r.getD []).length (idsO C (O ++ r.getD []))/\(r=none->TrQ C n K m Q es' clock')/\(r=some []->vo'=vo)
theorem SrW.below {nc:Bool}{n:Nat}{C:CaS}{nk:Bool}{m:Nat}{K:Nat->Int}{Z:Nat->Option (Array Value)}{bs:Nat}{vc vk vm vo:Value}{w w':World}(h:SrW nc n C nk m K Z bs vc vk vm vo w)(hb:Below w.heap.size w w'):SrW nc n C nk m K Z bs vc vk vm vo w':=
 ⟨(hb.block bs (heap_lt h.hs)).trans h.hs,λ b cs e=>by obtain ⟨t,fr,h1⟩:=h.fz b cs e;exact ⟨t,fr,(hb.block b (heap_lt h1)).trans h1⟩,h.rc,h.rk,h.oc,h.ok,h.om,h.oo⟩
theorem Below.alloc' (w:World)(o:Obj):Below w.heap.size w (w.alloc o):=(Below.refl _ w).alloc (Nat.le_refl _) o
theorem ha_newS (w:World)(o:Obj):(w.alloc o).heap[w.heap.size]?=some o:=heap_alloc_new w o
theorem load_whole {P:Program}{W:World}{b k:Nat}{cs:Array Value}{t:TypeId}{fr:Nat × Nat}(ha:aggT P t=some true)(hz:sizeT P t=some k)(h:W.heap[b]?=some (.cells cs t fr))(hs:cs.size=k):(Instr.loadAt t (.pointer (some ⟨b,0,none⟩))).run P W=.ok (.agg cs) W:=by
 have:=run_loadCells_list (P:=P) W ⟨b,0,none⟩ cs.toList (λ j v hj=>by
  rw [addr_add,Nat.zero_add]
  simp only [World.cell?,h]
  simpa using hj)
 simp only [Array.length_toList,hs] at this
 simp [Instr.loadAt,Instr.sureAddr,loadVar,aggT_ok ha,sizeT_ok hz,this]
theorem wpList_load_run {P:Program}{w:World}{ops:Array Oper}{rest:List Oper}{o:Oper}{a:Act}{Q:Exit->Act->World->Prop}(t:TypeId)(x:Operand)(v:Value)(hgd:o.guard=none)(ho:o.op=.load t x)
 (hr:(Instr.loadAt t (a.eval x)).run P w=.ok v w) (h:wpList P ops Q rest (a.put o.dst v) w):wpList P ops Q (o :: rest) a w:=
 wpList_plain hgd λ K hK=>by
  unfold Oper.wp execOp
  simp [ho,hr,Result.andThen]
  exact hK _ _ h
theorem wpList_store_run {P:Program}{w w':World}{ops:Array Oper}{rest:List Oper}{o:Oper}{a:Act}{Q:Exit->Act->World->Prop}(t:TypeId)(x y:Operand)(hgd:o.guard=none)(ho:o.op=.store t x y)
 (hr:(Instr.storeAt t (a.eval x) (a.eval y)).run P w=.ok () w') (h:wpList P ops Q rest (a.put o.dst undef) w'):wpList P ops Q (o :: rest) a w:=
 wpList_plain hgd λ K hK=>by
  unfold Oper.wp execOp
  simp [ho,hr,Result.andThen]
  exact hK _ _ h
theorem store_whole {P:Program}{W:World}{b k:Nat}{cur mv:Array Value}{t e:TypeId}(hz:sizeT P t=some k)(h:W.heap[b]?=some (.cells cur e (0,0)))(hs:cur.size=k)(hm:mv.size=k)(h1:∀ u ∈ mv.toList,u.oneCell'=true):(Instr.storeAt t (.pointer (some ⟨b,0,none⟩)) (.agg mv)).run P W=.ok () (W.setRow b mv):=by
 have hst:=run_storeCells_at P b 0 e mv.toList 0 cur W h (by simp;omega) h1
 simp only [Nat.add_zero,List.take_zero,List.nil_append] at hst
 have hd:List.drop (0 + mv.toList.length) cur.toList=[]:=List.drop_eq_nil_of_le (by simp;omega)
 rw [hd,List.append_nil] at hst
 simp [Instr.storeAt,Instr.sureAddr,storeVar,sizeT_ok hz,Value.cells,hm,hst]
def FromS (nc:Bool)(n:Nat)(C:CaS)(nk:Bool)(m:Nat)(K:Nat->Int)(Z:Nat->Option (Array Value))(bs bm:Nat)(vc vk:Value)(k:Nat):Prop:=
 ∀ (D B:Nat->Bool) (V:Nat->Int) (w:World) (vo:Value) (O:List Nat) (es:Array MapEntry) (clock:Nat) (Q:St3->Prop),
   SrW nc n C nk m K Z bs vc vk (.map (some bm)) vo w->un n D=k->VOk B V->w.heap[bm]?=some (.map es clock)->TrQ C n K m Q es clock->(∀ s,Q s->k < un n s.1) →
   w.ownsRow 0 3 1 vo O.length (idsO C O)->(∀ g,vo.ownBlock=some g->g ≠ bs/\g ≠ bm/\Z g=none)->O.length + k<=100 →
   Calls Try.prog 19 #[.pointer (some ⟨bs,0,none⟩),.agg (stV D B V).toArray] w (FrR C n K m bs bm vc vk vo w O Q (srX C n K m k D B V))
theorem owns_same {w w':World}{base:Nat}{e:TypeId}{size:Nat}{v:Value}{k:Nat}{xs:List Value}(h:w.ownsRow base e size v k xs)(hb:∀ g,v.ownBlock=some g->g < w.heap.size->w'.heap[g]?=w.heap[g]?):w'.ownsRow base e size v k xs:=by
 refine ⟨h.1,?_⟩
 rcases h.2 with h | ⟨g,cap,cur,rfl,h1,h2,h3⟩
 . exact .inl h
 . exact .inr ⟨g,cap,cur,rfl,h1,(hb g rfl (heap_lt h2)).trans h2,h3⟩
theorem srX_en {C:CaS}{n:Nat}{K:Nat->Int}{m k:Nat}{D B:Nat->Bool}{V:Nat->Int}(h:enB C n D=true):srX C n K m k D B V=some []:=by
 unfold srX;rw [if_pos h]
theorem mkV_one (D B:Nat->Bool)(V:Nat->Int):∀ u ∈ mkV D B V,u.oneCell'=true:=by
 intro u hu
 simp only [mkV,List.mem_cons,List.not_mem_nil,or_false] at hu
 rcases hu with rfl | rfl | rfl | rfl | rfl | rfl | rfl | rfl | rfl | rfl | rfl | rfl | rfl | rfl | rfl | rfl | rfl | rfl | rfl | rfl | rfl | rfl | rfl | rfl <;> rfl
theorem store_box {w w2:World}{w0 b:Nat}{o':Obj}{t:TypeId}{cur mv:Array Value}(hb:Below w0 w w2)(h:w2.heap[b]?=some o')(h0:w0<=w2.heap.size:=by first | exact hb.size | assumption | omega):
 Below w0 w ((w2.alloc (.cells cur t)).setRow w2.heap.size mv)/\((w2.alloc (.cells cur t)).setRow w2.heap.size mv).heap[w2.heap.size]?=some (.cells mv t (0,0))/\((w2.alloc (.cells cur t)).setRow w2.heap.size mv).heap[b]?=some o'/\((w2.alloc (.cells cur t)).setRow w2.heap.size mv).heap.size=w2.heap.size + 1:=by
 have u:=upd_setRow (cs:=mv) (ha_newS w2 (.cells cur t))
 have hbk:∀ k,k < w2.heap.size->((w2.alloc (.cells cur t)).setRow w2.heap.size mv).heap[k]?=w2.heap[k]?:=λ k hk=>by
  rw [u.other k (by omega)]
  exact (Below.alloc' w2 _).block k hk
 refine ⟨⟨hb.os,hb.tape,hb.output,?_,λ k hk=>(hbk k (by omega)).trans (hb.block k hk)⟩,u.at_,(hbk b (heap_lt h)).trans h,?_⟩
 . rw [u.size];have:=hb.size;simp;omega
 . rw [u.size];simp
theorem set_two {w w4:World}{b:Nat}{es:Array MapEntry}{clock:Nat}{es1 es2:Array MapEntry}{c1 c2:Nat}{o1 o2:Obj}(hb:Below w.heap.size w w4)(h:w4.heap[b]?=some (.map es clock))(h1:o1=.map es1 c1:=by rfl)(h2:o2=.map es2 c2:=by rfl):
 Kp (λ g=>g=b) w (ChangeMaps.setBlock (ChangeMaps.setBlock w4.drew b o1) b o2)/\(ChangeMaps.setBlock (ChangeMaps.setBlock w4.drew b o1) b o2).heap[b]?=some o2/\(∀ k,k ≠ b->(ChangeMaps.setBlock (ChangeMaps.setBlock w4.drew b o1) b o2).heap[k]?=w4.heap[k]?)/\(ChangeMaps.setBlock (ChangeMaps.setBlock w4.drew b o1) b o2).heap.size=w4.heap.size:=by
 subst h1
 have e1:(ChangeMaps.setBlock w4.drew b (.map es1 c1)).heap[b]?=some (.map es1 c1):=ChangeMaps.heap_setBlock_same (w:=w4.drew) h _
 have ho:∀ k,k ≠ b->(ChangeMaps.setBlock (ChangeMaps.setBlock w4.drew b (.map es1 c1)) b o2).heap[k]?=w4.heap[k]?:=λ k hk=>
  (ChangeMaps.heap_setBlock_other e1 _ hk).trans (ChangeMaps.heap_setBlock_other (w:=w4.drew) h _ hk)
 have hs:(ChangeMaps.setBlock (ChangeMaps.setBlock w4.drew b (.map es1 c1)) b o2).heap.size=w4.heap.size:=by simp [ChangeMaps.setBlock]
 refine ⟨⟨hb.os,hb.tape,hb.output,?_,λ k hk hn=>(ho k hn).trans (hb.block k hk)⟩,ChangeMaps.heap_setBlock_same e1 _,ho,hs⟩
 rw [hs];exact hb.size
theorem un_pos0 {n k:Nat}{D:Nat->Bool}(h:un n D=k + 1):0 < n:=by have:=un_le n D;omega
theorem lst_pos {M:Mp}{x nil:Bool}{z n:Nat}{f:Nat->Nat->AV}{v:Value}(hn:0 < n)(h:(AV.lst x nil z n f).R M v):∃ b off c cs,v=.slice (some ⟨b,off,none⟩) n c/\n<=c/\M.z b=some cs/\∀ i,i < n->∀ j,j < z->∃ u,cs[off + i * z + j]?=some u/\u.oneCell'=true/\AV.R M (f i j) u:=by
 simp only [AV.R] at h
 rcases h with ⟨_,h,_⟩ | ⟨_,h,_⟩ | ⟨_,_,b,off,c,cs,h1,h2,_,h3,h4⟩
 . omega
 . omega
 . exact ⟨b,off,c,cs,h1,h2,h3,h4⟩
theorem load_cell {P:Program}{W:World}{p:Addr}{t:TypeId}{v:Value}(ha:aggT P t=some false)(h:W.cell? p=some v):(Instr.loadAt t (.pointer (some p))).run P W=.ok v W:=by
 simp [Instr.loadAt,Instr.sureAddr,loadVar,aggT_ok ha,h]
theorem exec_load {P:Program}{ev:Operand->Value}{o:Oper}{w:World}{t:TypeId}{x:Operand}{v:Value}(ho:o.op=.load t x)(hr:(Instr.loadAt t (ev x)).run P w=.ok v w):(execOp ev o).run P w=.ok (.value v) w:=by
 unfold execOp
 simp [ho,hr,Result.andThen]
theorem exec_lookup {P:Program}{ev:Operand->Value}{o:Oper}{w:World}{t:TypeId}{x y:Operand}{v:Value}(ho:o.op=.lookup t x y false)(hr:(Instr.lookup t (ev x) (ev y) false).run P w=.ok v w):(execOp ev o).run P w=.ok (.value v) w:=by
 unfold execOp
 simp [ho,hr,Result.andThen]
theorem step_entry_run {P:Program}{ops:Array Oper}{o:Oper}{a:Act}{w:World}{K:Act->World->Prop}{Q:Exit->Act->World->Prop}{E:Prop}
 (hg:o.guard=none) (t:TypeId) (x y:Operand) (ho:o.op=.mapEntry t x y) {v:Value} {w':World} (hr:(Instr.mapEntry t (a.eval x) (a.eval y)).run P w=.ok v w') (hK:K (a.put o.dst v) w') :
 if Region.wanted o (yielded ops a.tmps)=true then Oper.wp P o a w K Q else E:=by
 have hw:Region.wanted o (yielded ops a.tmps)=true:=by simp [Region.wanted,hg]
 rw [if_pos hw]
 unfold Oper.wp
 simp [execOp,ho,hr,Result.andThen]
 exact hK
theorem step_entryStore_run {P:Program}{ops:Array Oper}{o:Oper}{a:Act}{w:World}{K:Act->World->Prop}{Q:Exit->Act->World->Prop}{E:Prop}
 (hg:o.guard=none) (t:TypeId) (x y z:Operand) (ho:o.op=.entryStore t x y z) {w':World} (hr:(Instr.entryStore t (a.eval x) (a.eval y) (a.eval z)).run P w=.ok () w') (hK:K (a.put o.dst undef) w') :
 if Region.wanted o (yielded ops a.tmps)=true then Oper.wp P o a w K Q else E:=by
 have hw:Region.wanted o (yielded ops a.tmps)=true:=by simp [Region.wanted,hg]
 rw [if_pos hw]
 unfold Oper.wp
 simp [execOp,ho,hr,Result.andThen]
 exact hK
section
variable {es : Array MapEntry} {clock : Nat} {bm : Nat} {key : Value} {kl : Lit}
theorem mapTy:Try.prog.underlying 54=some (.map 102 3):=by kernel_rfl
theorem zeroInt (w:World):(zeroValue 3).run Try.prog w=.ok (.int .i64 0) w:=by
 have hz:(Try.prog.info? 3).map (λ i=>i.zero)=some (some (.int .i64 0)):=by kernel_rfl
 cases hi:Try.prog.info? 3 with
 | none=>rw [hi] at hz;cases hz
 | some i=>
   rw [hi] at hz
   simp only [Option.map_some,sI] at hz
   simp [zeroValue,typeInfo,hi,hz]
theorem look_has (hk:keyOf Try.prog 102 key=some kl)(hes:∀ x ∈ es.toList,(∃ l,keyOf Try.prog 102 x.key=some l)/\x.val=.int .i64 1)(hx:∃ x ∈ es.toList,x.key=key)(W:World)(hb:W.heap[bm]?=some (.map es clock)):
 (Instr.lookup 54 (.map (some bm)) key false).run Try.prog W=.ok (.int .i64 1) W:=by
 rcases mkLaw.find W hk es.toList (λ x hx=>(hes x hx).1) with ⟨h1,h2⟩ | ⟨j,e0,h1,h2,h3⟩
 . obtain ⟨x,hx1,hx2⟩:=hx
   exact absurd hx2 (h2 x hx1)
 . have hv:=(hes e0 (List.mem_of_getElem? h2)).2
   simp [Instr.lookup,run_underlying mapTy,MapKept.run_getObj_map hb,mkLaw.check W es.isEmpty hk,h1,hv,Result.andThen]
theorem look_not (hk:keyOf Try.prog 102 key=some kl)(hes:∀ x ∈ es.toList,∃ l,keyOf Try.prog 102 x.key=some l)(hx:∀ x ∈ es.toList,x.key=key->x.val=.int .i64 0)(W:World)(hb:W.heap[bm]?=some (.map es clock)):
 (Instr.lookup 54 (.map (some bm)) key false).run Try.prog W=.ok (.int .i64 0) W:=by
 rcases mkLaw.find W hk es.toList hes with ⟨h1,h2⟩ | ⟨j,e0,h1,h2,h3⟩
 . simp [Instr.lookup,run_underlying mapTy,MapKept.run_getObj_map hb,mkLaw.check W es.isEmpty hk,h1,zeroInt W,Result.andThen]
 . have hv:=hx e0 (List.mem_of_getElem? h2) h3
   simp [Instr.lookup,run_underlying mapTy,MapKept.run_getObj_map hb,mkLaw.check W es.isEmpty hk,h1,hv,Result.andThen]
theorem entry_run (hk:keyOf Try.prog 102 key=some kl)(hes:∀ x ∈ es.toList,∃ l,keyOf Try.prog 102 x.key=some l)(hx:∀ x ∈ es.toList,x.key ≠ key)(W:World)(hb:W.heap[bm]?=some (.map es clock)):
 (Instr.mapEntry 54 (.map (some bm)) key).run Try.prog W=.ok (.tuple #[.int .i64 0,goInt clock]) (ChangeMaps.setBlock W bm (.map (es.push ⟨key,.int .i64 0,clock⟩) (clock + 1))):=by
 rcases mkLaw.find W hk es.toList hes with ⟨h1,h2⟩ | ⟨j,e0,h1,h2,h3⟩
 . simp [Instr.mapEntry,run_underlying mapTy,MapKept.run_getObj_map hb,mkLaw.check W false hk,h1,zeroInt W,MapKept.run_setObj_map _ hb,Result.andThen,ChangeMaps.setBlock]
 . exact absurd h3 (hx e0 (List.mem_of_getElem? h2))
theorem entryStore_run (hst:MapKept.Stamped es clock)(val:Value)(W:World)(hb:W.heap[bm]?=some (.map (es.push ⟨key,.int .i64 0,clock⟩) (clock + 1))):
 (Instr.entryStore 54 (.map (some bm)) (goInt clock) val).run Try.prog W=.ok () (ChangeMaps.setBlock W bm (.map (es.push ⟨key,val,clock⟩) (clock + 1))):=by
 obtain ⟨s1,s2,_⟩:=(MapKept.stamped_iff es clock).1 hst
 have hidx:(es.push ⟨key,.int .i64 0,clock⟩).findIdx? (λ e=>((e.born:Nat):Int) == ((clock:Nat):Int))=some es.size:=by
  rw [WideElems.findIdx_arr]
  have:=WideElems.findIdx_born (l:=(es.push ⟨key,.int .i64 0,clock⟩).toList) (j:=es.size) (e0:=⟨key,.int .i64 0,clock⟩) (by
   simp only [Array.toList_push,List.map_append,List.map_cons,List.map_nil]
   refine List.nodup_append.2 ⟨s2,by simp,λ a ha c hc e1=>?_⟩
   simp only [List.mem_singleton] at hc
   obtain ⟨x,hx,rfl⟩:=List.mem_map.1 ha
   have:=s1 x hx
   omega) (by simp)
  exact this
 have hmod:(es.push ⟨key,.int .i64 0,clock⟩).modify es.size (λ e=>{ e with val:=val })=es.push ⟨key,val,clock⟩:=by
  apply Array.ext'
  rw [Array.toList_modify,Array.toList_push,Array.toList_push,<- Array.length_toList,WideElems.modify_last]
 simp [Instr.entryStore,MapKept.run_getObj_map hb,asInt,asIntOf,goInt,hidx,hmod,MapKept.run_setObj_map _ hb,Result.andThen,ChangeMaps.setBlock]
end
theorem row_vals {M:Mp}{cc:Array Value}{o z:Nat}{f:Nat->AV}{k0:IntKind}{n0:Int}(h:∀ q,q < z + 1->∃ u,cc[o + q]?=some u/\u.oneCell'=true/\(f q).R M u)(h0:f 0=.y k0 n0:=by rfl):
 ∃ us:List Value,us.length=z + 1/\(∀ q u,us[q]?=some u->cc[o + q]?=some u)/\us[0]?=some (.int k0 n0)/\∀ u ∈ us,u.oneCell'=true:=by
 have key:∀ m,m<=z + 1->∃ us:List Value,us.length=m/\(∀ q u,us[q]?=some u->cc[o + q]?=some u/\u.oneCell'=true):=λ m=>by
  induction m with
  | zero=>exact λ _=>⟨[],rfl,λ q u e=>by simp at e⟩
  | succ m ih=>
    intro hm
    obtain ⟨us,h1,h2⟩:=ih (by omega)
    obtain ⟨u,h3,h4,_⟩:=h m (by omega)
    refine ⟨us ++ [u],by simp [h1],λ q v e=>?_⟩
    by_cases hq:q < us.length
    . rw [List.getElem?_append_left hq] at e;exact h2 q v e
    . rw [List.getElem?_append_right (by omega)] at e
      obtain rfl:q=m:=by
       have:=(List.getElem?_eq_some_iff.1 e).1
       simp at this;omega
      simp [h1] at e;subst e;exact ⟨h3,h4⟩
 obtain ⟨us,h1,h2⟩:=key (z + 1) (Nat.le_refl _)
 refine ⟨us,h1,λ q u e=>(h2 q u e).1,?_,λ u hu=>?_⟩
 . obtain ⟨u,h3,_,h5⟩:=h 0 (by omega)
   rw [h0] at h5
   simp only [AV.R] at h5
   have hlt:0 < us.length:=by omega
   have h6:=h2 0 us[0] (List.getElem?_eq_getElem hlt)
   rw [List.getElem?_eq_getElem hlt]
   rw [h6.1] at h3
   simp only [sI] at h3
   rw [h3,h5]
 . obtain ⟨q,hq,rfl⟩:=List.getElem_of_mem hu
   exact (h2 q _ (List.getElem?_eq_getElem hq)).2
theorem load_row {P:Program}{W:World}{b o k:Nat}{us:List Value}{t:TypeId}(ha:aggT P t=some true)(hz:sizeT P t=some k)(hl:us.length=k)(h:∀ q u,us[q]?=some u->W.cell? ⟨b,o + q,none⟩=some u):(Instr.loadAt t (.pointer (some ⟨b,o,none⟩))).run P W=.ok (.agg us.toArray) W:=by
 have:=run_loadCells_list (P:=P) W ⟨b,o,none⟩ us (λ q u hq=>by rw [addr_add];exact h q u hq)
 rw [hl] at this
 simp [Instr.loadAt,Instr.sureAddr,loadVar,aggT_ok ha,sizeT_ok hz,this]
theorem set_old {w:World}{b:Nat}{o o':Obj}{mv:Array Value}(h:w.heap[b]?=some o):((w.alloc o').setRow w.heap.size mv).heap[b]?=some o:=by
 have hlt:=heap_lt h
 have h2:(w.alloc o').heap[b]?=some o:=((Below.alloc' w o').block b hlt).trans h
 rw [setRow_other _ _ _ _ (by omega)];exact h2
theorem owns_one {w:World}{base:Nat}{e:TypeId}{size:Nat}{v:Value}{k:Nat}{xs:List Value}(h:w.ownsRow base e size v k xs):v.oneCell'=true:=by
 rcases h.2 with ⟨rfl,_⟩ | ⟨g,cap,cur,rfl,_⟩ <;> rfl
theorem owns_cells {w:World}{base:Nat}{e:TypeId}{size:Nat}{v:Value}{k:Nat}{xs:List Value}(h:w.ownsRow base e size v k xs):v.cells=#[v]:=by
 rcases h.2 with ⟨rfl,_⟩ | ⟨g,cap,cur,rfl,_⟩ <;> rfl
theorem owns_lt {w:World}{base:Nat}{e:TypeId}{size:Nat}{v:Value}{k:Nat}{xs:List Value}(h:w.ownsRow base e size v k xs){g:Nat}(hg:v.ownBlock=some g):g < w.heap.size:=by
 rcases h.2 with ⟨rfl,_⟩ | ⟨g',cap,cur,rfl,_,h2,_⟩
 . cases hg
 . simp only [Value.ownBlock,sI] at hg;subst hg;exact heap_lt h2
theorem SrW.kp {nc:Bool}{n:Nat}{C:CaS}{nk:Bool}{m:Nat}{K:Nat->Int}{Z:Nat->Option (Array Value)}{bs:Nat}{vc vk vm vo vo':Value}{w w':World}{S:Nat->Prop}(h:SrW nc n C nk m K Z bs vc vk vm vo w)(hk:Kp S w w')
 (hs:w'.heap[bs]?=some (.cells #[vc,vk,vm,vo'] 57 (0,0))) (ho:vo'.oneCell'=true) (hS:∀ b cs,Z b=some cs->¬ S b):SrW nc n C nk m K Z bs vc vk vm vo' w':=
 ⟨hs,λ b cs e=>by obtain ⟨t,fr,h1⟩:=h.fz b cs e;exact ⟨t,fr,(hk.block b (heap_lt h1) (hS b cs e)).trans h1⟩,h.rc,h.rk,h.oc,h.ok,h.om,ho⟩
theorem findSome_none {α:Type}{f:Nat->Option α}:∀ n,(∀ i,i < n->f i=none)->(List.range n).findSome? f=none:=λ n h=>List.findSome?_eq_none_iff.2 λ i hi=>h i (List.mem_range.1 hi)
theorem findSome_hit {α:Type}{f:Nat->Option α}{j:Nat}{v:α}(h:∀ i,i < j->f i=none)(hv:f j=some v):∀ n,j < n->(List.range n).findSome? f=some v
 | 0,hn=>absurd hn (Nat.not_lt_zero _)
 | n + 1,hn=>by
   rw [List.range_succ,List.findSome?_append]
   by_cases hj:j < n
   . rw [findSome_hit h hv n hj];rfl
   . obtain rfl:j=n:=by omega
     rw [findSome_none j h]
     simp [hv]
section
variable {C : CaS} {n : Nat} {K : Nat -> Int} {m k : Nat} {D B : Nat -> Bool} {V : Nat -> Int}
theorem srX_none (he:enB C n D=false)(h:∀ i,i < n->¬ (frB C n D i=true/\doLO C i (ixN K m C i) B V=true/\(srX C n K m k (doLD D i) (doLB C i (ixN K m C i) B) (doLV C i (ixN K m C i) V)).isSome=true)):srX C n K m (k + 1) D B V=none:=by
 unfold srX
 rw [if_neg (by rw [he];exact Bool.false_ne_true)]
 refine findSome_none n λ i hi=>?_
 split
 . rename_i h1
   cases hr:srX C n K m k (doLD D i) (doLB C i (ixN K m C i) B) (doLV C i (ixN K m C i) V) with
   | none=>rfl
   | some L=>exact absurd ⟨h1.1,h1.2,by rw [hr];rfl⟩ (h i hi)
 . rfl
theorem srX_hit {j:Nat}{L:List Nat}(he:enB C n D=false)(hj:j < n)(h:∀ i,i < j->¬ (frB C n D i=true/\doLO C i (ixN K m C i) B V=true/\(srX C n K m k (doLD D i) (doLB C i (ixN K m C i) B) (doLV C i (ixN K m C i) V)).isSome=true))
 (hf:frB C n D j=true) (hok:doLO C j (ixN K m C j) B V=true) (hr:srX C n K m k (doLD D j) (doLB C j (ixN K m C j) B) (doLV C j (ixN K m C j) V)=some L):srX C n K m (k + 1) D B V=some (j :: L):=by
 unfold srX
 rw [if_neg (by rw [he];exact Bool.false_ne_true)]
 refine findSome_hit (j:=j) (λ i hi=>?_) ?_ n hj
 . split
   . rename_i h1
     cases hr:srX C n K m k (doLD D i) (doLB C i (ixN K m C i) B) (doLV C i (ixN K m C i) V) with
     | none=>rfl
     | some L=>exact absurd ⟨h1.1,h1.2,by rw [hr];rfl⟩ (h i hi)
   . rfl
 . rw [if_pos ⟨hf,hok⟩,hr];rfl
end
theorem take_pre {cur l:List Value}{x:Value}{n:Nat}(h:cur.take ((n + 1) * 1)=l ++ [x])(hl:l.length=n):cur.take (n * 1)=l:=by
 have h1:(cur.take ((n + 1) * 1)).take n=l:=by rw [h,List.take_append_of_le_length (by omega),List.take_of_length_le (by omega)]
 rw [List.take_take] at h1
 rw [Nat.mul_one]
 rwa [show min n ((n + 1) * 1)=n by omega] at h1
structure LpI (C:CaS)(n:Nat)(K:Nat->Int)(m k bs bm:Nat)(vc vk vo:Value)(w:World)(O:List Nat)(Q:St3->Prop)(D B:Nat->Bool)(V:Nat->Int)(cs:Array Value)(j:Nat)(wr:World):Prop where
 miss:∀ i,i < j->¬ (frB C n D i=true/\doLO C i (ixN K m C i) B V=true/\(srX C n K m k (doLD D i) (doLB C i (ixN K m C i) B) (doLV C i (ixN K m C i) V)).isSome=true)
 mem:∃ vo' es' clock',wr.heap[bs]?=some (.cells #[vc,vk,.map (some bm),vo'] 57 (0,0))/\wr.heap[bm]?=some (.map es' clock')/\TrQ C n K m (λ s=>Q s ∨ s=(D,B,V)) es' clock' ∧
  wr.ownsRow 0 3 1 vo' O.length (idsO C O)/\(∀ g,vo'.ownBlock=some g->vo.ownBlock=some g ∨ w.heap.size < g)
 kp:Kp (λ g=>g=bs ∨ g=bm ∨ vo.ownBlock=some g) w wr
 st:wr.heap[w.heap.size]?=some (.cells cs 69 (0,0))
theorem info_int1:(Try.prog.info? 3).map (λ i=>(i.zero,i.size,i.bytes))=some (some (.int .i64 0),1,8):=by kernel_rfl
theorem app_one {W:World}{v:Value}{n:Nat}{xs:List Value}(hown:W.ownsRow 0 3 1 v n xs){x:Value}(hx:x.oneCell'=true){b:Nat}(hb:W.heap[b]?=some (.cells #[x] 3 (0,0)))(hn:n<=1000)(ty:TypeId):
 ∃ v' w',(Builtin.append_ #[23,23] ty #[v,.slice (some ⟨b,0,none⟩) 1 1]).run Try.prog W=.ok v' w'/\w'.ownsRow 0 3 1 v' (n + 1) (xs ++ [x])/\Kp (λ g=>v.ownBlock=some g) W w'/\(∀ g,v'.ownBlock=some g->v.ownBlock=some g ∨ W.heap.size<=g):=by
 obtain ⟨i0,hi,hz0,hz1,hz2⟩:=info_parts info_int1
 have hu:Try.prog.underlying 23=some (.slice 3):=by kernel_rfl
 have hnews:∀ j u,([x]:List Value)[j]?=some u->W.cell? ((⟨b,0,none⟩:Addr).add j)=some u:=λ j u hj=>by
  rw [Addr.add_lit]
  cases j with
  | zero=>simp at hj;subst hj;simp [World.cell?,hb]
  | succ j=>simp at hj
 have h1:∀ u ∈ [x],u.oneCell'=true:=by simpa using hx
 have run:=λ base (hbase:base<=W.heap.size) (ho:W.ownsRow base 3 1 v n xs)=>run_append_own (P:=Try.prog) W base 23 ty 3 i0 (.int .i64 0) 1 8 hu hi hz0 hz1 hz2 rfl (by decide) v n xs ho ⟨b,0,none⟩ 1 1 [x] rfl hnews h1 (by unfold maxLen;omega) (by omega) hbase
 obtain ⟨v',w',hrun,hown',hgrow,_⟩:=run 0 (Nat.zero_le _) hown
 refine ⟨v',w',hrun,hown',Kp.of_grown hgrow,?_⟩
 rcases hown.2 with ⟨rfl,rfl⟩ | ⟨g,cap,cur,rfl,_,hg,hncap,_,hsz,htk⟩
 . obtain ⟨v2,w2,hrun2,hown2,_⟩:=run W.heap.size (Nat.le_refl _) ⟨hown.1,.inl ⟨rfl,rfl⟩⟩
   rw [hrun] at hrun2
   simp only [Result.ok.injEq] at hrun2
   obtain ⟨rfl,rfl⟩:=hrun2
   rcases hown2.2 with ⟨rfl,_⟩ | ⟨g,cap,cur,rfl,h2,_⟩
   . intro g e;cases e
   . intro g' e
     simp only [Value.ownBlock,sI] at e
     subst e;exact .inr h2
 . by_cases hroom:n + 1<=cap
   . have h:=run_append_room (P:=Try.prog) W 23 ty 3 i0 hu hi g n cap cur hg ⟨b,0,none⟩ 1 1 [x] (by rw [hz1];rfl) hnews h1 hroom (by rw [hz1];simp;omega)
     rw [hrun] at h
     simp only [Result.ok.injEq] at h
     obtain ⟨rfl,_⟩:=h
     exact λ g' e=>.inl e
   . have h:=run_append_grow (P:=Try.prog) W 23 ty 3 i0 (.int .i64 0) hu hi hz0 ⟨g,0,none⟩ n cap xs (by rw [hz1];exact hown.1) (λ j u hj=>by
      rw [Addr.add_lit,Nat.zero_add]
      rw [<- htk,List.getElem?_take] at hj
      split at hj
      . simpa [World.cell?,hg] using hj
      . cases hj) ⟨b,0,none⟩ 1 1 [x] (by rw [hz1];rfl) hnews (by omega) (by omega) (by
        have:=nextslicecap_le (need:=n + 1) (old:=cap) (by omega)
        rw [hz2];omega)
     rw [hrun] at h
     simp only [Result.ok.injEq] at h
     obtain ⟨rfl,_⟩:=h
     intro g' e
     simp only [Value.ownBlock,sI] at e
     subst e;exact .inr (Nat.le_refl _)
theorem step_append_run' {P:Program}{ops:Array Oper}{o:Oper}{a:Act}{w:World}{K:Act->World->Prop}{Q:Exit->Act->World->Prop}{E:Prop}
 (hg:o.guard=none) (d x:Operand) (dT sT ty:TypeId) (hop:o.op=Op.call { callee:=Callee.builtin Builtin.append,args:=#[d,x],argTypes:=#[dT,sT] }) (v u:Value) (hd:a.eval d=v) (hx:a.eval x=u) (hty:o.type=ty)
 {v':Value} {w':World} (hr:(Builtin.append_ #[dT,sT] ty #[v,u]).run P w=.ok v' w') (hK:K (a.put o.dst v') w') :
 if Region.wanted o (yielded ops a.tmps)=true then Oper.wp P o a w K Q else E:=by
 have hw:Region.wanted o (yielded ops a.tmps)=true:=by simp [Region.wanted,hg]
 rw [if_pos hw]
 unfold Oper.wp
 simp [execOp,hop,resolve,invoke,builtin,hd,hx,hty,hr,Result.andThen]
 exact hK
theorem step_store_run {P:Program}{ops:Array Oper}{o:Oper}{a:Act}{w:World}{K:Act->World->Prop}{Q:Exit->Act->World->Prop}{E:Prop}
 (hg:o.guard=none) (t:TypeId) (x y:Operand) (ho:o.op=.store t x y) {w':World} (hr:(Instr.storeAt t (a.eval x) (a.eval y)).run P w=.ok () w') (hK:K (a.put o.dst undef) w') :
 if Region.wanted o (yielded ops a.tmps)=true then Oper.wp P o a w K Q else E:=by
 have hw:Region.wanted o (yielded ops a.tmps)=true:=by simp [Region.wanted,hg]
 rw [if_pos hw]
 unfold Oper.wp
 simp [execOp,ho,hr,Result.andThen]
 exact hK
theorem store_order {W:World}{bs:Nat}{vc vk vm vo v':Value}(h:W.heap[bs]?=some (.cells #[vc,vk,vm,vo] 57 (0,0)))(h1:v'.oneCell'=true)(hv:v'.cells=#[v']):
 (Instr.storeAt 23 (.pointer (some ⟨bs,3,none⟩)) v').run Try.prog W=.ok () (W.setRow bs #[vc,vk,vm,v']):=by
 have hst:=run_storeCells_at Try.prog bs 3 57 [v'] 0 #[vc,vk,vm,vo] W h (by simp) (by simpa using h1)
 have hz:sizeT Try.prog 23=some 1:=by kernel_rfl
 simp [Instr.storeAt,Instr.sureAddr,storeVar,sizeT_ok hz,hv] at hst ⊢
 simp [hst]
theorem stV_one (D B:Nat->Bool)(V:Nat->Int):∀ u ∈ stV D B V,u.oneCell'=true:=by
 intro u hu
 simp only [stV,List.mem_cons,List.not_mem_nil,or_false] at hu
 rcases hu with rfl | rfl | rfl | rfl | rfl | rfl | rfl | rfl | rfl | rfl | rfl | rfl | rfl | rfl | rfl | rfl | rfl | rfl | rfl | rfl | rfl | rfl | rfl | rfl <;> rfl
theorem LpI.skip {C:CaS}{n:Nat}{K:Nat->Int}{m k bs bm:Nat}{vc vk vo:Value}{w:World}{O:List Nat}{Q:St3->Prop}{D B:Nat->Bool}{V:Nat->Int}{cs:Array Value}{j:Nat}{wr w':World}(h:LpI C n K m k bs bm vc vk vo w O Q D B V cs j wr)(hb:Below wr.heap.size wr w')
 (hn:¬ (frB C n D j=true/\doLO C j (ixN K m C j) B V=true/\(srX C n K m k (doLD D j) (doLB C j (ixN K m C j) B) (doLV C j (ixN K m C j) V)).isSome=true)):LpI C n K m k bs bm vc vk vo w O Q D B V cs (j + 1) w':=by
 obtain ⟨vo',es',clock',h1,h2,h3,h4,h5⟩:=h.mem
 refine ⟨λ i hi=>?_,⟨vo',es',clock',(hb.block _ (heap_lt h1)).trans h1,(hb.block _ (heap_lt h2)).trans h2,h3,owns_same h4 λ g _ hg=>hb.block g hg,h5⟩,h.kp.trans (Kp.of_below hb) (λ g _ hg=>hg),(hb.block _ (heap_lt h.st)).trans h.st⟩
 rcases Nat.lt_succ_iff_lt_or_eq.1 hi with h6 | rfl
 . exact h.miss i h6
 . exact hn
section
variable {nc : Bool} {n : Nat} {C : CaS} {nk : Bool} {m : Nat} {K : Nat -> Int} {Z : Nat -> Option (Array Value)} {bs bm : Nat} {vc vk : Value}
set_option maxHeartbeats 4000000 in
theorem from_step (hm:Try.prog.follows .mixedOrders=true)(hs:smQ C n=true)(hk:smK C n K m=true)(hw:smW C n)(hbm:bm ≠ bs)(zm:Z bm=none)(zs:Z bs=none)(k:Nat)(ih:∀ k',k=k' + 1->FromS nc n C nk m K Z bs bm vc vk k'):FromS nc n C nk m K Z bs bm vc vk k:=by
 intro D B V w vo O es clock Q hW hun hV hbmw hT hQ hO hOz hlen
 have hen:∀ W:World,SrW nc n C nk m K Z bs vc vk (.map (some bm)) vo W->Calls Try.prog 38 #[.pointer (some ⟨bs,0,none⟩),.agg (stV D B V).toArray] W λ e w'=>e=.returned (.bool (enB C n D))/\Below W.heap.size W w':=λ W h=>enough_c hm h hs D B V
 obtain ⟨cs,hcs⟩:∃ cs,cs=(stV D B V).toArray:=⟨_,rfl⟩
 have hload:∀ (W:World) (b:Nat),W.heap[b]?=some (.cells cs 69 (0,0))->(Instr.loadAt 69 (.pointer (some ⟨b,0,none⟩))).run Try.prog W=.ok (.agg cs) W:=λ W b h=>by
  subst hcs
  exact load_whole (k:=24) (by kernel_rfl) (by kernel_rfl) h rfl
 rw [<- hcs] at hen ⊢
 have HC:=Lib.hid hcs
 clear hcs
 go_enter Try.func19,Try.ntmps19
 go_wp2_with (fail)
 apply wp_scope_straight
 go_wp2_with (refine wpList_load_run 69 _ (.agg cs) rfl rfl (hload _ _ (by first | assumption | exact ha_newS _ _)) ?_)
 have hW1:SrW nc n C nk m K Z bs vc vk (.map (some bm)) vo (w.alloc (.cells cs 69)):=hW.below (Below.alloc' w _)
 refine (hen _ hW1).mono ?_
 rintro e w1 ⟨rfl,hb1'⟩
 simp only []
 have hb1:Below w.heap.size w w1:=(Below.alloc' w _).trans (hb1'.mono (by simp))
 have q3:w1.heap[w.heap.size]?=some (.cells cs 69 (0,0)):=(hb1'.block _ (by simp)).trans (ha_newS w _)
 have hsz1:w.heap.size < w1.heap.size:=by have:=hb1'.size;simp at this;omega
 clear hb1'
 cases henb:enB C n D with
 | true=>
   go_wp2_with (fail)
   simp only [Exit.noGoto_ret]
   go_ret
   rw [srX_en henb]
   refine ⟨rfl,vo,es,clock,(hb1.block bs (heap_lt hW.hs)).trans hW.hs,(hb1.block bm (heap_lt hbmw)).trans hbmw,Kp.of_below hb1,λ g h=>.inl h,?_,λ h=>(by cases h),λ _=>rfl⟩
   rw [Option.getD_some,List.append_nil]
   exact owns_same hO λ g _ hg=>hb1.block g hg
 | false=>
 have hn:n<=12:=(of_decide_eq_true hs).1
 have hix:∀ i,i < n->ixN K m C i < 6:=λ i hi=>by
  obtain ⟨h6,hx⟩:=of_decide_eq_true hk
  have h0:=hx i hi
  have h1:=fxI_ltq m (keB K (cqKey C i))
  show (fxI m (keB K (cqKey C i))).toNat < 6
  omega
 obtain ⟨k,rfl⟩:∃ k',k=k' + 1:=pos_succ (by rw [<- hun];exact un_pos henb)
 have IH:=Lib.hid (ih k rfl)
 clear ih
 go_wp2_with (refine wpList_load_run 69 _ (.agg cs) rfl rfl (hload _ _ (by first | assumption | exact ha_newS _ _)) ?_)
 obtain ⟨mv,hmv⟩:∃ mv,mv=(mkV D B V).toArray:=⟨_,rfl⟩
 have hmk:=mark_c hm w1 D B V
 have hm24:mv.size=24:=by rw [hmv];rfl
 have hm1:∀ u ∈ mv.toList,u.oneCell'=true:=by rw [hmv];exact mkV_one D B V
 rw [<- HC.out,<- hmv] at hmk
 have HM:=Lib.hid hmv
 clear hmv
 refine hmk.mono ?_
 rintro e w2 ⟨rfl,hb2'⟩
 clear hmk
 simp only []
 have hb2:Below w.heap.size w w2:=hb1.trans (hb2'.mono hb1.size)
 have q32:w2.heap[w.heap.size]?=some (.cells cs 69 (0,0)):=(hb2'.block _ hsz1).trans q3
 have hsz12:w.heap.size < w2.heap.size:=Nat.lt_of_lt_of_le hsz1 hb2'.size
 clear hb2'
 go_wp2_with (refine wpList_store_run 102 _ _ rfl rfl (store_whole (k:=24) (by kernel_rfl) (ha_newS _ _) rfl hm24 hm1) ?_)
 obtain ⟨hb3,m3,s3,hsz23⟩:=store_box (w0:=w.heap.size) (b:=w.heap.size) (o':=.cells cs 69 (0,0)) (t:=102) (cur:=#[.int .u64 0,.int .u64 0,.int .u64 0,.int .u64 0,.int .u64 0,.int .u64 0,.int .u64 0,.int .u64 0,.int .u64 0,.int .u64 0,.int .u64 0,.int .u64 0,.int .u64 0,.int .u64 0,.int .u64 0,.int .u64 0,.int .u64 0,.int .u64 0,.int .u64 0,.int .u64 0,.int .u64 0,.int .u64 0,.int .u64 0,.int .u64 0]) (mv:=mv) hb2 q32
 generalize World.setRow _ _ mv=w3 at *
 simp only [Act.put]
 have hS:HeldTill [(6,λ w'=>w'.heap=w3.heap)] (Array.replicate 7 false) w3.drew:=by
  intro x hx _
  simp only [List.mem_cons,List.not_mem_nil,or_false] at hx
  subst hx;rfl
 refine wp_region_S [(6,λ w'=>w'.heap=w3.heap)] hm ?_
 have hsb3:w3.heap[bs]?=some (.cells #[vc,vk,.map (some bm),vo] 57 (0,0)):=(hb3.block bs (heap_lt hW.hs)).trans hW.hs
 have hbm3:w3.heap[bm]?=some (.map es clock):=(hb3.block bm (heap_lt hbmw)).trans hbmw
 obtain ⟨kl,hkl⟩:∃ l,keyOf Try.prog 102 (.agg mv)=some l:=by rw [HM.out];exact mk_key hV
 have hes:∀ x ∈ es.toList,(∃ l,keyOf Try.prog 102 x.key=some l)/\x.val=.int .i64 1:=λ x hx=>by
  obtain ⟨D',B',V',h1,h2,h3,_⟩:=hT.ent x hx
  exact ⟨by rw [h1];exact mk_key h3,h2⟩
 by_cases hx:∃ x ∈ es.toList,x.key=.agg mv
 . have hlk:=look_has (bm:=bm) (clock:=clock) hkl hes hx
   (refine wpAnyS_take (i:=0) (v:=?_) rfl (by kernel_rfl) (by kernel_rfl) (by kernel_rfl) (by kernel_rfl) (by kernel_rfl) (by kernel_rfl) (λ _ _ _ h=>h) hS (Or.inl ⟨by kernel_rfl,?_⟩) (λ hS1=>?_);rotate_left;(focus (intro w _;go_simp;first | done | with_reducible rfl));clear hS;have hS:=hS1;clear hS1)
   (refine wpAnyS_take (i:=1) (v:=?_) rfl (by kernel_rfl) (by kernel_rfl) (by kernel_rfl) (by kernel_rfl) (by kernel_rfl) (by kernel_rfl) (λ _ _ _ h=>h) hS (Or.inl ⟨by kernel_rfl,?_⟩) (λ hS1=>?_);rotate_left;(focus (intro w _;go_simp;first | done | with_reducible rfl));clear hS;have hS:=hS1;clear hS1)
   (refine wpAnyS_take (i:=2) (v:=?_) rfl (by kernel_rfl) (by kernel_rfl) (by kernel_rfl) (by kernel_rfl) (by kernel_rfl) (by kernel_rfl) (λ _ _ _ h=>h) hS (Or.inl ⟨by kernel_rfl,?_⟩) (λ hS1=>?_);rotate_left;(focus (intro w _;go_simp;first | done | with_reducible rfl));clear hS;have hS:=hS1;clear hS1)
   try simp only [List.getElem_toArray,List.getElem_cons_succ,List.getElem_cons_zero,Act.put,List.setIfInBounds_toArray,List.set_cons_succ,List.set_cons_zero]
   refine wpAnyS_load (i:=3) (c:=6) (T:=λ w'=>w'.heap=w3.heap) (v:=.map (some bm)) rfl (by kernel_rfl) (by kernel_rfl) (by kernel_rfl) (by kernel_rfl) (by kernel_rfl) (by kernel_rfl) (by kernel_rfl) (by simp) (λ _ _ _ h=>h) hS (Or.inl ⟨by kernel_rfl,λ w' hT'=>exec_load rfl (load_cell (by kernel_rfl) (by simp [World.cell?,show w'.heap=w3.heap from hT',hsb3]))⟩) (λ hS1=>?_)
   clear hS;have hS:=hS1;clear hS1
   refine wpAnyS_load (i:=4) (c:=6) (T:=λ w'=>w'.heap=w3.heap) (v:=.agg mv) rfl (by kernel_rfl) (by kernel_rfl) (by kernel_rfl) (by kernel_rfl) (by kernel_rfl) (by kernel_rfl) (by kernel_rfl) (by simp) (λ _ _ _ h=>h) hS (Or.inl ⟨by kernel_rfl,λ w' hT'=>exec_load rfl (load_whole (k:=24) (by kernel_rfl) (by kernel_rfl) ((congrArg (λ h:Array Obj=>h[w2.heap.size]?) hT').trans m3) hm24)⟩) (λ hS1=>?_)
   clear hS;have hS:=hS1;clear hS1
   refine wpAnyS_load (i:=5) (c:=6) (T:=λ w'=>w'.heap=w3.heap) (v:=.int .i64 1) rfl (by kernel_rfl) (by kernel_rfl) (by kernel_rfl) (by kernel_rfl) (by kernel_rfl) (by kernel_rfl) (by kernel_rfl) (by simp) (λ _ _ _ h=>h) hS (Or.inl ⟨by kernel_rfl,λ w' hT'=>exec_lookup rfl (hlk w' ((congrArg (λ h:Array Obj=>h[bm]?) hT').trans hbm3))⟩) (λ hS1=>?_)
   clear hS;have hS:=hS1;clear hS1
   try simp only [List.getElem_toArray,List.getElem_cons_succ,List.getElem_cons_zero,Act.put,List.setIfInBounds_toArray,List.set_cons_succ,List.set_cons_zero]
   refine wpAnyS_ready (rs:=[6]) (by kernel_rfl) (by simp) ?_
   refine AllReadyS.cons rfl (λ K hK=>?_) AllReadyS.nil
   go_simp
   refine hK.out _ _ ?_ (λ hS1=>?_)
   . intro x hx hl;simp only [List.mem_cons,List.not_mem_nil,or_false] at hx;subst hx;exact Bool.noConfusion (show true=false from hl)
   clear hK K hS hS1
   refine wpAnyS_done (by kernel_rfl) ?_ _
   go_wp2_with (fail)
   simp only [Exit.noGoto_ret]
   go_ret
   have hbd:Below w.heap.size w w3.drew:=⟨hb3.os,hb3.tape,hb3.output,hb3.size,hb3.block⟩
   obtain ⟨x,hx1,hx2⟩:=hx
   obtain ⟨D',B',V',h1,_,h3,h4⟩:=hT.ent x hx1
   have hmm:mkV D' B' V'=mkV D B V:=by
    have:=h1.symm.trans hx2
    rw [HM.out] at this
    exact congrArg Array.toList (Value.agg.inj this)
   have hsame:=mkV_inj h3 hV hmm
   have hun':un n D'=k + 1:=(un_same hn hsame.d).trans hun
   have hnone:srX C n K m (k + 1) D B V=none:=by
    rcases h4 with h4 | h4
    . rw [hun'] at h4
      exact (srX_same hn hix (k + 1) hsame).symm.trans h4
    . have h5:k + 1 < un n D':=hQ _ h4
      omega
   rw [hnone]
   refine ⟨rfl,vo,es,clock,hsb3,hbm3,Kp.of_below hbd,λ g h=>.inl h,?_,λ _=>hT,λ h=>by cases h⟩
   rw [Option.getD_none,List.append_nil]
   exact owns_same hO λ g _ hg=>hbd.block g hg
 . have hno:∀ x ∈ es.toList,x.key ≠ .agg mv:=λ x h1 h2=>hx ⟨x,h1,h2⟩
   have hlk:=look_not (bm:=bm) (clock:=clock) hkl (λ x h=>(hes x h).1) (λ x h1 h2=>absurd h2 (hno x h1))
   (refine wpAnyS_take (i:=0) (v:=?_) rfl (by kernel_rfl) (by kernel_rfl) (by kernel_rfl) (by kernel_rfl) (by kernel_rfl) (by kernel_rfl) (λ _ _ _ h=>h) hS (Or.inl ⟨by kernel_rfl,?_⟩) (λ hS1=>?_);rotate_left;(focus (intro w _;go_simp;first | done | with_reducible rfl));clear hS;have hS:=hS1;clear hS1)
   (refine wpAnyS_take (i:=1) (v:=?_) rfl (by kernel_rfl) (by kernel_rfl) (by kernel_rfl) (by kernel_rfl) (by kernel_rfl) (by kernel_rfl) (λ _ _ _ h=>h) hS (Or.inl ⟨by kernel_rfl,?_⟩) (λ hS1=>?_);rotate_left;(focus (intro w _;go_simp;first | done | with_reducible rfl));clear hS;have hS:=hS1;clear hS1)
   (refine wpAnyS_take (i:=2) (v:=?_) rfl (by kernel_rfl) (by kernel_rfl) (by kernel_rfl) (by kernel_rfl) (by kernel_rfl) (by kernel_rfl) (λ _ _ _ h=>h) hS (Or.inl ⟨by kernel_rfl,?_⟩) (λ hS1=>?_);rotate_left;(focus (intro w _;go_simp;first | done | with_reducible rfl));clear hS;have hS:=hS1;clear hS1)
   try simp only [List.getElem_toArray,List.getElem_cons_succ,List.getElem_cons_zero,Act.put,List.setIfInBounds_toArray,List.set_cons_succ,List.set_cons_zero]
   refine wpAnyS_load (i:=3) (c:=6) (T:=λ w'=>w'.heap=w3.heap) (v:=.map (some bm)) rfl (by kernel_rfl) (by kernel_rfl) (by kernel_rfl) (by kernel_rfl) (by kernel_rfl) (by kernel_rfl) (by kernel_rfl) (by simp) (λ _ _ _ h=>h) hS (Or.inl ⟨by kernel_rfl,λ w' hT'=>exec_load rfl (load_cell (by kernel_rfl) (by simp [World.cell?,show w'.heap=w3.heap from hT',hsb3]))⟩) (λ hS1=>?_)
   clear hS;have hS:=hS1;clear hS1
   refine wpAnyS_load (i:=4) (c:=6) (T:=λ w'=>w'.heap=w3.heap) (v:=.agg mv) rfl (by kernel_rfl) (by kernel_rfl) (by kernel_rfl) (by kernel_rfl) (by kernel_rfl) (by kernel_rfl) (by kernel_rfl) (by simp) (λ _ _ _ h=>h) hS (Or.inl ⟨by kernel_rfl,λ w' hT'=>exec_load rfl (load_whole (k:=24) (by kernel_rfl) (by kernel_rfl) ((congrArg (λ h:Array Obj=>h[w2.heap.size]?) hT').trans m3) hm24)⟩) (λ hS1=>?_)
   clear hS;have hS:=hS1;clear hS1
   refine wpAnyS_load (i:=5) (c:=6) (T:=λ w'=>w'.heap=w3.heap) (v:=.int .i64 0) rfl (by kernel_rfl) (by kernel_rfl) (by kernel_rfl) (by kernel_rfl) (by kernel_rfl) (by kernel_rfl) (by kernel_rfl) (by simp) (λ _ _ _ h=>h) hS (Or.inl ⟨by kernel_rfl,λ w' hT'=>exec_lookup rfl (hlk w' ((congrArg (λ h:Array Obj=>h[bm]?) hT').trans hbm3))⟩) (λ hS1=>?_)
   clear hS;have hS:=hS1;clear hS1
   try simp only [List.getElem_toArray,List.getElem_cons_succ,List.getElem_cons_zero,Act.put,List.setIfInBounds_toArray,List.set_cons_succ,List.set_cons_zero]
   refine wpAnyS_ready (rs:=[6]) (by kernel_rfl) (by simp) ?_
   refine AllReadyS.cons rfl (λ K hK=>?_) AllReadyS.nil
   go_simp
   refine hK.out _ _ ?_ (λ hS1=>?_)
   . intro x hx hl;simp only [List.mem_cons,List.not_mem_nil,or_false] at hx;subst hx;exact Bool.noConfusion (show true=false from hl)
   clear hK K hS hS1
   refine wpAnyS_done (by kernel_rfl) ?_ _
   go_wp2_with (fail)
   obtain ⟨w4,hw4⟩:∃ w4,w4=w3.drew:=⟨_,rfl⟩
   have hh4:w4.heap=w3.heap:=by rw [hw4];rfl
   have hb4:Below w.heap.size w w4:=by rw [hw4];exact ⟨hb3.os,hb3.tape,hb3.output,hb3.size,hb3.block⟩
   rw [<- hw4]
   rw [<- hh4] at hsb3 hbm3 m3 s3 hsz23
   clear hb3 hw4 hh4 w3 hlk
   have hne:w2.heap.size ≠ bm:=by have:=heap_lt hbmw;omega
   have hS:HeldTill [(9,λ w'=>w'.heap[bs]?=some (.cells #[vc,vk,.map (some bm),vo] 57 (0,0))/\w'.heap[w2.heap.size]?=some (.cells mv 102 (0,0))/\(Instr.lookup 54 (.map (some bm)) (.agg mv) false).run Try.prog w'=.ok (.int .i64 0) w')] (Array.replicate 10 false) w4.drew:=by
    intro x hx _
    simp only [List.mem_cons,List.not_mem_nil,or_false] at hx
    subst hx
    exact ⟨hsb3,m3,look_not (clock:=clock) hkl (λ x h=>(hes x h).1) (λ x h1 h2=>absurd h2 (hno x h1)) w4.drew hbm3⟩
   refine wp_region_S [(9,λ w'=>w'.heap[bs]?=some (.cells #[vc,vk,.map (some bm),vo] 57 (0,0))/\w'.heap[w2.heap.size]?=some (.cells mv 102 (0,0))/\(Instr.lookup 54 (.map (some bm)) (.agg mv) false).run Try.prog w'=.ok (.int .i64 0) w')] hm ?_
   (refine wpAnyS_take (i:=0) (v:=?_) rfl (by kernel_rfl) (by kernel_rfl) (by kernel_rfl) (by kernel_rfl) (by kernel_rfl) (by kernel_rfl) (λ _ _ _ h=>h) hS (Or.inl ⟨by kernel_rfl,?_⟩) (λ hS1=>?_);rotate_left;(focus (intro w _;go_simp;first | done | with_reducible rfl));clear hS;have hS:=hS1;clear hS1)
   (refine wpAnyS_take (i:=1) (v:=?_) rfl (by kernel_rfl) (by kernel_rfl) (by kernel_rfl) (by kernel_rfl) (by kernel_rfl) (by kernel_rfl) (λ _ _ _ h=>h) hS (Or.inl ⟨by kernel_rfl,?_⟩) (λ hS1=>?_);rotate_left;(focus (intro w _;go_simp;first | done | with_reducible rfl));clear hS;have hS:=hS1;clear hS1)
   (refine wpAnyS_take (i:=2) (v:=?_) rfl (by kernel_rfl) (by kernel_rfl) (by kernel_rfl) (by kernel_rfl) (by kernel_rfl) (by kernel_rfl) (λ _ _ _ h=>h) hS (Or.inl ⟨by kernel_rfl,?_⟩) (λ hS1=>?_);rotate_left;(focus (intro w _;go_simp;first | done | with_reducible rfl));clear hS;have hS:=hS1;clear hS1)
   try simp only [List.getElem_toArray,List.getElem_cons_succ,List.getElem_cons_zero,Act.put,List.setIfInBounds_toArray,List.set_cons_succ,List.set_cons_zero]
   refine wpAnyS_load (i:=3) (c:=9) (T:=λ w'=>w'.heap[bs]?=some (.cells #[vc,vk,.map (some bm),vo] 57 (0,0))/\w'.heap[w2.heap.size]?=some (.cells mv 102 (0,0))/\(Instr.lookup 54 (.map (some bm)) (.agg mv) false).run Try.prog w'=.ok (.int .i64 0) w') (v:=.map (some bm)) rfl (by kernel_rfl) (by kernel_rfl) (by kernel_rfl) (by kernel_rfl) (by kernel_rfl) (by kernel_rfl) (by kernel_rfl) (by simp) (λ _ _ _ h=>h) hS (Or.inl ⟨by kernel_rfl,λ w' hT'=>exec_load rfl (load_cell (by kernel_rfl) (by simp [World.cell?,hT'.1]))⟩) (λ hS1=>?_)
   clear hS;have hS:=hS1;clear hS1
   refine wpAnyS_load (i:=4) (c:=9) (T:=λ w'=>w'.heap[bs]?=some (.cells #[vc,vk,.map (some bm),vo] 57 (0,0))/\w'.heap[w2.heap.size]?=some (.cells mv 102 (0,0))/\(Instr.lookup 54 (.map (some bm)) (.agg mv) false).run Try.prog w'=.ok (.int .i64 0) w') (v:=.agg mv) rfl (by kernel_rfl) (by kernel_rfl) (by kernel_rfl) (by kernel_rfl) (by kernel_rfl) (by kernel_rfl) (by kernel_rfl) (by simp) (λ _ _ _ h=>h) hS (Or.inl ⟨by kernel_rfl,λ w' hT'=>exec_load rfl (load_whole (k:=24) (by kernel_rfl) (by kernel_rfl) hT'.2.1 hm24)⟩) (λ hS1=>?_)
   clear hS;have hS:=hS1;clear hS1
   refine wpAnyS_load (i:=5) (c:=9) (T:=λ w'=>w'.heap[bs]?=some (.cells #[vc,vk,.map (some bm),vo] 57 (0,0))/\w'.heap[w2.heap.size]?=some (.cells mv 102 (0,0))/\(Instr.lookup 54 (.map (some bm)) (.agg mv) false).run Try.prog w'=.ok (.int .i64 0) w') (v:=.int .i64 0) rfl (by kernel_rfl) (by kernel_rfl) (by kernel_rfl) (by kernel_rfl) (by kernel_rfl) (by kernel_rfl) (by kernel_rfl) (by simp) (λ _ _ _ h=>h) hS (Or.inl ⟨by kernel_rfl,λ w' hT'=>exec_lookup rfl hT'.2.2⟩) (λ hS1=>?_)
   clear hS;have hS:=hS1;clear hS1
   (refine wpAnyS_take (i:=6) (v:=?_) rfl (by kernel_rfl) (by kernel_rfl) (by kernel_rfl) (by kernel_rfl) (by kernel_rfl) (by kernel_rfl) (λ _ _ _ h=>h) hS (Or.inl ⟨by kernel_rfl,?_⟩) (λ hS1=>?_);rotate_left;(focus (intro w _;go_simp;first | done | with_reducible rfl));clear hS;have hS:=hS1;clear hS1)
   try simp only [List.getElem_toArray,List.getElem_cons_succ,List.getElem_cons_zero,Act.put,List.setIfInBounds_toArray,List.set_cons_succ,List.set_cons_zero]
   refine wpAnyS_ready (rs:=[7]) (by kernel_rfl) (by simp) ?_
   refine AllReadyS.cons rfl (λ K hK=>?_) AllReadyS.nil
   refine step_entry_run rfl 54 (.tmp 25) (.tmp 26) rfl (entry_run hkl (λ x h=>(hes x h).1) hno w4.drew hbm3) ?_
   have hA:(ChangeMaps.setBlock w4.drew bm (.map (es.push ⟨.agg mv,.int .i64 0,clock⟩) (clock + 1))).heap[bm]?=some (.map (es.push ⟨.agg mv,.int .i64 0,clock⟩) (clock + 1)):=ChangeMaps.heap_setBlock_same (w:=w4.drew) hbm3 _
   refine hK.out _ _ ?_ (λ hS1=>?_)
   . intro x hx hl
     simp only [List.mem_cons,List.not_mem_nil,or_false] at hx
     subst hx
     refine ⟨(ChangeMaps.heap_setBlock_other (w:=w4.drew) hbm3 _ (Ne.symm hbm)).trans hsb3,(ChangeMaps.heap_setBlock_other (w:=w4.drew) hbm3 _ hne).trans m3,look_not hkl (λ x h=>?_) (λ x h1 h2=>?_) _ hA⟩
     . rw [Array.toList_push,List.mem_append,List.mem_singleton] at h
       rcases h with h | rfl
       . exact (hes x h).1
       . exact ⟨kl,hkl⟩
     . rw [Array.toList_push,List.mem_append,List.mem_singleton] at h1
       rcases h1 with h1 | rfl
       . exact absurd h2 (hno x h1)
       . rfl
   clear hK K hS
   have hS:=hS1
   clear hS1
   (refine wpAnyS_take (i:=8) (v:=?_) rfl (by kernel_rfl) (by kernel_rfl) (by kernel_rfl) (by kernel_rfl) (by kernel_rfl) (by kernel_rfl) (λ _ _ _ h=>h) hS (Or.inl ⟨by kernel_rfl,?_⟩) (λ hS1=>?_);rotate_left;(focus (intro w _;go_simp;first | done | with_reducible rfl));clear hS;have hS:=hS1;clear hS1)
   try simp only [List.getElem_toArray,List.getElem_cons_succ,List.getElem_cons_zero,Act.put,List.setIfInBounds_toArray,List.set_cons_succ,List.set_cons_zero]
   refine wpAnyS_ready (rs:=[9]) (by kernel_rfl) (by simp) ?_
   refine AllReadyS.cons rfl (λ K hK=>?_) AllReadyS.nil
   refine step_entryStore_run rfl 54 (.tmp 25) (.tmp 30) (.tmp 28) rfl (entryStore_run hT.st (.int .i64 1) _ hA) ?_
   refine hK.out _ _ ?_ (λ hS1=>?_)
   . intro x hx hl;simp only [List.mem_cons,List.not_mem_nil,or_false] at hx;subst hx;exact Bool.noConfusion (show true=false from hl)
   clear hK K hS hS1
   refine wpAnyS_done (by kernel_rfl) ?_ _
   try simp only [List.getElem_toArray,List.getElem_cons_succ,List.getElem_cons_zero,Act.put,List.setIfInBounds_toArray,List.set_cons_succ,List.set_cons_zero]
   go_wp2_with (fail)
   obtain ⟨hk5,hbm5,ho5,hsz5⟩:=set_two (b:=bm) (o1:=.map (es.push ⟨.agg mv,.int .i64 0,clock⟩) (clock + 1)) (o2:=.map (es.push ⟨.agg mv,.int .i64 1,clock⟩) (clock + 1)) hb4 hbm3
   have hsb5:=(ho5 bs (Ne.symm hbm)).trans hsb3
   have s5:=(ho5 w.heap.size (by have:=heap_lt hbmw;omega)).trans s3
   generalize ChangeMaps.setBlock (ChangeMaps.setBlock _ _ _) _ _=w5 at *
   have hT5:TrQ C n K m (λ s=>Q s ∨ s=(D,B,V)) (es.push ⟨.agg mv,.int .i64 1,clock⟩) (clock + 1):=by
    refine ⟨MapKept.stamped_push hT.st hno,λ x hx=>?_⟩
    rw [Array.toList_push,List.mem_append,List.mem_singleton] at hx
    rcases hx with hx | rfl
    . obtain ⟨D',B',V',h1,h2,h3,h4⟩:=hT.ent x hx
      exact ⟨D',B',V',h1,h2,h3,h4.imp id .inl⟩
    . exact ⟨D,B,V,by rw [HM.out],rfl,hV,.inr (.inr rfl)⟩
   have hwsz:w.heap.size < w5.heap.size:=heap_lt s5
   clear hA hno hx hes hkl hbm3 hsb3 m3 s3 hsz23 hne hb4 ho5 hsz5 w4 hb2 q32 hsz12 hb1 q3 hsz1 hW1 w1 hen hm1 hm24 HM
   obtain ⟨bc,off,cp,cc,rfl,hncp,hcz,hcell⟩:=lst_pos (un_pos0 hun) hW.rc
   apply wp_label
   have c5:w5.cell? ⟨bs,0,none⟩=some (.slice (some ⟨bc,off,none⟩) n cp):=by simp [World.cell?,hsb5]
   go_wp2_with (fail)
   go_loopg [36] n (λ g i wr=>∃ j:Nat,j<=n/\g=n - j/\i=.int .i64 j/\LpI C n K m k bs bm (.slice (some ⟨bc,off,none⟩) n cp) vk vo w O Q D B V cs j wr)
   case atStart=>
    exact ⟨0,Nat.zero_le _,rfl,rfl,λ i hi=>absurd hi (Nat.not_lt_zero _),⟨vo,_,_,hsb5,hbm5,hT5,owns_same hO λ g hg hlt=>hk5.block g hlt (hOz g hg).2.1,λ g hg=>.inl hg⟩,hk5.weaken λ g h=>.inr (.inl h),s5⟩
   case round=>
   obtain ⟨j,hj,rfl,rfl,hI⟩:=hrel
   by_cases hlt:j < n
   . obtain ⟨us,hus13,huc,hu0,hus1⟩:=row_vals (λ q hq=>hcell j hlt q hq)
     obtain ⟨vo',es',clock',hsbr,hbmr,hTr,hOr,hOg⟩:=hI.mem
     have hWr:SrW nc n C nk m K Z bs (.slice (some ⟨bc,off,none⟩) n cp) vk (.map (some bm)) vo' wr:=hW.kp hI.kp hsbr (owns_one hOr) λ b cs hz hb=>by
      rcases hb with rfl | rfl | hb
      . rw [zs] at hz;cases hz
      . rw [zm] at hz;cases hz
      . rw [(hOz b hb).2.2] at hz;cases hz
     obtain ⟨ec,fc,hbc⟩:=hWr.fz bc cc hcz
     have hcall:∀ W:World,W.heap[bc]?=some (.cells cc ec fc)->(Instr.loadAt 62 (.pointer (some ⟨bc,off + j * 13,none⟩))).run Try.prog W=.ok (.agg us.toArray) W:=λ W h=>load_row (k:=13) (by kernel_rfl) (by kernel_rfl) hus13 λ q u hq=>by simp [World.cell?,h,huc q u hq]
     go_wp2_with (first
      | (refine wpList_load_run 62 _ (.agg us.toArray) rfl rfl (hcall _ hbc) ?_)
      | (refine wpList_store_run 62 _ _ rfl rfl (store_whole (k:=13) (by kernel_rfl) (ha_newS _ _) rfl (by simpa using hus13) (by simpa using hus1)) ?_)
      | (refine wpList_load_run 69 _ (.agg cs) rfl rfl (hload _ _ (by first | assumption | exact (set_old hI.st))) ?_))
     obtain ⟨hb6,c6,s6,z6⟩:=store_box (w:=wr) (w0:=wr.heap.size) (b:=w.heap.size) (t:=62) (cur:=#[.int .i64 0,.int .i64 0,.int .i64 0,.int .u64 0,.int .u64 0,.int .u64 0,.int .i64 0,.int .i64 0,.int .i64 0,.bool false,.int .i64 0,.int .u64 0,.slice none 0 0]) (mv:=us.toArray) (Below.refl _ wr) hI.st
     generalize World.setRow (wr.alloc _) wr.heap.size us.toArray=w6 at *
     have hfr:=free_c hm (hWr.below hb6) hs D B V hlt
     rw [<- HC.out] at hfr
     refine hfr.mono ?_
     rintro e w7 ⟨rfl,hb7'⟩
     clear hfr
     simp only []
     have hb7:Below wr.heap.size wr w7:=hb6.trans (hb7'.mono hb6.size)
     have c7:=(hb7'.block wr.heap.size (by omega)).trans c6
     have s7:=(hb7'.block w.heap.size (heap_lt s6)).trans s6
     have z7:wr.heap.size < w7.heap.size:=heap_lt c7
     clear hb7' hb6 c6 s6 z6 w6
     cases hf:frB C n D j with
     | false=>
       go_wp2_with (fail)
       go_roundg (n - (j + 1))
       case rel=>exact ⟨j + 1,hlt,rfl,by go_num,hI.skip hb7 (λ h=>by rw [hf] at h;cases h.1)⟩
       case measure=>omega
     | true=>
     go_wp2_with (first
      | (refine wpList_load_run 69 _ (.agg cs) rfl rfl (hload _ _ (by assumption)) ?_)
      | fail)
     obtain ⟨sv,hsv⟩:∃ sv,sv=(stV (doLD D j) (doLB C j (ixN K m C j) B) (doLV C j (ixN K m C j) V)).toArray:=⟨_,rfl⟩
     have hdo:=do_c hm (hWr.below hb7) hs hk D B V hlt
     have hs24:sv.size=24:=by rw [hsv];rfl
     have hs1:∀ u ∈ sv.toList,u.oneCell'=true:=by rw [hsv];exact stV_one _ _ _
     rw [<- HC.out,<- hsv] at hdo
     have HV:=Lib.hid hsv
     clear hsv
     refine hdo.mono ?_
     rintro e w8 ⟨rfl,hb8'⟩
     clear hdo
     simp only []
     have hb8:Below wr.heap.size wr w8:=hb7.trans (hb8'.mono hb7.size)
     have c8:=(hb8'.block wr.heap.size (heap_lt c7)).trans c7
     clear hb8' hb7 c7 s7 z7 w7
     obtain ⟨hb9,t9,c9,z9⟩:=store_box (w:=wr) (w0:=wr.heap.size) (b:=wr.heap.size) (t:=69) (h0:=hb8.size) (cur:=#[.bool false,.bool false,.bool false,.bool false,.bool false,.bool false,.bool false,.bool false,.bool false,.bool false,.bool false,.bool false,.bool false,.int .u64 0,.bool false,.int .u64 0,.bool false,.int .u64 0,.bool false,.int .u64 0,.bool false,.int .u64 0,.bool false,.int .u64 0]) (mv:=sv) hb8 c8
     cases hok:doLO C j (ixN K m C j) B V with
     | false=>
       go_wp2_with (refine wpList_store_run 69 _ _ rfl rfl (store_whole (k:=24) (by kernel_rfl) (ha_newS _ _) rfl hs24 hs1) ?_)
       go_roundg (n - (j + 1))
       case rel=>exact ⟨j + 1,hlt,rfl,by go_num,hI.skip hb9 (λ h=>by rw [hok] at h;cases h.2.1)⟩
       case measure=>omega
     | true=>
     go_wp2_with (refine wpList_store_run 69 _ _ rfl rfl (store_whole (k:=24) (by kernel_rfl) (ha_newS _ _) rfl hs24 hs1) ?_)
     generalize World.setRow (w8.alloc _) w8.heap.size sv=w9 at *
     have z9':w8.heap.size < w9.heap.size:=by omega
     clear z9
     have hsb9:=(hb9.block bs (heap_lt hsbr)).trans hsbr
     have hS:HeldTill [(8,λ w'=>w'.heap[bs]?=some (.cells #[.slice (some ⟨bc,off,none⟩) n cp,vk,.map (some bm),vo'] 57 (0,0))/\w'.heap[wr.heap.size]?=some (.cells us.toArray 62 (0,0)))] (Array.replicate 12 false) w9.drew:=by
      intro x hx _
      simp only [List.mem_cons,List.not_mem_nil,or_false] at hx
      subst hx
      exact ⟨hsb9,c9⟩
     refine wp_region_S [(8,λ w'=>w'.heap[bs]?=some (.cells #[.slice (some ⟨bc,off,none⟩) n cp,vk,.map (some bm),vo'] 57 (0,0))/\w'.heap[wr.heap.size]?=some (.cells us.toArray 62 (0,0)))] hm ?_
     (refine wpAnyS_take (i:=0) (v:=?_) rfl (by kernel_rfl) (by kernel_rfl) (by kernel_rfl) (by kernel_rfl) (by kernel_rfl) (by kernel_rfl) (λ _ _ _ h=>h) hS (Or.inl ⟨by kernel_rfl,?_⟩) (λ hS1=>?_);rotate_left;(focus (intro w _;go_simp;first | done | with_reducible rfl));clear hS;have hS:=hS1;clear hS1)
     (refine wpAnyS_take (i:=1) (v:=?_) rfl (by kernel_rfl) (by kernel_rfl) (by kernel_rfl) (by kernel_rfl) (by kernel_rfl) (by kernel_rfl) (λ _ _ _ h=>h) hS (Or.inl ⟨by kernel_rfl,?_⟩) (λ hS1=>?_);rotate_left;(focus (intro w _;go_simp;first | done | with_reducible rfl));clear hS;have hS:=hS1;clear hS1)
     (refine wpAnyS_take (i:=2) (v:=?_) rfl (by kernel_rfl) (by kernel_rfl) (by kernel_rfl) (by kernel_rfl) (by kernel_rfl) (by kernel_rfl) (λ _ _ _ h=>h) hS (Or.inl ⟨by kernel_rfl,?_⟩) (λ hS1=>?_);rotate_left;(focus (intro w _;go_simp;first | done | with_reducible rfl));clear hS;have hS:=hS1;clear hS1)
     (refine wpAnyS_take (i:=3) (v:=?_) rfl (by kernel_rfl) (by kernel_rfl) (by kernel_rfl) (by kernel_rfl) (by kernel_rfl) (by kernel_rfl) (λ _ _ _ h=>h) hS (Or.inl ⟨by kernel_rfl,?_⟩) (λ hS1=>?_);rotate_left;(focus (intro w _;go_simp;first | done | with_reducible rfl));clear hS;have hS:=hS1;clear hS1)
     try simp only [List.getElem_toArray,List.getElem_cons_succ,List.getElem_cons_zero,Act.put,List.setIfInBounds_toArray,List.set_cons_succ,List.set_cons_zero]
     refine wpAnyS_load (i:=4) (c:=8) (T:=λ w'=>w'.heap[bs]?=some (.cells #[.slice (some ⟨bc,off,none⟩) n cp,vk,.map (some bm),vo'] 57 (0,0))/\w'.heap[wr.heap.size]?=some (.cells us.toArray 62 (0,0))) (v:=vo') rfl (by kernel_rfl) (by kernel_rfl) (by kernel_rfl) (by kernel_rfl) (by kernel_rfl) (by kernel_rfl) (by kernel_rfl) (by simp) (λ _ _ _ h=>h) hS (Or.inl ⟨by kernel_rfl,λ w' hT'=>exec_load rfl (load_cell (by kernel_rfl) (by simp [World.cell?,hT'.1]))⟩) (λ hS1=>?_)
     clear hS;have hS:=hS1;clear hS1
     (refine wpAnyS_take (i:=5) (v:=?_) rfl (by kernel_rfl) (by kernel_rfl) (by kernel_rfl) (by kernel_rfl) (by kernel_rfl) (by kernel_rfl) (λ _ _ _ h=>h) hS (Or.inl ⟨by kernel_rfl,?_⟩) (λ hS1=>?_);rotate_left;(focus (intro w _;go_simp;first | done | with_reducible rfl));clear hS;have hS:=hS1;clear hS1)
     try simp only [List.getElem_toArray,List.getElem_cons_succ,List.getElem_cons_zero,Act.put,List.setIfInBounds_toArray,List.set_cons_succ,List.set_cons_zero]
     refine wpAnyS_load (i:=6) (c:=8) (T:=λ w'=>w'.heap[bs]?=some (.cells #[.slice (some ⟨bc,off,none⟩) n cp,vk,.map (some bm),vo'] 57 (0,0))/\w'.heap[wr.heap.size]?=some (.cells us.toArray 62 (0,0))) (v:=.int .i64 (cqId C j)) rfl (by kernel_rfl) (by kernel_rfl) (by kernel_rfl) (by kernel_rfl) (by kernel_rfl) (by kernel_rfl) (by kernel_rfl) (by simp) (λ _ _ _ h=>h) hS (Or.inl ⟨by kernel_rfl,λ w' hT'=>exec_load rfl (load_cell (by kernel_rfl) (by simp [World.cell?,hT'.2,hu0]))⟩) (λ hS1=>?_)
     clear hS;have hS:=hS1;clear hS1
     try simp only [List.getElem_toArray,List.getElem_cons_succ,List.getElem_cons_zero,Act.put,List.setIfInBounds_toArray,List.set_cons_succ,List.set_cons_zero]
     refine wpAnyS_ready (rs:=[7]) (by kernel_rfl) (by simp) ?_
     refine AllReadyS.cons rfl (λ K hK=>?_) AllReadyS.nil
     go_simp
     refine hK.out _ _ ?_ (λ hS1=>?_)
     . intro x hx hl
       simp only [List.mem_cons,List.not_mem_nil,or_false] at hx
       subst hx
       exact ⟨((Below.alloc' w9.drew _).block bs (heap_lt hsb9)).trans hsb9,((Below.alloc' w9.drew _).block _ (heap_lt c9)).trans c9⟩
     clear hK K hS
     have hS:=hS1
     clear hS1
     refine wpAnyS_ready (rs:=[8]) (by kernel_rfl) (by simp) ?_
     refine AllReadyS.cons rfl (λ K hK=>?_) AllReadyS.nil
     have hO9:((w9.alloc (.cells #[.int .i64 (cqId C j)] 3)).drew).ownsRow 0 3 1 vo' O.length (idsO C O):=owns_same hOr λ g _ hg=>by
      have h1:=hb9.block g hg
      exact ((Below.alloc' w9 _).block g (by have:=hb9.size;omega)).trans h1
     obtain ⟨v',wA,hrun,hOA,hkA,hgA⟩:=app_one hO9 (x:=.int .i64 (cqId C j)) rfl (show ((w9.alloc (.cells #[.int .i64 (cqId C j)] 3)).drew).heap[w9.heap.size]?=_ from ha_newS w9 _) (by omega) 23
     refine step_append_run' rfl (.tmp 59) (.tmp 62) 23 23 23 rfl vo' (.slice (some ⟨w9.heap.size,0,none⟩) 1 1) rfl rfl rfl hrun ?_
     refine hK.out _ _ ?_ (λ hS1=>?_)
     . intro x hx hl;simp only [List.mem_cons,List.not_mem_nil,or_false] at hx;subst hx;exact Bool.noConfusion (show true=false from hl)
     clear hK K hS
     have hS:=hS1
     clear hS1
     try simp only [List.getElem_toArray,List.getElem_cons_succ,List.getElem_cons_zero,Act.put,List.setIfInBounds_toArray,List.set_cons_succ,List.set_cons_zero]
     (refine wpAnyS_take (i:=9) (v:=?_) rfl (by kernel_rfl) (by kernel_rfl) (by kernel_rfl) (by kernel_rfl) (by kernel_rfl) (by kernel_rfl) (λ _ _ _ h=>h) hS (Or.inl ⟨by kernel_rfl,?_⟩) (λ hS1=>?_);rotate_left;(focus (intro w _;go_simp;first | done | with_reducible rfl));clear hS;have hS:=hS1;clear hS1)
     (refine wpAnyS_take (i:=10) (v:=?_) rfl (by kernel_rfl) (by kernel_rfl) (by kernel_rfl) (by kernel_rfl) (by kernel_rfl) (by kernel_rfl) (λ _ _ _ h=>h) hS (Or.inl ⟨by kernel_rfl,?_⟩) (λ hS1=>?_);rotate_left;(focus (intro w _;go_simp;first | done | with_reducible rfl));clear hS;have hS:=hS1;clear hS1)
     try simp only [List.getElem_toArray,List.getElem_cons_succ,List.getElem_cons_zero,Act.put,List.setIfInBounds_toArray,List.set_cons_succ,List.set_cons_zero]
     refine wpAnyS_ready (rs:=[11]) (by kernel_rfl) (by simp) ?_
     refine AllReadyS.cons rfl (λ K hK=>?_) AllReadyS.nil
     have hsbA:wA.heap[bs]?=some (.cells #[.slice (some ⟨bc,off,none⟩) n cp,vk,.map (some bm),vo'] 57 (0,0)):=by
      refine (hkA.block bs ?_ ?_).trans (((Below.alloc' w9 _).block bs (heap_lt hsb9)).trans hsb9)
      . have:=heap_lt hsb9
        show bs < (w9.alloc _).heap.size
        simp;omega
      . intro h
        rcases hOg bs h with h | h
        . exact (hOz bs h).1 rfl
        . have:=heap_lt hW.hs;omega
     refine step_store_run (w':=wA.setRow bs #[.slice (some ⟨bc,off,none⟩) n cp,vk,.map (some bm),v']) rfl 23 (.tmp 65) (.tmp 63) rfl (store_order hsbA (owns_one hOA) (owns_cells hOA)) ?_
     refine hK.out _ _ ?_ (λ hS1=>?_)
     . intro x hx hl;simp only [List.mem_cons,List.not_mem_nil,or_false] at hx;subst hx;exact Bool.noConfusion (show true=false from hl)
     clear hK K hS hS1
     refine wpAnyS_done (by kernel_rfl) ?_ _
     try simp only [List.getElem_toArray,List.getElem_cons_succ,List.getElem_cons_zero,Act.put,List.setIfInBounds_toArray,List.set_cons_succ,List.set_cons_zero]
     have hbA:wA.heap[w8.heap.size]?=some (.cells sv 69 (0,0)):=by
      refine (hkA.block _ ?_ ?_).trans (((Below.alloc' w9 _).block _ (heap_lt t9)).trans t9)
      . show w8.heap.size < (w9.alloc _).heap.size
        simp;omega
      . intro h
        have h1:=owns_lt hOr h
        have h2:=hb8.size
        omega
     have uB:=upd_setRow (cs:=#[.slice (some ⟨bc,off,none⟩) n cp,vk,.map (some bm),v']) hsbA
     have hkB:Kp (λ g=>g=bs ∨ vo'.ownBlock=some g) wr (wA.setRow bs #[.slice (some ⟨bc,off,none⟩) n cp,vk,.map (some bm),v']):=by
      refine ⟨uB.os.trans (hkA.os.trans hb9.os),uB.tape.trans (hkA.tape.trans hb9.tape),uB.output.trans (hkA.output.trans hb9.output),?_,λ g hg hn=>?_⟩
      . have h1:=hkA.size
        have h2:=hb9.size
        rw [uB.size]
        have h3:(w9.alloc (.cells #[.int .i64 (cqId C j)] 3)).heap.size<=wA.heap.size:=h1
        simp at h3
        omega
      . rw [uB.other g (λ e=>hn (.inl e))]
        have h2:=hb9.size
        refine (hkA.block g ?_ (λ e=>hn (.inr e))).trans (((Below.alloc' w9 _).block g (by omega)).trans (hb9.block g hg))
        show g < (w9.alloc _).heap.size
        simp;omega
     have hbs8:bs < wr.heap.size:=heap_lt hsbr
     have hbm8:bm < wr.heap.size:=heap_lt hbmr
     have hvo:∀ g,vo'.ownBlock=some g->g ≠ bs/\g ≠ bm/\Z g=none/\g < wr.heap.size:=λ g hg=>by
      have hl:=owns_lt hOr hg
      rcases hOg g hg with h | h
      . obtain ⟨a1,a2,a3⟩:=hOz g h
        exact ⟨a1,a2,a3,hl⟩
      . have b1:=heap_lt hW.hs
        have b2:=heap_lt hbmw
        refine ⟨by omega,by omega,?_,hl⟩
        cases hz:Z g with
        | none=>rfl
        | some cs'=>obtain ⟨t,fr,h3⟩:=hW.fz g cs' hz;have:=heap_lt h3;omega
     have hv9:∀ g,v'.ownBlock=some g->vo'.ownBlock=some g ∨ wr.heap.size<=g:=λ g hg=>by
      rcases hgA g hg with h | h
      . exact .inl h
      . have h2:=hb9.size
        have h3:(w9.alloc (.cells #[.int .i64 (cqId C j)] 3)).heap.size<=g:=h
        simp at h3
        exact .inr (by omega)
     have hv'z:∀ g,v'.ownBlock=some g->g ≠ bs/\g ≠ bm/\Z g=none:=λ g hg=>by
      rcases hv9 g hg with h | h
      . obtain ⟨a1,a2,a3,_⟩:=hvo g h
        exact ⟨a1,a2,a3⟩
      . refine ⟨by omega,by omega,?_⟩
        cases hz:Z g with
        | none=>rfl
        | some cs'=>obtain ⟨t,fr,h3⟩:=hWr.fz g cs' hz;have:=heap_lt h3;omega
     have hsbB:=uB.at_
     have stB:=(uB.other w8.heap.size (by have:=hb8.size;omega)).trans hbA
     have hOB:(wA.setRow bs #[.slice (some ⟨bc,off,none⟩) n cp,vk,.map (some bm),v']).ownsRow 0 3 1 v' (O ++ [j]).length (idsO C (O ++ [j])):=by
      rw [List.length_append,List.length_singleton,idsO,List.map_append,List.map_singleton]
      exact owns_same hOA λ g hg _=>uB.other g (hv'z g hg).1
     generalize World.setRow wA bs _=wB at *
     have hbmB:=(hkB.block bm hbm8 (λ h=>h.elim hbm (λ h=>(hvo bm h).2.1 rfl))).trans hbmr
     have hloadS:∀ (W:World) (b:Nat),W.heap[b]?=some (.cells sv 69 (0,0))->(Instr.loadAt 69 (.pointer (some ⟨b,0,none⟩))).run Try.prog W=.ok (.agg sv) W:=λ W b h=>load_whole (k:=24) (by kernel_rfl) (by kernel_rfl) h hs24
     have hDj:D j=false:=(of_decide_eq_true hf).1
     have hWB:SrW nc n C nk m K Z bs (.slice (some ⟨bc,off,none⟩) n cp) vk (.map (some bm)) v' wB:=hWr.kp hkB hsbB (owns_one hOB) λ b cs' hz hb=>by
      rcases hb with rfl | hb
      . rw [zs] at hz;cases hz
      . rw [(hvo b hb).2.2.1] at hz;cases hz
     have hih:=IH.out (doLD D j) (doLB C j (ixN K m C j) B) (doLV C j (ixN K m C j) V) wB v' (O ++ [j]) es' clock' (λ s=>Q s ∨ s=(D,B,V)) hWB (by have:=un_next hlt hDj;omega) (hV.step (hw j hlt)) hbmB hTr (λ s h=>by
      rcases h with h | rfl
      . have:=hQ s h;omega
      . show k < un n D;omega) hOB hv'z (by rw [List.length_append,List.length_singleton];omega)
     rw [<- HV.out] at hih
     clear hOB hWB hsbA hrun hOA hkA hgA uB hbA hO9 hsb9 c9 t9 hb9 hb8 c8
     go_wp2_with (refine wpList_load_run 69 _ (.agg sv) rfl rfl (hloadS _ _ stB) ?_)
     refine hih.mono ?_
     clear hih
     rintro e w10 ⟨rfl,vo10,es10,clock10,hsbE,hbmE,hkE,hvE,hOE,hTE,_⟩
     simp only []
     have hkW:Kp (λ g=>g=bs ∨ g=bm ∨ vo.ownBlock=some g) w w10:=by
      refine (hI.kp.trans hkB (λ g hg h=>?_)).trans hkE (λ g hg h=>?_)
      . rcases h with h | h
        . exact .inl h
        . rcases hOg g h with h | h
          . exact .inr (.inr h)
          . omega
      . rcases h with h | h | h
        . exact .inl h
        . exact .inr (.inl h)
        . rcases hv9 g h with h | h
          . rcases hOg g h with h | h
            . exact .inr (.inr h)
            . omega
          . have:=hI.kp.size;omega
     have hvW:∀ g,vo10.ownBlock=some g->vo.ownBlock=some g ∨ w.heap.size < g:=λ g hg=>by
      have h1:=hI.kp.size
      have h2:=hkB.size
      have h3:=heap_lt hI.st
      rcases hvE g hg with h | h
      . rcases hv9 g h with h | h
        . exact hOg g h
        . exact .inr (by omega)
      . exact .inr (by omega)
     cases hr:srX C n K m k (doLD D j) (doLB C j (ixN K m C j) B) (doLV C j (ixN K m C j) V) with
     | some L=>
       rw [hr] at hOE
       go_wp2_with (fail)
       simp only [Exit.noGoto_ret]
       go_ret
       rw [srX_hit henb hlt hI.miss hf hok hr]
       refine ⟨rfl,vo10,es10,clock10,hsbE,hbmE,hkW,λ g hg=>(hvW g hg).imp id Nat.le_of_lt,?_,λ h=>(by cases h),λ h=>by cases h⟩
       rw [Option.getD_some] at hOE ⊢
       rwa [List.append_assoc] at hOE
     | none=>
     rw [hr] at hOE hTE
     go_wp2_with (fail)
     rw [Option.getD_none,List.append_nil,List.length_append,List.length_singleton] at hOE
     have hst10:w10.heap[w.heap.size]?=some (.cells cs 69 (0,0)):=by
      have h3:=heap_lt hI.st
      refine (hkE.block _ (Nat.lt_of_lt_of_le h3 hkB.size) (λ h=>?_)).trans ((hkB.block _ h3 (λ h=>?_)).trans hI.st)
      . rcases h with h | h | h
        . have:=heap_lt hW.hs;omega
        . have:=heap_lt hbmw;omega
        . rcases hv9 _ h with h | h
          . rcases hOg _ h with h | h
            . have:=owns_lt hO h;omega
            . omega
          . omega
      . rcases h with h | h
        . have:=heap_lt hW.hs;omega
        . rcases hOg _ h with h | h
          . have:=owns_lt hO h;omega
          . omega
     obtain ⟨hlenE,hE2⟩:=hOE
     rcases hE2 with ⟨_,h⟩ | ⟨go,cap,cur,rfl,_,hgo,hncap,hcapm,hcsz,hctk⟩
     . omega
     have hctk2:cur.toList.take (O.length * 1)=idsO C O:=take_pre (x:=.int .i64 (cqId C j)) (by rw [hctk];simp [idsO]) (by simp [idsO])
     clear hctk
     have hwr:IntKind.i64.wrap (O.length:Int)=(O.length:Int):=wrap64 (by omega) (by omega)
     have hcl:O.length<=cap:=by omega
     clear hv9 hv'z hOg hvo hloadS hsbB stB hbmB hkE hvE hkB
     have hS:HeldTill [(14,λ w'=>w'.heap[bs]?=some (.cells #[.slice (some ⟨bc,off,none⟩) n cp,vk,.map (some bm),.slice (some ⟨go,0,none⟩) (O.length + 1) cap] 57 (0,0)))] (Array.replicate 15 false) w10.drew:=by
      intro x hx _
      simp only [List.mem_cons,List.not_mem_nil,or_false] at hx
      subst hx
      exact hsbE
     refine wp_region_S [(14,λ w'=>w'.heap[bs]?=some (.cells #[.slice (some ⟨bc,off,none⟩) n cp,vk,.map (some bm),.slice (some ⟨go,0,none⟩) (O.length + 1) cap] 57 (0,0)))] hm ?_
     (refine wpAnyS_take (i:=0) (v:=?_) rfl (by kernel_rfl) (by kernel_rfl) (by kernel_rfl) (by kernel_rfl) (by kernel_rfl) (by kernel_rfl) (λ _ _ _ h=>h) hS (Or.inl ⟨by kernel_rfl,?_⟩) (λ hS1=>?_);rotate_left;(focus (intro w _;go_simp;first | done | with_reducible rfl));clear hS;have hS:=hS1;clear hS1)
     (refine wpAnyS_take (i:=1) (v:=?_) rfl (by kernel_rfl) (by kernel_rfl) (by kernel_rfl) (by kernel_rfl) (by kernel_rfl) (by kernel_rfl) (λ _ _ _ h=>h) hS (Or.inl ⟨by kernel_rfl,?_⟩) (λ hS1=>?_);rotate_left;(focus (intro w _;go_simp;first | done | with_reducible rfl));clear hS;have hS:=hS1;clear hS1)
     (refine wpAnyS_take (i:=2) (v:=?_) rfl (by kernel_rfl) (by kernel_rfl) (by kernel_rfl) (by kernel_rfl) (by kernel_rfl) (by kernel_rfl) (λ _ _ _ h=>h) hS (Or.inl ⟨by kernel_rfl,?_⟩) (λ hS1=>?_);rotate_left;(focus (intro w _;go_simp;first | done | with_reducible rfl));clear hS;have hS:=hS1;clear hS1)
     (refine wpAnyS_take (i:=3) (v:=?_) rfl (by kernel_rfl) (by kernel_rfl) (by kernel_rfl) (by kernel_rfl) (by kernel_rfl) (by kernel_rfl) (λ _ _ _ h=>h) hS (Or.inl ⟨by kernel_rfl,?_⟩) (λ hS1=>?_);rotate_left;(focus (intro w _;go_simp;first | done | with_reducible rfl));clear hS;have hS:=hS1;clear hS1)
     try simp only [List.getElem_toArray,List.getElem_cons_succ,List.getElem_cons_zero,Act.put,List.setIfInBounds_toArray,List.set_cons_succ,List.set_cons_zero]
     refine wpAnyS_load (i:=4) (c:=14) (T:=λ w'=>w'.heap[bs]?=some (.cells #[.slice (some ⟨bc,off,none⟩) n cp,vk,.map (some bm),.slice (some ⟨go,0,none⟩) (O.length + 1) cap] 57 (0,0))) (v:=.slice (some ⟨go,0,none⟩) (O.length + 1) cap) rfl (by kernel_rfl) (by kernel_rfl) (by kernel_rfl) (by kernel_rfl) (by kernel_rfl) (by kernel_rfl) (by kernel_rfl) (by simp) (λ _ _ _ h=>h) hS (Or.inl ⟨by kernel_rfl,λ w' hT'=>exec_load rfl (load_cell (by kernel_rfl) (by simp [World.cell?,show w'.heap[bs]?=_ from hT']))⟩) (λ hS1=>?_)
     clear hS;have hS:=hS1;clear hS1
     (refine wpAnyS_take (i:=5) (v:=?_) rfl (by kernel_rfl) (by kernel_rfl) (by kernel_rfl) (by kernel_rfl) (by kernel_rfl) (by kernel_rfl) (λ _ _ _ h=>h) hS (Or.inl ⟨by kernel_rfl,?_⟩) (λ hS1=>?_);rotate_left;(focus (intro w _;go_simp;first | done | with_reducible rfl));clear hS;have hS:=hS1;clear hS1)
     (refine wpAnyS_take (i:=6) (v:=?_) rfl (by kernel_rfl) (by kernel_rfl) (by kernel_rfl) (by kernel_rfl) (by kernel_rfl) (by kernel_rfl) (λ _ _ _ h=>h) hS (Or.inl ⟨by kernel_rfl,?_⟩) (λ hS1=>?_);rotate_left;(focus (intro w _;go_simp;first | done | with_reducible rfl));clear hS;have hS:=hS1;clear hS1)
     (refine wpAnyS_take (i:=7) (v:=?_) rfl (by kernel_rfl) (by kernel_rfl) (by kernel_rfl) (by kernel_rfl) (by kernel_rfl) (by kernel_rfl) (λ _ _ _ h=>h) hS (Or.inl ⟨by kernel_rfl,?_⟩) (λ hS1=>?_);rotate_left;(focus (intro w _;go_simp;first | done | with_reducible rfl));clear hS;have hS:=hS1;clear hS1)
     try simp only [List.getElem_toArray,List.getElem_cons_succ,List.getElem_cons_zero,Act.put,List.setIfInBounds_toArray,List.set_cons_succ,List.set_cons_zero]
     refine wpAnyS_load (i:=8) (c:=14) (T:=λ w'=>w'.heap[bs]?=some (.cells #[.slice (some ⟨bc,off,none⟩) n cp,vk,.map (some bm),.slice (some ⟨go,0,none⟩) (O.length + 1) cap] 57 (0,0))) (v:=.slice (some ⟨go,0,none⟩) (O.length + 1) cap) rfl (by kernel_rfl) (by kernel_rfl) (by kernel_rfl) (by kernel_rfl) (by kernel_rfl) (by kernel_rfl) (by kernel_rfl) (by simp) (λ _ _ _ h=>h) hS (Or.inl ⟨by kernel_rfl,λ w' hT'=>exec_load rfl (load_cell (by kernel_rfl) (by simp [World.cell?,show w'.heap[bs]?=_ from hT']))⟩) (λ hS1=>?_)
     clear hS;have hS:=hS1;clear hS1
     (refine wpAnyS_take (i:=9) (v:=?_) rfl (by kernel_rfl) (by kernel_rfl) (by kernel_rfl) (by kernel_rfl) (by kernel_rfl) (by kernel_rfl) (λ _ _ _ h=>h) hS (Or.inl ⟨by kernel_rfl,?_⟩) (λ hS1=>?_);rotate_left;(focus (intro w _;go_simp;first | done | with_reducible rfl));clear hS;have hS:=hS1;clear hS1)
     (refine wpAnyS_take (i:=10) (v:=?_) rfl (by kernel_rfl) (by kernel_rfl) (by kernel_rfl) (by kernel_rfl) (by kernel_rfl) (by kernel_rfl) (λ _ _ _ h=>h) hS (Or.inl ⟨by kernel_rfl,?_⟩) (λ hS1=>?_);rotate_left;(focus (intro w _;go_simp;first | done | with_reducible rfl));clear hS;have hS:=hS1;clear hS1)
     try simp only [List.getElem_toArray,List.getElem_cons_succ,List.getElem_cons_zero,Act.put,List.setIfInBounds_toArray,List.set_cons_succ,List.set_cons_zero]
     (refine wpAnyS_take (i:=11) (v:=?_) rfl (by kernel_rfl) (by kernel_rfl) (by kernel_rfl) (by kernel_rfl) (by kernel_rfl) (by kernel_rfl) (λ _ _ _ h=>h) hS (Or.inl ⟨by kernel_rfl,?_⟩) (λ hS1=>?_);rotate_left;(focus (intro w _;go_simp;first | done | with_reducible rfl));clear hS;have hS:=hS1;clear hS1)
     try simp only [List.getElem_toArray,List.getElem_cons_succ,List.getElem_cons_zero,Act.put,List.setIfInBounds_toArray,List.set_cons_succ,List.set_cons_zero]
     (refine wpAnyS_take (i:=12) (v:=?_) rfl (by kernel_rfl) (by kernel_rfl) (by kernel_rfl) (by kernel_rfl) (by kernel_rfl) (by kernel_rfl) (λ _ _ _ h=>h) hS (Or.inl ⟨by kernel_rfl,?_⟩) (λ hS1=>?_);rotate_left;(focus (intro w _;go_simp;first | done | with_reducible rfl));clear hS;have hS:=hS1;clear hS1)
     (refine wpAnyS_take (i:=13) (v:=?_) rfl (by kernel_rfl) (by kernel_rfl) (by kernel_rfl) (by kernel_rfl) (by kernel_rfl) (by kernel_rfl) (λ _ _ _ h=>h) hS (Or.inl ⟨by kernel_rfl,?_⟩) (λ hS1=>?_);rotate_left;(focus (intro w _;go_simp;first | done | with_reducible rfl));clear hS;have hS:=hS1;clear hS1)
     try simp only [List.getElem_toArray,List.getElem_cons_succ,List.getElem_cons_zero,Act.put,List.setIfInBounds_toArray,List.set_cons_succ,List.set_cons_zero]
     refine wpAnyS_ready (rs:=[14]) (by kernel_rfl) (by simp) ?_
     refine AllReadyS.cons rfl (λ K hK=>?_) AllReadyS.nil
     refine step_store_run (w':=w10.drew.setRow bs #[.slice (some ⟨bc,off,none⟩) n cp,vk,.map (some bm),.slice (some ⟨go,0,none⟩) O.length cap]) rfl 23 (.tmp 82) (.tmp 80) rfl (store_order (W:=w10.drew) hsbE rfl rfl) ?_
     refine hK.out _ _ ?_ (λ hS1=>?_)
     . intro x hx hl;simp only [List.mem_cons,List.not_mem_nil,or_false] at hx;subst hx;exact Bool.noConfusion (show true=false from hl)
     clear hK K hS hS1
     refine wpAnyS_done (by kernel_rfl) ?_ _
     try simp only [List.getElem_toArray,List.getElem_cons_succ,List.getElem_cons_zero,Act.put,List.setIfInBounds_toArray,List.set_cons_succ,List.set_cons_zero]
     have uD:=upd_setRow (w:=w10.drew) (cs:=#[.slice (some ⟨bc,off,none⟩) n cp,vk,.map (some bm),.slice (some ⟨go,0,none⟩) O.length cap]) hsbE
     have hbs10:w.heap.size ≠ bs:=by have:=heap_lt hW.hs;omega
     have hgo2:go ≠ bs:=by
      rcases hvW go rfl with h | h
      . exact (hOz go h).1
      . have:=heap_lt hW.hs;omega
     have hI2:LpI C n K m k bs bm (.slice (some ⟨bc,off,none⟩) n cp) vk vo w O Q D B V cs (j + 1) (w10.drew.setRow bs #[.slice (some ⟨bc,off,none⟩) n cp,vk,.map (some bm),.slice (some ⟨go,0,none⟩) O.length cap]):=by
      refine ⟨λ i hi=>?_,⟨_,es10,clock10,uD.at_,(uD.other bm hbm).trans hbmE,hTE (by first | rfl | trivial),⟨?_,.inr ⟨go,cap,cur,rfl,Nat.zero_le _,(uD.other go hgo2).trans hgo,hcl,hcapm,hcsz,?_⟩⟩,λ g hg=>hvW g hg⟩,?_,(uD.other _ hbs10).trans hst10⟩
      . rcases Nat.lt_succ_iff_lt_or_eq.1 hi with h6 | rfl
        . exact hI.miss i h6
        . rw [hr];rintro ⟨_,_,h⟩;cases h
      . simp [idsO]
      . exact hctk2
      . refine ⟨uD.os.trans hkW.os,uD.tape.trans hkW.tape,uD.output.trans hkW.output,?_,λ g hg hn=>(uD.other g (λ e=>hn (.inl e))).trans (hkW.block g hg hn)⟩
        rw [uD.size];exact hkW.size
     generalize World.setRow w10.drew bs _=w11 at *
     go_wp2_with (fail)
     go_roundg (n - (j + 1))
     case rel=>exact ⟨j + 1,hlt,rfl,by go_num,hI2⟩
     case measure=>omega
   . obtain rfl:j=n:=by omega
     go_wp2_with (fail)
     simp only [Exit.noGoto_ret]
     go_ret
     obtain ⟨vo',es',clock',hsbr,hbmr,hTr,hOr,hOg⟩:=hI.mem
     have hnone:=srX_none henb hI.miss
     rw [hnone]
     refine ⟨rfl,vo',es',clock',hsbr,hbmr,hI.kp,λ g hg=>(hOg g hg).imp id Nat.le_of_lt,?_,λ _=>⟨hTr.st,λ x hx=>?_⟩,λ h=>by cases h⟩
     . rw [Option.getD_none,List.append_nil];exact hOr
     . obtain ⟨D',B',V',h1,h2,h3,h4⟩:=hTr.ent x hx
       refine ⟨D',B',V',h1,h2,h3,?_⟩
       rcases h4 with h4 | h4 | h4
       . exact .inl h4
       . exact .inr h4
       . obtain ⟨rfl,rfl,rfl⟩:D'=D/\B'=B/\V'=V:=by simpa using h4
         exact .inl (by rw [hun];exact hnone)
theorem from_c (hm:Try.prog.follows .mixedOrders=true)(hs:smQ C n=true)(hk:smK C n K m=true)(hw:smW C n)(hbm:bm ≠ bs)(zm:Z bm=none)(zs:Z bs=none):∀ k,FromS nc n C nk m K Z bs bm vc vk k
 | 0=>from_step hm hs hk hw hbm zm zs 0 (λ k' h=>absurd h (Nat.succ_ne_zero k').symm)
 | k + 1=>from_step hm hs hk hw hbm zm zs (k + 1) (λ k' h=>by obtain rfl:k=k':=Nat.succ.inj h;exact from_c hm hs hk hw hbm zm zs k)
end
end Go.Proofs.Ytknfdbilpfblnaa.Ex
end
section
noncomputable section
namespace Go.Proofs.Ytknfdbilpfblnaa.Ex
open Go Go.RowKit
section
variable (C : CaS) (n : Nat) (K : Nat -> Int) (m : Nat)
def Pth:(Nat->Bool)->(Nat->Bool)->(Nat->Int)->List Nat->Prop
 | D,_,_,[]=>enB C n D=true
 | D,B,V,i :: L=>i < n/\frB C n D i=true/\doLO C i (ixN K m C i) B V=true/\Pth (doLD D i) (doLB C i (ixN K m C i) B) (doLV C i (ixN K m C i) V) L
end
variable {C : CaS} {n : Nat} {K : Nat -> Int} {m : Nat}
theorem srX_sound:∀ {k:Nat} {D B:Nat->Bool} {V:Nat->Int} {L:List Nat},srX C n K m k D B V=some L->Pth C n K m D B V L
 | k,D,B,V,L,h=>by
   unfold srX at h
   split at h
   . rename_i he
     simp only [sI] at h;subst h
     exact he
   . cases k with
     | zero=>cases h
     | succ k=>
       obtain ⟨i,hi,h⟩:=List.exists_of_findSome?_eq_some h
       split at h
       . rename_i h1
         cases hr:srX C n K m k (doLD D i) (doLB C i (ixN K m C i) B) (doLV C i (ixN K m C i) V) with
         | none=>rw [hr] at h;cases h
         | some L'=>
           rw [hr] at h
           simp only [Option.map_some,sI] at h
           subst h
           exact ⟨List.mem_range.1 hi,h1.1,h1.2,srX_sound hr⟩
       . cases h
theorem frB_d {D:Nat->Bool}{i:Nat}(h:frB C n D i=true):D i=false:=(of_decide_eq_true h).1
theorem srX_complete:∀ {k:Nat} {D B:Nat->Bool} {V:Nat->Int} {L:List Nat},Pth C n K m D B V L->un n D=k->srX C n K m k D B V ≠ none
 | k,D,B,V,[],h,_=>by
   have h:enB C n D=true:=h
   rw [srX_en h];exact Option.some_ne_none _
 | k,D,B,V,i :: L,h,hk=>by
   obtain ⟨hi,hf,ho,hp⟩:=h
   cases he:enB C n D with
   | true=>rw [srX_en he];exact Option.some_ne_none _
   | false=>
     have hu:=un_next hi (frB_d hf)
     cases k with
     | zero=>omega
     | succ k=>
       have ih:=srX_complete hp (show un n (doLD D i)=k by omega)
       intro hn
       unfold srX at hn
       rw [if_neg (by rw [he];exact Bool.false_ne_true)] at hn
       have:=List.findSome?_eq_none_iff.1 hn i (List.mem_range.2 hi)
       rw [if_pos ⟨hf,ho⟩] at this
       cases hr:srX C n K m k (doLD D i) (doLB C i (ixN K m C i) B) (doLV C i (ixN K m C i) V) with
       | none=>exact ih hr
       | some L'=>rw [hr] at this;cases this
def swpA (d:Nat->Int)(j q:Nat):Int:=if q=j then d (j - 1) else if q=j - 1 then d j else d q
def insD (a:Nat):Nat->(Nat->Int)->Nat->Int
 | 0,d=>d
 | j + 1,d=>if a < j + 1/\d (j + 1) < d j then insD a j (swpA d (j + 1)) else d
def insS (a:Nat)(d:Nat->Int):Nat->Nat->Int
 | 0=>d
 | k + 1=>insD a (a + k + 1) (insS a d k)
structure IxS where
 t:Nat
 d:Nat->Int
instance:Inhabited IxS:=⟨⟨0,λ _=>0⟩⟩
def ixT (p:IxS):Nat:=p.t
def ixD (p:IxS)(q:Nat):Int:=p.d q
def prIo (a b i:Nat):Prop:=i<=b - a - 1
def mIo (a b i:Nat):Nat:=b - a - 1 - i
def tmI (z:St)(t:Nat):Nat:=match z.tm.get (t + 1) with | some (.y _ x)=>yNat x | some (.i _ x)=>x.toNat | _=>0
def prIi (a i:Nat)(R:Nat->Int)(p:IxS):Prop:=a + p.t<=i/\insD a (i - p.t) p.d=R
def mIi (a i:Nat)(p:IxS):Nat:=i - a - p.t
def annIs (n a b:Nat)(d:Nat->Int)(x:Nat):Option (St->LoopA):=
 match x with
 | 0=>some λ _=>{ ι:=Nat,tms:=[6],tmU:=λ k=>[.y .i64 (yInt (yNadd (yNadd a k) 1))],ids:=[0],hpU:=λ k=>[.arr false 34 1 n (colF [.int .u64 (insS a d k)])],del:=[],ex:=0,pre:=prIo a b,ms:=mIo a b }
 | 1=>some λ z=>{ ι:=IxS,tms:=[7],tmU:=λ p=>[.y .i64 (ySub (yInt (tmI z 6)) (yInt (ixT p)))],ids:=[0],hpU:=λ p=>[.arr false 34 1 n (colF [.int .u64 (ixD p)])],del:=[],ex:=2,pre:=prIi a (tmI z 6) (insS a d (yNsub (tmI z 6) a)),ms:=mIi a (tmI z 6) }
 | _=>none
def goalIs6:Prop:=∀ (nl:Bool) (n:Nat) (d:Nat->Int) (a b:Nat),yNle n 1000000=true->yNle b n=true->yNle a b=true →
 wxH Try.prog noSm (annIs n a b d) 83 [.mut 34 [.int .u64],.sc,.sc] [.rows nl n [.int .u64 d],.v (.y .i64 (yInt a)),.v (.y .i64 (yInt b))] (.tup []) (.l []) [[.rows nl n [.int .u64 (insS a d (yNsub (yNsub b a) 1))]]]
def goalIs6_1 (a:Nat)(i:Nat)(i_1:IxS):=ySub (yInt (yNat (yInt (yNadd (yNadd a i) 1)))) (yInt (ixT i_1))
def goalIs6_2 (a:Nat)(i:Nat)(i_1:IxS):=yNadd 0 (yNat (yWrap .i64 (ySub (goalIs6_1 a i i_1) 1)))
def goalIs6_4 (a:Nat)(i:Nat)(i_1:IxS)(n:Nat):=yIn (yWrap .i64 (ySub (goalIs6_1 a i i_1) 1)) n=false->False
def goalIs6_0 (a:Nat)(i:Nat)(i_1:IxS)(n:Nat)(d:Nat->Int):=yIn (yWrap .i64 (ySub (goalIs6_1 a i i_1) 1)) n=true->mst (yNlt (goalIs6_2 a i i_1) n) (mst (yIn (goalIs6_1 a i i_1) n) (mst (yNlt (yNadd 0 (yNat (goalIs6_1 a i i_1))) n) (mst (yIn (goalIs6_1 a i i_1) n) (mst (yNlt (yNadd 0 (yNat (goalIs6_1 a i i_1))) n) ((yIn (yWrap .i64 (ySub (goalIs6_1 a i i_1) 1)) n=true->mst (yNlt (goalIs6_2 a i i_1) n) (true=true/\∃ (i':IxS),prIi a (yNat (yInt (yNadd (yNadd a i) 1))) (insS a d (yNsub (yNat (yInt (yNadd (yNadd a i) 1))) a)) i'/\Nat.succ (mIi a (yNat (yInt (yNadd (yNadd a i) 1))) i')<=mIi a (yNat (yInt (yNadd (yNadd a i) 1))) i_1/\true=true/\ySub (yInt (yNat (yInt (yNadd (yNadd a i) 1)))) (yInt (ixT i'))=yWrap .i64 (ySub (goalIs6_1 a i i_1) 1)/\n=n/\(∀ (i_2:Nat),Nat.succ i_2<=n->ixD i' i_2=ySel (yNeq i_2 (goalIs6_2 a i i_1)) (ixD i_1 (yNadd 0 (yNat (goalIs6_1 a i i_1)))) (ySel (yNeq i_2 (yNadd 0 (yNat (goalIs6_1 a i i_1)))) (ixD i_1 (goalIs6_2 a i i_1)) (ixD i_1 i_2))/\True)/\true=true))/\(goalIs6_4 a i i_1 n))))))
def goalIs6_3 (i_1:IxS)(a:Nat)(i:Nat)(b:Nat)(n:Nat)(d:Nat->Int):=yLt (ixD i_1 (yNadd 0 (yNat (goalIs6_1 a i i_1)))) (ixD i_1 (goalIs6_2 a i i_1))=false->true=true/\∃ (i':Nat),prIo a b i'/\Nat.succ (mIo a b i')<=mIo a b i/\true=true/\yInt (yNadd (yNadd a i') 1)=yWrap .i64 (yAdd (yInt (yNadd (yNadd a i) 1)) 1)/\n=n/\(∀ (i:Nat),Nat.succ i<=n->insS a d i' i=ixD i_1 i/\True)/\true=true
def goalIs6V:Prop:=(∀ (nl:Bool) (n:Nat) (d:Nat->Int) (a b:Nat),yNle n (nat_lit 1000000)=true->yNle b n=true->yNle a b=true->true=true/\(∃ (i0:Nat),prIo a b i0/\true=true/\yInt (yNadd (yNadd a i0) 1)=yWrap .i64 (yAdd (yInt a) 1)/\n=n/\(∀ (i:Nat),Nat.succ i<=n->insS a d i0 i=d i/\True)/\true=true)/\∀ (g:Nat->AV) (i:Nat),prIo a b i->(yLt (yInt (yNadd (yNadd a i) 1)) (yInt b)=true->true=true/\(∃ (i0:IxS),prIi a (yNat (yInt (yNadd (yNadd a i) 1))) (insS a d (yNsub (yNat (yInt (yNadd (yNadd a i) 1))) a)) i0/\true=true/\ySub (yInt (yNat (yInt (yNadd (yNadd a i) 1)))) (yInt (ixT i0))=yInt (yNadd (yNadd a i) 1)/\n=n/\(∀ (i_1:Nat),Nat.succ i_1<=n->ixD i0 i_1=insS a d i i_1/\True)/\true=true)/\∀ (g:Nat->AV) (i_1:IxS),prIi a (yNat (yInt (yNadd (yNadd a i) 1))) (insS a d (yNsub (yNat (yInt (yNadd (yNadd a i) 1))) a)) i_1->(yLt (yInt a) (goalIs6_1 a i i_1)=true->mst (yIn (goalIs6_1 a i i_1) n) (mst (yNlt (yNadd 0 (yNat (goalIs6_1 a i i_1))) n) ((yIn (yWrap .i64 (ySub (goalIs6_1 a i i_1) 1)) n=true->mst (yNlt (goalIs6_2 a i i_1) n) ((yNot (yEq (ixD i_1 (yNadd 0 (yNat (goalIs6_1 a i i_1)))) (ixD i_1 (yNadd 0 (yNat (goalIs6_1 a i i_1)))))=true->(yNot (yNot (yEq (ixD i_1 (goalIs6_2 a i i_1)) (ixD i_1 (goalIs6_2 a i i_1))))=true->(goalIs6_0 a i i_1 n d)/\(goalIs6_4 a i i_1 n))/\(yNot (yNot (yEq (ixD i_1 (goalIs6_2 a i i_1)) (ixD i_1 (goalIs6_2 a i i_1))))=false->(yLt (ixD i_1 (yNadd 0 (yNat (goalIs6_1 a i i_1)))) (ixD i_1 (goalIs6_2 a i i_1))=true->(goalIs6_0 a i i_1 n d)/\(goalIs6_4 a i i_1 n))/\(goalIs6_3 i_1 a i b n d)))/\(yNot (yEq (ixD i_1 (yNadd 0 (yNat (goalIs6_1 a i i_1)))) (ixD i_1 (yNadd 0 (yNat (goalIs6_1 a i i_1)))))=false->(yLt (ixD i_1 (yNadd 0 (yNat (goalIs6_1 a i i_1)))) (ixD i_1 (goalIs6_2 a i i_1))=true->(goalIs6_0 a i i_1 n d)/\(goalIs6_4 a i i_1 n))/\(goalIs6_3 i_1 a i b n d))))/\(goalIs6_4 a i i_1 n))))/\(yLt (yInt a) (goalIs6_1 a i i_1)=false->true=true/\∃ (i':Nat),prIo a b i'/\Nat.succ (mIo a b i')<=mIo a b i/\true=true/\yInt (yNadd (yNadd a i') 1)=yWrap .i64 (yAdd (yInt (yNadd (yNadd a i) 1)) 1)/\n=n/\(∀ (i:Nat),Nat.succ i<=n->insS a d i' i=ixD i_1 i/\True)/\true=true))/\(yLt (yInt (yNadd (yNadd a i) 1)) (yInt b)=false->n=n/\(∀ (i_1:Nat),Nat.succ i_1<=n->insS a d (yNsub (yNsub b a) 1) i_1=insS a d i i_1/\True)/\true=true))
theorem goalIs6_eq:goalIs6=goalIs6V:=by kernel_rfl
set_option maxHeartbeats 8000000 in
theorem goalIs6_vc:goalIs6V:=by
 unfold goalIs6V goalIs6_3 goalIs6_0 goalIs6_4 goalIs6_2 goalIs6_1
 intro nl n d a b hn hb hab
 have hn:n<=1000000:=of_decide_eq_true hn
 have hb:b<=n:=of_decide_eq_true hb
 have hab:a<=b:=of_decide_eq_true hab
 refine ⟨rfl,⟨0,Nat.zero_le _,rfl,?_,rfl,λ q _=>⟨rfl,trivial⟩,rfl⟩,λ g i hp=>⟨λ h=>?_,λ h=>?_⟩⟩
 . show ((a + 0 + 1:Nat):Int)=yWrap .i64 ((a:Int) + 1)
   rw [wrap64 (by omega) (by omega)];omega
 . have hi:a + i + 1 < b:=by have h0:((a + i + 1:Nat):Int) < (b:Int):=of_decide_eq_true h;omega
   have nxtO:∀ p:IxS,insS a d (i + 1)=p.d->∃ (i':Nat),prIo a b i'/\Nat.succ (mIo a b i')<=mIo a b i/\true=true/\yInt (yNadd (yNadd a i') 1)=yWrap .i64 (yAdd (yInt (yNadd (yNadd a i) 1)) (1:Int))/\n=n/\(∀ (q:Nat),Nat.succ q<=n->insS a d i' q=ixD p q/\True)/\true=true:=λ p hc=>
    ⟨i + 1,by unfold prIo;omega,by unfold mIo;omega,rfl,by show ((a + (i + 1) + 1:Nat):Int)=yWrap .i64 (((a + i + 1:Nat):Int) + 1);rw [wrap64 (by omega) (by omega)];omega,rfl,λ q _=>⟨by rw [hc];rfl,trivial⟩,rfl⟩
   have eS:insS a d (a + i + 1 - a)=insS a d (i + 1):=by rw [show a + i + 1 - a=i + 1 by omega]
   refine ⟨rfl,⟨⟨0,insS a d i⟩,⟨by show a + 0<=a + i + 1;omega,?_⟩,rfl,?_,rfl,λ q _=>⟨rfl,trivial⟩,rfl⟩,λ g p hq=>⟨λ h1=>?_,λ h1=>⟨rfl,nxtO p ?_⟩⟩⟩
   . show insD a (a + i + 1 - 0) (insS a d i)=insS a d (a + i + 1 - a)
     rw [eS];rfl
   . show ((a + i + 1:Nat):Int) - ((0:Nat):Int)=((a + i + 1:Nat):Int)
     omega
   . have hq1:a + p.t<=a + i + 1:=hq.1
     have hq2:insD a (a + i + 1 - p.t) p.d=insS a d (i + 1):=hq.2.trans eS
     have h1:(a:Int) < ((a + i + 1:Nat):Int) - ((p.t:Nat):Int):=of_decide_eq_true h1
     obtain ⟨J,hJ⟩:∃ J,a + i + 1 - p.t=J + 1:=⟨a + i - p.t,by omega⟩
     have g1:goalIs6_1 a i p=((J + 1:Nat):Int):=by
      show ((a + i + 1:Nat):Int) - ((p.t:Nat):Int)=_
      omega
     have w1:yWrap .i64 (ySub (goalIs6_1 a i p) 1)=(J:Int):=by
      rw [g1]
      show yWrap .i64 (((J + 1:Nat):Int) - 1)=_
      rw [wrap64 (by omega) (by omega)];omega
     have g2:goalIs6_2 a i p=J:=by
      show 0 + yNat (yWrap .i64 (ySub (goalIs6_1 a i p) 1))=J
      rw [w1,Nat.zero_add];rfl
     have g3:yNadd 0 (yNat (goalIs6_1 a i p))=J + 1:=by rw [g1];exact Nat.zero_add _
     have i1:yIn (goalIs6_1 a i p) n=true:=by rw [g1];exact decide_eq_true ⟨by omega,by omega⟩
     have l1:yNlt (yNadd 0 (yNat (goalIs6_1 a i p))) n=true:=by rw [g3];exact decide_eq_true (by omega)
     have i2:yIn (yWrap .i64 (ySub (goalIs6_1 a i p) 1)) n=true:=by rw [w1];exact decide_eq_true ⟨by omega,by omega⟩
     have l2:yNlt (goalIs6_2 a i p) n=true:=by rw [g2];exact decide_eq_true (by omega)
     have f4:goalIs6_4 a i p n:=λ e=>by rw [i2] at e;cases e
     have s0:p.d (J + 1) < p.d J->goalIs6_0 a i p n d:=λ hl=>by
      refine λ _=>mstI l2 (mstI i1 (mstI l1 (mstI i1 (mstI l1 ⟨λ _=>mstI l2 ⟨rfl,⟨p.t + 1,swpA p.d (J + 1)⟩,⟨?_,?_⟩,?_,rfl,?_,rfl,λ q _=>⟨?_,trivial⟩,rfl⟩,f4⟩))))
      . show a + (p.t + 1)<=a + i + 1
        omega
      . show insD a (a + i + 1 - (p.t + 1)) (swpA p.d (J + 1))=insS a d (a + i + 1 - a)
        rw [eS,<- hq2,hJ,show a + i + 1 - (p.t + 1)=J by omega]
        exact (if_pos ⟨by omega,hl⟩).symm
      . show Nat.succ (a + i + 1 - a - (p.t + 1))<=a + i + 1 - a - p.t
        omega
      . show ((a + i + 1:Nat):Int) - ((p.t + 1:Nat):Int)=yWrap .i64 (ySub (goalIs6_1 a i p) 1)
        rw [w1];omega
      . show swpA p.d (J + 1) q=ySel (yNeq q (goalIs6_2 a i p)) (p.d (yNadd 0 (yNat (goalIs6_1 a i p)))) (ySel (yNeq q (yNadd 0 (yNat (goalIs6_1 a i p)))) (p.d (goalIs6_2 a i p)) (p.d q))
        rw [g2,g3]
        unfold swpA ySel yNeq
        by_cases e1:q=J
        . subst e1;simp
        . by_cases e2:q=J + 1
          . subst e2;simp
          . simp [e1,e2]
     have s3:goalIs6_3 p a i b n d:=λ e=>by
      have e:¬ p.d (J + 1) < p.d J:=by
       have h9:¬ p.d (yNadd 0 (yNat (goalIs6_1 a i p))) < p.d (goalIs6_2 a i p):=of_decide_eq_false e
       rwa [g2,g3] at h9
      refine ⟨rfl,nxtO p ?_⟩
      rw [<- hq2,hJ]
      exact if_neg (λ hh=>e hh.2)
     have s00:yLt (ixD p (yNadd 0 (yNat (goalIs6_1 a i p)))) (ixD p (goalIs6_2 a i p))=true->goalIs6_0 a i p n d/\goalIs6_4 a i p n:=λ e=>by
      have h9:p.d (yNadd 0 (yNat (goalIs6_1 a i p))) < p.d (goalIs6_2 a i p):=of_decide_eq_true e
      rw [g2,g3] at h9
      exact ⟨s0 h9,f4⟩
     have nn:∀ x:Int,yNot (yEq x x)=true->False:=λ x e=>by simp [yNot,yEq] at e
     exact mstI i1 (mstI l1 ⟨λ _=>mstI l2 ⟨λ e=>(nn _ e).elim,λ _=>⟨s00,s3⟩⟩,f4⟩)
   . have hq1:a + p.t<=a + i + 1:=hq.1
     have hq2:insD a (a + i + 1 - p.t) p.d=insS a d (i + 1):=hq.2.trans eS
     have h1:¬ (a:Int) < ((a + i + 1:Nat):Int) - ((p.t:Nat):Int):=of_decide_eq_false h1
     rw [<- hq2]
     cases hJ:a + i + 1 - p.t with
     | zero=>rfl
     | succ J=>exact if_neg (λ hh=>by omega)
 . have hi:¬ a + i + 1 < b:=by have h0:¬ ((a + i + 1:Nat):Int) < (b:Int):=of_decide_eq_false h;omega
   have hp:i<=b - a - 1:=hp
   obtain rfl:i=b - a - 1:=by omega
   exact ⟨rfl,λ q _=>⟨rfl,trivial⟩,rfl⟩
theorem goalIs6_tt:(goalIs6)=True:=goalIs6_eq.trans (eq_true goalIs6_vc)
theorem goalIs6_ok:goalIs6:=@ft' goalIs6 goalIs6_tt
theorem swpA_mem {d:Nat->Int}{N j:Nat}(hj:j + 1 < N){q:Nat}(hq:q < N):∃ r,r < N/\swpA d (j + 1) r=d q:=by
 unfold swpA
 by_cases e1:q=j + 1
 . subst e1
   exact ⟨j,by omega,by rw [if_neg (by omega),if_pos (by omega)]⟩
 . by_cases e2:q=j
   . subst e2
     exact ⟨q + 1,by omega,by rw [if_pos rfl];rfl⟩
   . exact ⟨q,hq,by rw [if_neg e1,if_neg (by omega)]⟩
theorem insD_mem {a N:Nat}:∀ {j:Nat} {d:Nat->Int},j < N->∀ {q:Nat},q < N->∃ r,r < N/\insD a j d r=d q
 | 0,d,_,q,hq=>⟨q,hq,rfl⟩
 | j + 1,d,hj,q,hq=>by
   unfold insD
   split
   . obtain ⟨r,h1,h2⟩:=swpA_mem (d:=d) hj hq
     obtain ⟨r',h3,h4⟩:=insD_mem (a:=a) (j:=j) (d:=swpA d (j + 1)) (by omega) h1
     exact ⟨r',h3,h4.trans h2⟩
   . exact ⟨q,hq,rfl⟩
theorem insS_mem {a N:Nat}{d:Nat->Int}:∀ {k:Nat},a + k < N->∀ {q:Nat},q < N->∃ r,r < N/\insS a d k r=d q
 | 0,_,q,hq=>⟨q,hq,rfl⟩
 | k + 1,hk,q,hq=>by
   obtain ⟨r,h1,h2⟩:=insS_mem (a:=a) (N:=N) (d:=d) (k:=k) (by omega) hq
   obtain ⟨r',h3,h4⟩:=insD_mem (a:=a) (j:=a + k + 1) (d:=insS a d k) hk h1
   exact ⟨r',h3,h4.trans h2⟩
def fIs6 (ds:List Dx):Option (Bool × Dx × List (List Dx)):=
 match ds with
 | [.rows nl n [.int .u64 d],.v (.y .i64 x),.v (.y .i64 y)]=>some (yAnd (yNle n 1000000) (yAnd (yAnd (yLe 0 x) (yLe x y)) (yLe y (yInt n))),.l [],[[.rows nl n [.int .u64 (insS (yNat x) d (yNsub (yNsub (yNat y) (yNat x)) 1))]]])
 | _=>none
theorem smIs6 (hm:Try.prog.follows .mixedOrders=true):SmCall Try.prog 83 (λ args h=>(ctX [.mut 34 [.int .u64],.sc,.sc] (.tup []) fIs6 args h).sel):=
 ctX_ok hm noSm_ok (λ ds r post h=>by
  unfold fIs6 at h
  split at h
  . rename_i nl n d x y
    simp only [sI,Prod.mk.injEq] at h
    obtain ⟨h1,rfl,rfl⟩:=h
    obtain ⟨kn,h3⟩:=yAnd_t.mp h1
    clear h1
    obtain ⟨h3,h4⟩:=yAnd_t.mp h3
    obtain ⟨h3,h5⟩:=yAnd_t.mp h3
    have h3:0<=x:=of_decide_eq_true h3
    have h5:x<=y:=of_decide_eq_true h5
    have h4:y<=(n:Int):=of_decide_eq_true h4
    obtain ⟨a,rfl⟩:=Int.eq_ofNat_of_zero_le h3
    obtain ⟨b,rfl⟩:=Int.eq_ofNat_of_zero_le (show 0<=y by omega)
    have h2:=@goalIs6_ok
    unfold goalIs6 at h2
    exact ⟨annIs n a b d,1000,@h2 nl n d a b kn (decide_eq_true (by omega)) (decide_eq_true (by omega))⟩
  . cases h)
def halfN (x:Nat):Nat:=x / 2
def swp2 (d:Nat->Int)(i j q:Nat):Int:=if q=j then d i else if q=i then d j else d q
def revS (a b:Nat)(d:Nat->Int):Nat->Nat->Int
 | 0=>d
 | k + 1=>swp2 (revS a b d k) (a + k) (b - 1 - k)
def prRv (a b k:Nat):Prop:=k<=(b - a) / 2
def mRv (a b k:Nat):Nat:=(b - a) / 2 - k
def annRv (n a b:Nat)(d:Nat->Int)(x:Nat):Option (St->LoopA):=
 match x with
 | 0=>some λ _=>{ ι:=Nat,tms:=[6,7],tmU:=λ k=>[.y .i64 (yInt (yNadd a k)),.y .i64 (ySub (ySub (yInt b) 1) (yInt k))],ids:=[0],hpU:=λ k=>[.arr false 34 1 n (colF [.int .u64 (revS a b d k)])],del:=[],ex:=0,pre:=prRv a b,ms:=mRv a b }
 | _=>none
def goalRv:Prop:=∀ (nl:Bool) (n:Nat) (d:Nat->Int) (a b:Nat),yNle n 1000000=true->yNle b n=true->yNle a b=true →
 wxH Try.prog noSm (annRv n a b d) 87 [.mut 34 [.int .u64],.sc,.sc] [.rows nl n [.int .u64 d],.v (.y .i64 (yInt a)),.v (.y .i64 (yInt b))] (.tup []) (.l []) [[.rows nl n [.int .u64 (revS a b d (halfN (yNsub b a)))]]]
def goalRvV:Prop:=(∀ (nl:Bool) (n:Nat) (d:Nat->Int) (a b:Nat),yNle n (nat_lit 1000000)=true->yNle b n=true->yNle a b=true->true=true/\(∃ (i0:Nat),prRv a b i0/\true=true/\yInt (yNadd a i0)=yInt a/\ySub (ySub (yInt b) 1) (yInt i0)=yWrap .i64 (ySub (yInt b) 1)/\n=n/\(∀ (i:Nat),Nat.succ i<=n->revS a b d i0 i=d i/\True)/\true=true)/\∀ (g:Nat->AV) (i:Nat),prRv a b i->(yLt (yInt (yNadd a i)) (ySub (ySub (yInt b) 1) (yInt i))=true->mst (yIn (ySub (ySub (yInt b) 1) (yInt i)) n) (mst (yNlt (yNadd 0 (yNat (ySub (ySub (yInt b) 1) (yInt i)))) n) (mst (yIn (yInt (yNadd a i)) n) (mst (yNlt (yNadd 0 (yNat (yInt (yNadd a i)))) n) (mst (yIn (yInt (yNadd a i)) n) (mst (yNlt (yNadd 0 (yNat (yInt (yNadd a i)))) n) (mst (yIn (ySub (ySub (yInt b) 1) (yInt i)) n) (mst (yNlt (yNadd 0 (yNat (ySub (ySub (yInt b) 1) (yInt i)))) n) (true=true/\∃ (i':Nat),prRv a b i'/\Nat.succ (mRv a b i')<=mRv a b i/\true=true/\yInt (yNadd a i')=yWrap .i64 (yAdd (yInt (yNadd a i)) 1)/\ySub (ySub (yInt b) 1) (yInt i')=yWrap .i64 (ySub (ySub (ySub (yInt b) 1) (yInt i)) 1)/\n=n/\(∀ (i_1:Nat),Nat.succ i_1<=n->revS a b d i' i_1=ySel (yNeq i_1 (yNadd 0 (yNat (ySub (ySub (yInt b) 1) (yInt i))))) (revS a b d i (yNadd 0 (yNat (yInt (yNadd a i))))) (ySel (yNeq i_1 (yNadd 0 (yNat (yInt (yNadd a i))))) (revS a b d i (yNadd 0 (yNat (ySub (ySub (yInt b) 1) (yInt i))))) (revS a b d i i_1))/\True)/\true=true)))))))))/\(yLt (yInt (yNadd a i)) (ySub (ySub (yInt b) 1) (yInt i))=false->n=n/\(∀ (i_1:Nat),Nat.succ i_1<=n->revS a b d (halfN (yNsub b a)) i_1=revS a b d i i_1/\True)/\true=true))
theorem goalRv_eq:goalRv=goalRvV:=by kernel_rfl
set_option maxHeartbeats 8000000 in
theorem goalRv_vc:goalRvV:=by
 unfold goalRvV
 intro nl n d a b hn hb hab
 have hn:n<=1000000:=of_decide_eq_true hn
 have hb:b<=n:=of_decide_eq_true hb
 have hab:a<=b:=of_decide_eq_true hab
 refine ⟨rfl,⟨0,Nat.zero_le _,rfl,rfl,?_,rfl,λ q _=>⟨rfl,trivial⟩,rfl⟩,λ g i hp=>⟨λ h=>?_,λ h=>?_⟩⟩
 . show ((b:Nat):Int) - 1 - ((0:Nat):Int)=yWrap .i64 ((b:Int) - 1)
   rw [wrap64 (by omega) (by omega)];omega
 . have h0:((a + i:Nat):Int) < (b:Int) - 1 - (i:Int):=of_decide_eq_true h
   have e1:ySub (ySub (yInt b) 1) (yInt i)=((b - 1 - i:Nat):Int):=by
    show (b:Int) - 1 - (i:Int)=_
    omega
   have e2:yNadd 0 (yNat (ySub (ySub (yInt b) 1) (yInt i)))=b - 1 - i:=by rw [e1];exact Nat.zero_add _
   have e3:yNadd 0 (yNat (yInt (yNadd a i)))=a + i:=Nat.zero_add _
   have i1:yIn (ySub (ySub (yInt b) 1) (yInt i)) n=true:=by rw [e1];exact decide_eq_true ⟨by omega,by omega⟩
   have l1:yNlt (yNadd 0 (yNat (ySub (ySub (yInt b) 1) (yInt i)))) n=true:=by rw [e2];exact decide_eq_true (by omega)
   have i2:yIn (yInt (yNadd a i)) n=true:=yInN (show a + i < n by omega)
   have l2:yNlt (yNadd 0 (yNat (yInt (yNadd a i)))) n=true:=by rw [e3];exact decide_eq_true (by omega)
   refine mstI i1 (mstI l1 (mstI i2 (mstI l2 (mstI i2 (mstI l2 (mstI i1 (mstI l1 ⟨rfl,i + 1,?_,?_,rfl,?_,?_,rfl,λ q _=>⟨?_,trivial⟩,rfl⟩)))))))
   . unfold prRv;omega
   . unfold mRv;omega
   . show ((a + (i + 1):Nat):Int)=yWrap .i64 (((a + i:Nat):Int) + 1)
     rw [wrap64 (by omega) (by omega)];omega
   . rw [e1]
     show (b:Int) - 1 - ((i + 1:Nat):Int)=yWrap .i64 (((b - 1 - i:Nat):Int) - 1)
     rw [wrap64 (by omega) (by omega)];omega
   . rw [e2,e3]
     show swp2 (revS a b d i) (a + i) (b - 1 - i) q=_
     unfold swp2 ySel yNeq
     by_cases c1:q=b - 1 - i
     . simp [c1]
     . by_cases c2:q=a + i
       . simp [c1,c2]
       . simp [c1,c2]
 . have h0:¬ ((a + i:Nat):Int) < (b:Int) - 1 - (i:Int):=of_decide_eq_false h
   have hp:i<=(b - a) / 2:=hp
   have e:halfN (yNsub b a)=i:=by
    show (b - a) / 2=i
    omega
   rw [e]
   exact ⟨rfl,λ q _=>⟨rfl,trivial⟩,rfl⟩
theorem goalRv_tt:(goalRv)=True:=goalRv_eq.trans (eq_true goalRv_vc)
theorem goalRv_ok:goalRv:=@ft' goalRv goalRv_tt
abbrev rRl:Sx:=.tup [.pl kCl,.sc]
def goalRl:Prop:=∀ (E:EvS) (nil:Bool) (n:Nat),preE E n=true->wxH Try.prog (smL lRk) (annRk E n) 20 [sEv] [.rows nil n (colsE E)] rRl (dGn E n) []
theorem gBadL {E:EvS}{i n:Nat}(hin:i < n)(h:(gs1 E i (gS E i)).ok=false)(hok:gOk E i=true):resN E n=0/\resN E n=0/\gOk E n=false:=by
 obtain ⟨h1,h2,h3,_⟩:=gBad hin h hok
 exact ⟨h1,h2,h3⟩
def goalRl_1 (E:EvS)(i:Nat):=opI (gN E i) (λ (i_1:Nat)=>eTh E (gEv E i i_1)) (λ (i_1:Nat)=>cOv (gEn E i i_1)) (eTh E (yNat (yInt i)))
def goalRl_2 (i_1:Nat)(E:EvS)(i:Nat):=yNeq i_1 (yNadd 0 (yNat (opI (gN E i) (λ (i_2:Nat)=>eTh E (gEv E i i_2)) (λ (i_2:Nat)=>cOv (gEn E i i_2)) (eTh E (yNat (yInt i))))))
def goalRl_3 (E:EvS)(i:Nat):=yAnd (yEq (eOk E (gEv E i (yNadd 0 (yNat (goalRl_1 E i))))) (eOk E (yNat (yInt i)))) (yAnd (yEq (eKey E (gEv E i (yNadd 0 (yNat (goalRl_1 E i))))) (eKey E (yNat (yInt i)))) (yAnd (yEq (eVal E (gEv E i (yNadd 0 (yNat (goalRl_1 E i))))) (eVal E (yNat (yInt i)))) (yAnd (yEq (eHi E (gEv E i (yNadd 0 (yNat (goalRl_1 E i))))) (eHi E (yNat (yInt i)))) (yAnd (yEq (eMost E (gEv E i (yNadd 0 (yNat (goalRl_1 E i))))) (eMost E (yNat (yInt i)))) true))))
def goalRl_4 (E:EvS)(i:Nat):=sameRes (eRk E (yNat (yInt i))) (eRv E (yNat (yInt i))) (ePn E (yNat (yInt i))) (λ (i_1:Nat)=>ePk E (yNat (yInt i)) i_1) (λ (i_1:Nat)=>ePv E (yNat (yInt i)) i_1) 0 0 0 (λ (i:Nat)=>(0:Int)) λ (i:Nat)=>(0:Int)
def goalRl_0 (E:EvS)(i:Nat)(n:Nat):=yLt (eTh E (yNat (yInt i))) (0:Int)=false->(yLt (eKd E (yNat (yInt i))) (1:Int)=true->yNeq (resN E n) (nat_lit 0)=true/\resN E n=nat_lit 0/\gOk E n=false/\true=true)/\(yLt (eKd E (yNat (yInt i))) (1:Int)=false->(yLt 2 (eKd E (yNat (yInt i)))=true->yNeq (resN E n) (nat_lit 0)=true/\resN E n=nat_lit 0/\gOk E n=false/\true=true)/\(yLt 2 (eKd E (yNat (yInt i)))=false->mst (yNeq 0 0) (mst (yNeq (gN E i) (gN E i)) (mst (yCol (CK.int .i64) (gN E i) λ (i_1:Nat)=>AV.y .i64 (eId E (gEv E i i_1))) (mst (yCol (CK.int .i64) (gN E i) λ (i_1:Nat)=>AV.y .i64 (eTh E (gEv E i i_1))) (mst (yCol (CK.int .i64) (gN E i) λ (i_1:Nat)=>AV.y .i64 (eOk E (gEv E i i_1))) (mst (yCol (CK.int .u64) (gN E i) λ (i_1:Nat)=>AV.y .u64 (eKey E (gEv E i i_1))) (mst (yCol (CK.int .u64) (gN E i) λ (i_1:Nat)=>AV.y .u64 (eVal E (gEv E i i_1))) (mst (yCol (CK.int .u64) (gN E i) λ (i_1:Nat)=>AV.y .u64 (eHi E (gEv E i i_1))) (mst (yCol (CK.int .i64) (gN E i) λ (i_1:Nat)=>AV.y .i64 (eMost E (gEv E i i_1))) (mst (yCol (CK.int .i64) (gN E i) λ (i_1:Nat)=>AV.y .i64 (eAt E (gEv E i i_1))) (mst (yCol (CK.int .i64) (gN E i) λ (i_1:Nat)=>AV.y .i64 (cTo E (gEn E i i_1))) (mst (yCol CK.bool (gN E i) λ (i_1:Nat)=>AV.yb (cOv (gEn E i i_1))) (mst (yCol (CK.int .i64) (gN E i) λ (i_1:Nat)=>AV.y .i64 (cRk E (gEn E i i_1))) (mst (yCol (CK.int .u64) (gN E i) λ (i_1:Nat)=>AV.y .u64 (cRv E (gEn E i i_1))) (mst (yCol (CK.ls [K1.int .u64,K1.int .u64]) (gN E i) λ (i_1:Nat)=>AV.lst false (cNil E (gEn E i i_1)) 2 (cPn E (gEn E i i_1)) (cl2F [Cl2.int .u64 λ (j:Nat)=>cPk E (gEn E i j),Cl2.int .u64 λ (j:Nat)=>cPv E (gEn E i j)] i_1)) (mst (yNle (gN E i) 1000000) ((yEq (eKd E (yNat (yInt i))) (1:Int)=true->(yLe 0 (goalRl_1 E i)=true->yNeq (resN E n) (nat_lit 0)=true/\resN E n=nat_lit 0/\gOk E n=false/\true=true)/\(yLe 0 (goalRl_1 E i)=false->(yNot (yEq (eId E (yNat (yInt i))) (yWrap .i64 (yAdd (yInt (gN E i)) 1)))=true->yNeq (resN E n) (nat_lit 0)=true/\resN E n=nat_lit 0/\gOk E n=false/\true=true)/\(yNot (yEq (eId E (yNat (yInt i))) (yWrap .i64 (yAdd (yInt (gN E i)) 1)))=false->mst (true) ((yNot (rightE (eOk E (yNat (yInt i))) (eMost E (yNat (yInt i))))=true->yNeq (resN E n) (nat_lit 0)=true/\resN E n=nat_lit 0/\gOk E n=false/\true=true)/\(yNot (rightE (eOk E (yNat (yInt i))) (eMost E (yNat (yInt i))))=false->mst (yCol (CK.int .u64) (ePn E (yNat (yInt i))) λ (i_1:Nat)=>AV.y .u64 (ePk E (yNat (yInt i)) i_1)) (mst (yCol (CK.int .u64) (ePn E (yNat (yInt i))) λ (i_1:Nat)=>AV.y .u64 (ePv E (yNat (yInt i)) i_1)) (mst (yNle (ePn E (yNat (yInt i))) 1000000) ((yNot (goalRl_4 E i)=true->yNeq (resN E n) (nat_lit 0)=true/\resN E n=nat_lit 0/\gOk E n=false/\true=true)/\(yNot (goalRl_4 E i)=false->mst (yNeq (gN E i) (gN E i)) (mst (yGrow (yNadd (gN E i) 1) 120) (true=true/\∃ (i':Nat),prRk E n i'/\Nat.succ (mGn n i')<=mGn n i/\true=true/\yNeq (gN E i') (nat_lit 0)=yAnd (yNeq (gN E i) 0) (yNeq 1 0)/\nat_lit 0=nat_lit 0/\gN E i'=yNadd (gN E i) 1/\yInt i'=yWrap .i64 (yAdd (yInt i) 1)/\gN E i'=yNadd (gN E i) 1/\(∀ (i_1:Nat),Nat.succ i_1<=gN E i'->eId E (gEv E i' i_1)=ySel (yNlt i_1 (gN E i)) (eId E (gEv E i i_1)) (eId E (yNat (yInt i)))/\eTh E (gEv E i' i_1)=ySel (yNlt i_1 (gN E i)) (eTh E (gEv E i i_1)) (eTh E (yNat (yInt i)))/\eOk E (gEv E i' i_1)=ySel (yNlt i_1 (gN E i)) (eOk E (gEv E i i_1)) (eOk E (yNat (yInt i)))/\eKey E (gEv E i' i_1)=ySel (yNlt i_1 (gN E i)) (eKey E (gEv E i i_1)) (eKey E (yNat (yInt i)))/\eVal E (gEv E i' i_1)=ySel (yNlt i_1 (gN E i)) (eVal E (gEv E i i_1)) (eVal E (yNat (yInt i)))/\eHi E (gEv E i' i_1)=ySel (yNlt i_1 (gN E i)) (eHi E (gEv E i i_1)) (eHi E (yNat (yInt i)))/\eMost E (gEv E i' i_1)=ySel (yNlt i_1 (gN E i)) (eMost E (gEv E i i_1)) (eMost E (yNat (yInt i)))/\eAt E (gEv E i' i_1)=ySel (yNlt i_1 (gN E i)) (eAt E (gEv E i i_1)) (eAt E (yNat (yInt i)))/\cTo E (gEn E i' i_1)=ySel (yNlt i_1 (gN E i)) (cTo E (gEn E i i_1)) (-1:Int)/\cOv (gEn E i' i_1)=ySelB (yNlt i_1 (gN E i)) (cOv (gEn E i i_1)) false/\cRk E (gEn E i' i_1)=ySel (yNlt i_1 (gN E i)) (cRk E (gEn E i i_1)) 0/\cRv E (gEn E i' i_1)=ySel (yNlt i_1 (gN E i)) (cRv E (gEn E i i_1)) 0/\(cNil E (gEn E i' i_1)=ySelB (yNlt i_1 (gN E i)) (cNil E (gEn E i i_1)) true/\cPn E (gEn E i' i_1)=ySelN (yNlt i_1 (gN E i)) (cPn E (gEn E i i_1)) 0/\∀ (i_2:Nat),Nat.succ i_2<=cPn E (gEn E i' i_1)->cPk E (gEn E i' i_1) i_2=cPk E (gEn E i i_1) i_2/\cPv E (gEn E i' i_1) i_2=cPv E (gEn E i i_1) i_2/\True)/\True)/\true=true)))))))))))/\(yEq (eKd E (yNat (yInt i))) (1:Int)=false->(yLt (goalRl_1 E i) (0:Int)=true->yNeq (resN E n) (nat_lit 0)=true/\resN E n=nat_lit 0/\gOk E n=false/\true=true)/\(yLt (goalRl_1 E i) (0:Int)=false->mst (yIn (goalRl_1 E i) (gN E i)) (mst (yNlt (yNadd 0 (yNat (goalRl_1 E i))) (gN E i)) ((yNot (yEq (eId E (gEv E i (yNadd 0 (yNat (goalRl_1 E i))))) (eId E (yNat (yInt i))))=true->yNeq (resN E n) (nat_lit 0)=true/\resN E n=nat_lit 0/\gOk E n=false/\true=true)/\(yNot (yEq (eId E (gEv E i (yNadd 0 (yNat (goalRl_1 E i))))) (eId E (yNat (yInt i))))=false->mst (yIn (goalRl_1 E i) (gN E i)) (mst (yNlt (yNadd 0 (yNat (goalRl_1 E i))) (gN E i)) ((yNot (goalRl_3 E i)=true->yNeq (resN E n) (nat_lit 0)=true/\resN E n=nat_lit 0/\gOk E n=false/\true=true)/\(yNot (goalRl_3 E i)=false->mst (yIn (goalRl_1 E i) (gN E i)) (mst (yNlt (yNadd 0 (yNat (goalRl_1 E i))) (gN E i)) (mst (yIn (goalRl_1 E i) (gN E i)) (mst (yNlt (yNadd 0 (yNat (goalRl_1 E i))) (gN E i)) (mst (yIn (goalRl_1 E i) (gN E i)) (mst (yNlt (yNadd 0 (yNat (goalRl_1 E i))) (gN E i)) (true=true/\∃ (i':Nat),prRk E n i'/\Nat.succ (mGn n i')<=mGn n i/\true=true/\yNeq (gN E i') (nat_lit 0)=yNeq (gN E i) 0/\nat_lit 0=nat_lit 0/\gN E i'=gN E i/\yInt i'=yWrap .i64 (yAdd (yInt i) 1)/\gN E i'=gN E i/\(∀ (i_1:Nat),Nat.succ i_1<=gN E i'->eId E (gEv E i' i_1)=eId E (gEv E i i_1)/\eTh E (gEv E i' i_1)=eTh E (gEv E i i_1)/\eOk E (gEv E i' i_1)=eOk E (gEv E i i_1)/\eKey E (gEv E i' i_1)=eKey E (gEv E i i_1)/\eVal E (gEv E i' i_1)=eVal E (gEv E i i_1)/\eHi E (gEv E i' i_1)=eHi E (gEv E i i_1)/\eMost E (gEv E i' i_1)=eMost E (gEv E i i_1)/\eAt E (gEv E i' i_1)=eAt E (gEv E i i_1)/\cTo E (gEn E i' i_1)=ySel (goalRl_2 i_1 E i) (eAt E (yNat (yInt i))) (cTo E (gEn E i i_1))/\cOv (gEn E i' i_1)=ySelB (goalRl_2 i_1 E i) true (cOv (gEn E i i_1))/\cRk E (gEn E i' i_1)=ySel (goalRl_2 i_1 E i) (eRk E (yNat (yInt i))) (cRk E (gEn E i i_1))/\cRv E (gEn E i' i_1)=ySel (goalRl_2 i_1 E i) (eRv E (yNat (yInt i))) (cRv E (gEn E i i_1))/\(cNil E (gEn E i' i_1)=ySelB (goalRl_2 i_1 E i) (eNil E (yNat (yInt i))) (cNil E (gEn E i i_1))/\cPn E (gEn E i' i_1)=ySelN (goalRl_2 i_1 E i) (ePn E (yNat (yInt i))) (cPn E (gEn E i i_1))/\∀ (i_2:Nat),Nat.succ i_2<=cPn E (gEn E i' i_1)->cPk E (gEn E i' i_1) i_2=ySel (yNeq i_1 (yNadd 0 (yNat (opI (gN E i) (λ (i_3:Nat)=>eTh E (gEv E i i_3)) (λ (i_3:Nat)=>cOv (gEn E i i_3)) (eTh E (yNat (yInt i))))))) (ePk E (yNat (yInt i)) i_2) (cPk E (gEn E i i_1) i_2)/\cPv E (gEn E i' i_1) i_2=ySel (yNeq i_1 (yNadd 0 (yNat (opI (gN E i) (λ (i_3:Nat)=>eTh E (gEv E i i_3)) (λ (i_3:Nat)=>cOv (gEn E i i_3)) (eTh E (yNat (yInt i))))))) (ePv E (yNat (yInt i)) i_2) (cPv E (gEn E i i_1) i_2)/\True)/\True)/\true=true))))))))))))))))))))))))))))))))
def goalRlV:Prop:=(∀ (E:EvS) (nil:Bool) (n:Nat),preE E n=true->true=true/\(∃ (i0:Nat),prRk E n i0/\true=true/\yNeq (gN E i0) (nat_lit 0)=true/\gN E i0=nat_lit 0/\yInt i0=(0:Int)/\gN E i0=nat_lit 0/\true=true/\true=true)/\∀ (g:Nat->AV) (i:Nat),prRk E n i->(yLt (yInt i) (yInt n)=true->mst (yIn (yInt i) n) ((yLt (eAt E (yNat (yInt i))) (0:Int)=true->yNeq (resN E n) (nat_lit 0)=true/\resN E n=nat_lit 0/\gOk E n=false/\true=true)/\(yLt (eAt E (yNat (yInt i))) (0:Int)=false->(yLt 0 (yInt i)=true->mst (yIn (yWrap .i64 (ySub (yInt i) 1)) n) ((yLt (eAt E (yNat (yInt i))) (eAt E (yNat (yWrap .i64 (ySub (yInt i) 1))))=true->yNeq (resN E n) (nat_lit 0)=true/\resN E n=nat_lit 0/\gOk E n=false/\true=true)/\(yLt (eAt E (yNat (yInt i))) (eAt E (yNat (yWrap .i64 (ySub (yInt i) 1))))=false->(yLt (eTh E (yNat (yInt i))) (0:Int)=true->yNeq (resN E n) (nat_lit 0)=true/\resN E n=nat_lit 0/\gOk E n=false/\true=true)/\(goalRl_0 E i n))))/\(yLt 0 (yInt i)=false->(yLt (eTh E (yNat (yInt i))) (0:Int)=true->yNeq (resN E n) (nat_lit 0)=true/\resN E n=nat_lit 0/\gOk E n=false/\true=true)/\(goalRl_0 E i n)))))/\(yLt (yInt i) (yInt n)=false->yNeq (resN E n) (nat_lit 0)=yNeq (gN E i) 0/\resN E n=gN E i/\yNadd 0 (gN E i)<=gN E i/\(∀ (i_1:Nat),Nat.succ i_1<=resN E n->eId E (gEv E n i_1)=eId E (gEv E i (yNadd 0 i_1))/\eTh E (gEv E n i_1)=eTh E (gEv E i (yNadd 0 i_1))/\eOk E (gEv E n i_1)=eOk E (gEv E i (yNadd 0 i_1))/\eKey E (gEv E n i_1)=eKey E (gEv E i (yNadd 0 i_1))/\eVal E (gEv E n i_1)=eVal E (gEv E i (yNadd 0 i_1))/\eHi E (gEv E n i_1)=eHi E (gEv E i (yNadd 0 i_1))/\eMost E (gEv E n i_1)=eMost E (gEv E i (yNadd 0 i_1))/\eAt E (gEv E n i_1)=eAt E (gEv E i (yNadd 0 i_1))/\cTo E (gEn E n i_1)=cTo E (gEn E i (yNadd 0 i_1))/\cOv (gEn E n i_1)=cOv (gEn E i (yNadd 0 i_1))/\cRk E (gEn E n i_1)=cRk E (gEn E i (yNadd 0 i_1))/\cRv E (gEn E n i_1)=cRv E (gEn E i (yNadd 0 i_1))/\(cNil E (gEn E n i_1)=cNil E (gEn E i (yNadd 0 i_1))/\cPn E (gEn E n i_1)=cPn E (gEn E i (yNadd 0 i_1))/\∀ (i_2:Nat),Nat.succ i_2<=cPn E (gEn E n i_1)->cPk E (gEn E n i_1) i_2=cPk E (gEn E i (yNadd 0 i_1)) i_2/\cPv E (gEn E n i_1) i_2=cPv E (gEn E i (yNadd 0 i_1)) i_2/\True)/\True)/\gOk E n=true/\true=true))
theorem goalRl_eq:goalRl=goalRlV:=by kernel_rfl
theorem goalRl_ok:goalRl:=by
 refine @kernel_go _ _ goalRl_eq ?_
 unfold goalRlV goalRl_0 goalRl_4 goalRl_3 goalRl_2 goalRl_1
 intro E nil n hpre
 obtain ⟨hn,hp⟩:=of_decide_eq_true hpre
 have hcol:∀ (m:Nat) (a:Nat->Bool) (b:Nat->Nat) (k v:Nat->Nat->Int),yCol (.ls [.int .u64,.int .u64]) m (λ i=>AV.lst false (a i) 2 (b i) (cl2F [Cl2.int .u64 k,Cl2.int .u64 v] i))=true:=λ m a b k v=>yCol_ok.2 λ i _=>List.all_eq_true.2 λ p _=>rfl
 simp only [opI_eq,hcol,vS,forall_const,reduceCtorEq]
 refine ⟨⟨0,⟨Nat.zero_le _,rfl⟩,rfl,rfl,rfl,rfl⟩,λ _ i hi=>?_⟩
 obtain ⟨hle,hok⟩:=hi
 have hI:=gInv E i
 have hN:gN E i<=i:=hI.le
 have w0:yWrap .i64 ((gN E i:Int) + 1)=(gN E i:Int) + 1:=wrap64 (by omega) (by omega)
 have w1:yWrap .i64 ((i:Int) + 1)=((i + 1:Nat):Int):=by rw [wrap64 (by omega) (by omega)];omega
 rw [w0]
 simp only [w1]
 have hAt:0<=(gS E i).at_:=gAt_nn E i hok
 have hPre:∀ _:0 < (i:Int),yNat (yWrap .i64 ((i:Int) - 1))=i - 1/\(gS E i).at_=eAt E (i - 1):=λ h0=>by
  refine ⟨by rw [wrap64 (by omega) (by omega)];unfold yNat;omega,?_⟩
  obtain ⟨j,rfl⟩:∃ j,i=j + 1:=⟨i - 1,by omega⟩
  exact (gs1_at hok).2
 refine ⟨λ hlt=>⟨λ _=>⟨λ h0=>?b1,λ h0=>⟨λ hi0=>⟨λ hin2=>⟨λ h1=>?b2,λ h1=>?_⟩,λ h=>?b3⟩,λ hi0=>?_⟩⟩,λ h=>h ⟨by omega,hlt⟩⟩,λ hge=>?b4⟩
 case b1=>exact gBadL (by omega) (gs1_f1 (.inl (by omega))) hok
 case b2=>
  obtain ⟨e1,e2⟩:=hPre hi0
  rw [e1] at h1
  exact gBadL (by omega) (gs1_f1 (.inl (by omega))) hok
 case b3=>
  rw [wrap64 (by omega) (by omega)] at h
  exact h (by omega)
 case b4=>
  obtain rfl:i=n:=by omega
  have hr:resN E i=gN E i:=by unfold resN;rw [hok];rfl
  simp only [hr,hok,Nat.zero_add,true_and,and_true,implies_true,Nat.le_refl]
 all_goals
  have h1a:(gS E i).at_<=eAt E i:=by
   first
   | (obtain ⟨e1,e2⟩:=hPre hi0
      rw [e1] at h1
      omega)
   | (have:i=0:=by omega
      subst this
      exact h0)
  clear hPre hi0 h0
  have hin:i < n:=by omega
  have hm:(mGn n (i + 1)).succ<=mGn n i:=by unfold mGn;omega
  refine ⟨λ h2=>gBadL hin (gs1_f1 (.inr h2)) hok,λ h2=>?_⟩
  have h12:¬ (eAt E i < (gS E i).at_ ∨ eTh E i < 0):=by omega
  refine ⟨λ h3=>gBadL hin (gs1_f4 h12 (by omega) (by omega)) hok,λ h3=>⟨λ h4=>gBadL hin (gs1_f4 h12 (by omega) (by omega)) hok,λ h4=>⟨⟨⟨λ _=>⟨λ hk=>?_,λ hk=>?_⟩,λ h=>by omega⟩,λ h=>h rfl⟩,λ h=>h rfl⟩⟩⟩
  . refine ⟨λ h5=>?_,λ h5=>⟨λ h6=>gBadL hin (gs1_f2 h12 hk (.inr (.inl h6))) hok,λ h6=>⟨λ h7=>gBadL hin (gs1_f2 h12 hk (.inr (.inr (.inl h7)))) hok,λ h7=>⟨λ _=>⟨λ h8=>gBadL hin (gs1_f2 h12 hk (.inr (.inr (.inr h8)))) hok,λ h8=>⟨⟨λ _=>?_,λ h=>by omega⟩,λ h=>h rfl⟩⟩,λ h=>by have:=hp i hin;omega⟩⟩⟩⟩
    . refine gBadL hin (gs1_f2 h12 hk (.inl ?_)) hok
      show gP E i (eTh E i)=true
      cases hP:gP E i (eTh E i) with
      | true=>rfl
      | false=>rw [hP] at h5;exact absurd (show (0:Int)<=-1 from h5) (by decide)
    . have hP:gP E i (eTh E i)=false:=by
       cases hP:gP E i (eTh E i) with
       | false=>rfl
       | true=>
         rw [hP] at h5
         have h5:(gS E i).v (eTh E i) < 0:=h5
         have:=(hI.v _ hP).1
         omega
      have hne:¬ ((gS E i).p (eTh E i)=true ∨ eId E i ≠ (gS E i).n + 1 ∨ rightE (eOk E i) (eMost E i)=false ∨ zeroR E i=false):=by
       rintro (h | h | h | h)
       . exact Bool.noConfusion (h.symm.trans hP)
       . exact h h6
       . exact Bool.noConfusion (h.symm.trans h7)
       . exact Bool.noConfusion (h.symm.trans h8)
      have hS:=(gS_step hok).trans (gs1_t2 h12 hk hne)
      have eN:gN E (i + 1)=gN E i + 1:=by unfold gN;rw [hS]
      have eEv:∀ q,gEv E (i + 1) q=if q=gN E i then i else gEv E i q:=λ q=>by unfold gEv gN;rw [hS]
      have eEn:∀ q,gEn E (i + 1) q=if q=gN E i then 0 else gEn E i q:=λ q=>by unfold gEn gN;rw [hS]
      refine ⟨i + 1,⟨hin,by unfold gOk;rw [hS]⟩,hm,?_,eN,rfl,eN,λ q hq=>?_⟩
      . rw [eN]
        have e1:yNeq (gN E i + 1) 0=false:=by simp only [yNeq_f];omega
        have e2:yNeq 1 0=false:=rfl
        rw [e1,e2]
        cases yNeq (gN E i) 0 <;> rfl
      . rw [eN] at hq
        rw [eEv,eEn]
        rcases Nat.lt_or_ge q (gN E i) with h | h
        . have hb:yNlt q (gN E i)=true:=decide_eq_true h
          rw [if_neg (by omega),if_neg (by omega),hb]
          exact ⟨rfl,rfl,rfl,rfl,rfl,rfl,rfl,rfl,rfl,rfl,rfl,rfl,rfl,rfl,λ _ _=>⟨rfl,rfl⟩⟩
        . obtain rfl:q=gN E i:=by omega
          have hb:yNlt (gN E i) (gN E i)=false:=decide_eq_false (by omega)
          rw [if_pos rfl,if_pos rfl,hb]
          exact ⟨rfl,rfl,rfl,rfl,rfl,rfl,rfl,rfl,rfl,rfl,rfl,rfl,rfl,rfl,λ p hp=>absurd hp (Nat.not_succ_le_zero p)⟩
  . have hk2:eKd E i=2:=by omega
    cases hP:gP E i (eTh E i) with
    | false=>
      exact ⟨λ _=>gBadL hin (gs1_f3 h12 hk hk2 (.inl hP)) hok,λ h=>absurd (show (0:Int)<=-1 from h) (by decide)⟩
    | true=>
      obtain ⟨j0,j1⟩:=hI.v _ hP
      have j0:0<=gV E i (eTh E i):=j0
      have j1:gV E i (eTh E i) < gN E i:=j1
      have j2:yNat (gV E i (eTh E i)) < gN E i:=by unfold yNat;omega
      simp only [cond_true,or_false]
      refine ⟨λ h=>by omega,λ _=>⟨λ _=>⟨λ _=>⟨λ h6=>gBadL hin (gs1_f3 h12 hk hk2 (.inr (.inl h6))) hok,λ h6=>⟨λ _=>⟨λ _=>⟨λ h7=>gBadL hin (gs1_f3 h12 hk hk2 (.inr (.inr ?_))) hok,λ h7=>⟨λ _=>⟨λ _=>⟨λ _=>⟨λ _=>⟨λ _=>⟨λ _=>?_,λ h=>?_⟩,λ h=>h ⟨j0,j1⟩⟩,λ h=>?_⟩,λ h=>h ⟨j0,j1⟩⟩,λ h=>?_⟩,λ h=>h ⟨j0,j1⟩⟩⟩,λ h=>?_⟩,λ h=>h ⟨j0,j1⟩⟩⟩,λ h=>?_⟩,λ h=>h ⟨j0,j1⟩⟩⟩
      . show sameOp E (gEv E i (yNat (gV E i (eTh E i)))) i=false
        simpa [sameOp,yAnd_f,yEq_f] using h7
      . have hop:sameOp E (gEv E i (yNat (gV E i (eTh E i)))) i=true:=by
         simp only [sameOp,yAnd_t,yEq_t];exact h7
        have hne:¬ ((gS E i).p (eTh E i)=false ∨ eId E ((gS E i).ev ((gS E i).v (eTh E i)).toNat) ≠ eId E i ∨ sameOp E ((gS E i).ev ((gS E i).v (eTh E i)).toNat) i=false):=by
         rintro (h | h | h)
         . exact Bool.noConfusion (h.symm.trans hP)
         . exact h h6
         . exact Bool.noConfusion (h.symm.trans hop)
        have hS:=(gS_step hok).trans (gs1_t3 h12 hk hk2 hne)
        have eN:gN E (i + 1)=gN E i:=by unfold gN;rw [hS]
        have eEv:∀ q,gEv E (i + 1) q=gEv E i q:=λ q=>by unfold gEv;rw [hS]
        have eEn:∀ q,gEn E (i + 1) q=if q=yNat (gV E i (eTh E i)) then i + 1 else gEn E i q:=λ q=>by unfold gEn gV yNat;rw [hS]
        refine ⟨i + 1,⟨hin,by unfold gOk;rw [hS];exact hok⟩,hm,by rw [eN],eN,rfl,eN,λ q hq=>?_⟩
        rw [eEv,eEn]
        by_cases h:q=yNat (gV E i (eTh E i))
        . have hb:yNeq q (yNat (gV E i (eTh E i)))=true:=decide_eq_true h
          rw [if_pos h,hb]
          exact ⟨rfl,rfl,rfl,rfl,rfl,rfl,rfl,rfl,rfl,rfl,rfl,rfl,rfl,rfl,λ _ _=>⟨rfl,rfl⟩⟩
        . have hb:yNeq q (yNat (gV E i (eTh E i)))=false:=decide_eq_false h
          rw [if_neg h,hb]
          exact ⟨rfl,rfl,rfl,rfl,rfl,rfl,rfl,rfl,rfl,rfl,rfl,rfl,rfl,rfl,λ _ _=>⟨rfl,rfl⟩⟩
      all_goals omega
theorem smRl (hm:Try.prog.follows .mixedOrders=true)(hs:SmOK Try.prog (smL lRk)):SmCall Try.prog 20 (λ args h=>(ctX [sEv] rRl fRk args h).sel):=
 ctX_ok hm hs (λ ds r post h=>by
  unfold fRk fGn at h
  split at h
  . rename_i nil n kd th id at_ ok key val hi most rk rv nl pn pk pv
    simp only [sI,Prod.mk.injEq] at h
    obtain ⟨h1,rfl,rfl⟩:=h
    refine ⟨annRk ⟨kd,th,id,at_,ok,key,val,hi,most,rk,rv,nl,pn,pk,pv⟩ n,1000,?_⟩
    have h2:=@goalRl_ok
    unfold goalRl at h2
    exact @h2 ⟨kd,th,id,at_,ok,key,val,hi,most,rk,rv,nl,pn,pk,pv⟩ nil n h1
  . cases h)
def hsB (o:Nat->Int)(m:Nat)(x:Int):Bool:=decide (∃ j,j < m/\o j=x)
def prHs (o:Nat->Int)(m:Nat)(x:Int)(i:Nat):Prop:=i<=m/\∀ j,j < i->o j ≠ x
def mHs (m i:Nat):Nat:=m - i
def annHs (o:Nat->Int)(m:Nat)(x:Int)(b:Nat):Option (St->LoopA):=
 match b with
 | 0=>some λ _=>{ ι:=Nat,tms:=[5],tmU:=λ i=>[.y .i64 (yInt i)],ids:=[],hpU:=λ _=>[],del:=[],ex:=0,pre:=prHs o m x,ms:=mHs m }
 | _=>none
abbrev sPi:Sx:=.pl [.int .i64]
def fHs (ds:List Dx):Option (Bool × Dx × List (List Dx)):=
 match ds with
 | [.rows _ m [.int .i64 o],.v (.y .i64 x)]=>some (yNle m 1000000,.v (.yb (hsB o m x)),[])
 | _=>none
def goalHs:Prop:=∀ (nl:Bool) (m:Nat) (o:Nat->Int) (x:Int),yNle m 1000000=true →
 wxH Try.prog noSm (annHs o m x) 22 [sPi,.sc] [.rows nl m [.int .i64 o],.v (.y .i64 x)] .sc (.v (.yb (hsB o m x))) []
def goalHsV:Prop:=(∀ (nl:Bool) (m:Nat) (o:Nat->Int) (x:Int),yNle m (nat_lit 1000000)=true->true=true/\(∃ (i0:Nat),prHs o m x i0/\true=true/\yInt i0=(0:Int)/\true=true)/\∀ (g:Nat->AV) (i:Nat),prHs o m x i->(yLt (yInt i) (yInt m)=true->mst (yIn (yInt i) m) ((yEq (o (yNat (yInt i))) x=true->hsB o m x=true/\true=true)/\(yEq (o (yNat (yInt i))) x=false->true=true/\∃ (i':Nat),prHs o m x i'/\Nat.succ (mHs m i')<=mHs m i/\true=true/\yInt i'=yWrap .i64 (yAdd (yInt i) 1)/\true=true)))/\(yLt (yInt i) (yInt m)=false->hsB o m x=false/\true=true))
theorem goalHs_eq:goalHs=goalHsV:=by kernel_rfl
set_option maxHeartbeats 8000000 in
theorem goalHs_vc:goalHsV:=by
 unfold goalHsV
 intro nl m o x hm
 have hm:m<=1000000:=of_decide_eq_true hm
 refine ⟨rfl,⟨0,⟨Nat.zero_le _,λ j hj=>absurd hj (Nat.not_lt_zero _)⟩,rfl,rfl,rfl⟩,λ g i hi=>⟨λ h=>?_,λ h=>?_⟩⟩
 . have hlt:=yLtN h
   refine mstI (yInN hlt) ⟨λ e=>?_,λ e=>?_⟩
   . exact ⟨decide_eq_true ⟨i,hlt,of_decide_eq_true e⟩,rfl⟩
   . refine ⟨rfl,i + 1,⟨hlt,λ j hj=>?_⟩,by unfold mHs;omega,rfl,by show ((i + 1:Nat):Int)=yWrap .i64 ((i:Int) + 1);rw [wrap64 (by omega) (by omega)];omega,rfl⟩
     rcases Nat.lt_succ_iff_lt_or_eq.1 hj with h2 | rfl
     . exact hi.2 j h2
     . exact of_decide_eq_false e
 . have hge:=yLtF h
   exact ⟨decide_eq_false λ ⟨j,hj,e⟩=>hi.2 j (by omega) e,rfl⟩
theorem goalHs_tt:(goalHs)=True:=goalHs_eq.trans (eq_true goalHs_vc)
theorem goalHs_ok:goalHs:=@ft' goalHs goalHs_tt
theorem smHs (hm:Try.prog.follows .mixedOrders=true):SmCall Try.prog 22 (λ args h=>(ctX [sPi,.sc] .sc fHs args h).sel):=
 ctX_ok hm noSm_ok (λ ds r post h=>by
  unfold fHs at h
  split at h
  . rename_i nl m o x
    simp only [sI,Prod.mk.injEq] at h
    obtain ⟨h1,rfl,rfl⟩:=h
    have h2:=@goalHs_ok
    unfold goalHs at h2
    exact ⟨_,1000,@h2 nl m o x h1⟩
  . cases h)
end Go.Proofs.Ytknfdbilpfblnaa.Ex
end
