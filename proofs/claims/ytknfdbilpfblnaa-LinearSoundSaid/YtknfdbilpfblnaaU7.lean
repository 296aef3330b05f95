/- The texts CLc, CLs, CSd, CHs, CMn, CBp, CPt, CPi, CPd, CmA: Contract: gleaningref30.Check, is a list an order of a history? Contract: cmp.Less of numbers; loops whose state is two numbers and a list's contents. Contract: slices.siftDownOrdered of numbers. .. -/
import Derived.Lib.SlicesCompact
import Derived.Test.YtknfdbilpfblnaaU6
set_option linter.all false
set_option maxRecDepth 100000
section
noncomputable section
namespace Go.Proofs.Ytknfdbilpfblnaa.Ex
open Go
def lcIs (E:EvS)(n:Nat)(x:Int):Bool:=bkP E n (resN E n) x
def lcGo (E:EvS)(n:Nat)(o:Nat->Int)(i:Nat):Bool:=lcIs E n (o i) && !hsB o i (o i)
def lcLa (E:EvS)(n:Nat)(o:Nat->Int)(m i:Nat):Bool:=cOv (gEn E n i) && decide (eOk E (gEv E n i) ≠ 4) && !hsB o m (eId E (gEv E n i))
def lcBe (E:EvS)(n:Nat)(o:Nat->Int)(i k:Nat):Bool:=cOv (gEn E n (bkG (o i))) && decide (cTo E (gEn E n (bkG (o i))) < eAt E (gEv E n (bkG (o k))))
def lcBs (E:EvS)(n:Nat)(o:Nat->Int)(i:Nat):Bool:=decide (∃ k,k < i/\lcBe E n o i k=true)
def lcL (E:EvS)(n:Nat)(o:Nat->Int):Nat->List (Int × Int)
 | 0=>[]
 | i + 1=>if cFl E n (bkG (o i))=true then lcL E n o i else afL (eOk E (gEv E n (bkG (o i)))) (eKey E (gEv E n (bkG (o i)))) (eVal E (gEv E n (bkG (o i)))) (lcL E n o i)
def lcR (E:EvS)(n:Nat)(o:Nat->Int)(i:Nat):Bool:=
 cFl E n (bkG (o i)) || !cOv (gEn E n (bkG (o i))) || sameRes (cRk E (gEn E n (bkG (o i)))) (cRv E (gEn E n (bkG (o i)))) (cPn E (gEn E n (bkG (o i)))) (cPk E (gEn E n (bkG (o i)))) (cPv E (gEn E n (bkG (o i))))
  (if 0<=atL (eKey E (gEv E n (bkG (o i)))) (lcL E n o i) then 2 else 1) (if 0<=atL (eKey E (gEv E n (bkG (o i)))) (lcL E n o i) then rB (lcL E n o i) (atL (eKey E (gEv E n (bkG (o i)))) (lcL E n o i)).toNat else 0) 0 (λ _=>0) (λ _=>0)
def lcF (E:EvS)(n:Nat)(o:Nat->Int)(m:Nat):Int:=
 if gOk E n=false then 4 else if 0<=fxI m (λ i=>!lcGo E n o i) then (if lcIs E n (o (fxI m (λ i=>!lcGo E n o i)).toNat)=true then 12 else 7)
 else if 0<=fxI (resN E n) (lcLa E n o m) then 2 else if 0<=fxI m (lcBs E n o) then 13 else if 0<=fxI m (λ i=>!lcR E n o i) then 10 else 0
def lcP (E:EvS)(n:Nat)(o:Nat->Int)(m:Nat):Int:=
 if gOk E n=false then 0 else if 0<=fxI m (λ i=>!lcGo E n o i) then fxI m (λ i=>!lcGo E n o i)
 else if 0<=fxI (resN E n) (lcLa E n o m) then eId E (gEv E n (fxI (resN E n) (lcLa E n o m)).toNat) else if 0<=fxI m (lcBs E n o) then fxI m (lcBs E n o) else if 0<=fxI m (λ i=>!lcR E n o i) then fxI m (λ i=>!lcR E n o i) else 0
def prL0 (E:EvS)(n:Nat)(o:Nat->Int)(m i:Nat):Prop:=gOk E n=true/\i<=m/\∀ j,j < i->lcGo E n o j=true
def prL1 (E:EvS)(n:Nat)(o:Nat->Int)(m i:Nat):Prop:=prL0 E n o m m/\i<=resN E n/\∀ j,j < i->lcLa E n o m j=false
def prL2 (E:EvS)(n:Nat)(o:Nat->Int)(m i:Nat):Prop:=prL1 E n o m (resN E n)/\i<=m/\∀ j,j < i->lcBs E n o j=false
def prL3 (E:EvS)(n:Nat)(o:Nat->Int)(i k:Nat):Prop:=k<=i/\∀ j,j < k->lcBe E n o i j=false
def prL4 (E:EvS)(n:Nat)(o:Nat->Int)(m i:Nat):Prop:=prL2 E n o m m/\i<=m/\∀ j,j < i->lcR E n o j=true
def mL (m i:Nat):Nat:=m - i
def tmN (z:St)(t:Nat):Nat:=match z.tm.get (t + 1) with | some (.y _ x)=>yNat x | some (.i _ x)=>x.toNat | _=>0
def annLc (E:EvS)(n:Nat)(o:Nat->Int)(m:Nat)(b:Nat):Option (St->LoopA):=
 match b with
 | 0=>some λ _=>{ ι:=Nat,tms:=[8],tmU:=λ i=>[.y .i64 (yInt i)],ids:=[],hpU:=λ _=>[],del:=[],ex:=0,pre:=prL0 E n o m,ms:=mL m }
 | 1=>some λ _=>{ ι:=Nat,tms:=[9],tmU:=λ i=>[.y .i64 (yInt i)],ids:=[],hpU:=λ _=>[],del:=[],ex:=2,pre:=prL1 E n o m,ms:=mL (resN E n) }
 | 2=>some λ _=>{ ι:=Nat,tms:=[10],tmU:=λ i=>[.y .i64 (yInt i)],ids:=[],hpU:=λ _=>[],del:=[],ex:=4,pre:=prL2 E n o m,ms:=mL m }
 | 3=>some λ z=>{ ι:=Nat,tms:=[11],tmU:=λ k=>[.y .i64 (yInt k)],ids:=[],hpU:=λ _=>[],del:=[],ex:=6,pre:=prL3 E n o (tmN z 10),ms:=mL (tmN z 10) }
 | 4=>some λ _=>{ ι:=Nat,tms:=[12,13],tmU:=λ i=>[.lst false (rE (lcL E n o i)) 2 (rN (lcL E n o i)) (colF [.int .u64 (rA (lcL E n o i)),.int .u64 (rB (lcL E n o i))]),.y .i64 (yInt i)],ids:=[],hpU:=λ _=>[],del:=[],ex:=8,pre:=prL4 E n o m,ms:=mL m }
 | _=>none
def lLc:List (Nat × Sm):=[(20,.ct (ctX [sEv] rRl fRk)),(22,.ct (ctX [sPi,.sc] .sc fHs)),(24,.ct (ctS gCa fFu)),(25,.ct (ctS gResult fSame)),(46,.ct (ctX [roP,.sc] .sc fAt)),(45,.ct (ctX [roP,.sc,.sc,.sc] ownP fWithin)),(27,.ct (ctX [sPp,sOpx] rPp fRaf))]
def goalLc:Prop:=∀ (E:EvS) (nil:Bool) (n:Nat) (nilO:Bool) (m:Nat) (o:Nat->Int),preE E n=true->yNle m 60=true →
 wxH Try.prog (smL lLc) (annLc E n o m) 8 [sEv,sPi] [.rows nil n (colsE E),.rows nilO m [.int .i64 o]] (.tup [.sc,.sc]) (.l [.v (.y .i64 (lcP E n o m)),.v (.y .i64 (lcF E n o m))]) []
theorem putF_len (k v:Int):∀ (l:List (Int × Int)) (s:List (Int × Int) × Bool),(l.foldl (putStep k v) s).1.length + (if (l.foldl (putStep k v) s).2=true then 0 else 1)<=s.1.length + l.length + (if s.2=true then 0 else 1)
 | [],s=>by simp only [List.foldl_nil,List.length_nil,Nat.add_zero];exact Nat.le_refl _
 | x :: l,s=>by
   rw [List.foldl_cons]
   have h:=putF_len k v l (putStep k v s x)
   have h2:(putStep k v s x).1.length + (if (putStep k v s x).2=true then 0 else 1)<=s.1.length + 1 + (if s.2=true then 0 else 1):=by
    unfold putStep
    by_cases h1:k<=x.1/\s.2=false
    . rw [if_pos h1,h1.2]
      by_cases h3:x.1=k
      . rw [if_pos h3];simp
      . rw [if_neg h3];simp
    . rw [if_neg h1]
      by_cases h3:x.1=k
      . rw [if_pos h3];omega
      . rw [if_neg h3];simp
   simp only [List.length_cons]
   omega
theorem putL_len1 (k v:Int)(l:List (Int × Int)):(putL k v l).length<=l.length + 1:=by
 have h:=putF_len k v l ([],false)
 unfold putL putD putO putSt
 split
 . rename_i h1
   rw [if_pos h1] at h
   simp at h;omega
 . rename_i h1
   rw [if_neg h1] at h
   simp at h
   rw [List.length_append];simp;omega
theorem afL_len (kd x y:Int)(l:List (Int × Int)):(afL kd x y l).length<=l.length + 1:=by
 unfold afL
 split
 . exact putL_len1 x y l
 . split
   . exact Nat.le_succ_of_le (dropL_len x l)
   . omega
theorem lcL_len (E:EvS)(n:Nat)(o:Nat->Int):∀ i,rN (lcL E n o i)<=i
 | 0=>Nat.le_refl _
 | i + 1=>by
   have ih:=lcL_len E n o i
   unfold rN at ih ⊢
   unfold lcL
   split
   . omega
   . exact Nat.le_trans (afL_len _ _ _ _) (by omega)
theorem prs_self (L:List (Int × Int)):prs (rN L) (rA L) (rB L)=L:=by
 unfold prs rN rA rB
 refine List.ext_getElem? λ i=>?_
 rw [List.getElem?_map]
 by_cases h:i < L.length
 . rw [List.getElem?_range h,List.getElem?_eq_getElem h,Option.map_some]
   simp only [List.getD_eq_getElem?_getD,List.getElem?_eq_getElem h,Option.getD_some]
 . rw [List.getElem?_eq_none (by omega:L.length<=i),List.getElem?_eq_none (by simp;omega)];rfl
theorem rE_is (L:List (Int × Int)):rE L=yNeq (rN L) 0:=by
 unfold rE rN
 cases L with
 | nil=>rfl
 | cons x l=>exact (decide_eq_false (by simp)).symm
section
variable {E : EvS} {n : Nat} {o : Nat -> Int} {m i : Nat}
theorem fx0 (h:prL0 E n o m m):fxI m (λ i=>!lcGo E n o i)=-1:=fx_none ⟨Nat.le_refl m,λ j hj=>by show (!lcGo E n o j)=false;rw [h.2.2 j hj];rfl⟩ (Nat.le_refl m)
theorem fx1 (h:prL1 E n o m (resN E n)):fxI (resN E n) (lcLa E n o m)=-1:=fx_none ⟨Nat.le_refl _,h.2.2⟩ (Nat.le_refl _)
theorem fx2 (h:prL2 E n o m m):fxI m (lcBs E n o)=-1:=fx_none ⟨Nat.le_refl _,h.2.2⟩ (Nat.le_refl _)
theorem fx4 (h:prL4 E n o m m):fxI m (λ i=>!lcR E n o i)=-1:=fx_none ⟨Nat.le_refl _,λ j hj=>by show (!lcR E n o j)=false;rw [h.2.2 j hj];rfl⟩ (Nat.le_refl _)
theorem okNe (h:gOk E n=true):¬ gOk E n=false:=by rw [h];exact Bool.noConfusion
theorem res0 (h:prL0 E n o m i)(hi:i < m)(hg:lcGo E n o i=false):lcP E n o m=(i:Int)/\lcF E n o m=(if lcIs E n (o i)=true then 12 else 7):=by
 have e:fxI m (λ i=>!lcGo E n o i)=(i:Int):=fx_hit ⟨Nat.le_of_lt hi,λ j hj=>by show (!lcGo E n o j)=false;rw [h.2.2 j hj];rfl⟩ hi (by show (!lcGo E n o i)=true;rw [hg];rfl)
 have h0:(0:Int)<=(i:Int):=Int.natCast_nonneg i
 unfold lcP lcF
 simp only [if_neg (okNe h.1),e,if_neg (show ¬ (0:Int)<=-1 by decide),if_pos h0,Int.toNat_natCast]
 first | done | exact ⟨rfl,rfl⟩ | trivial
theorem res1 (h:prL1 E n o m i)(hi:i < resN E n)(hg:lcLa E n o m i=true):lcP E n o m=eId E (gEv E n i)/\lcF E n o m=2:=by
 have e:fxI (resN E n) (lcLa E n o m)=(i:Int):=fx_hit ⟨Nat.le_of_lt hi,h.2.2⟩ hi hg
 have h0:(0:Int)<=(i:Int):=Int.natCast_nonneg i
 unfold lcP lcF
 simp only [if_neg (okNe h.1.1),fx0 h.1,e,if_neg (show ¬ (0:Int)<=-1 by decide),if_pos h0,Int.toNat_natCast]
 first | done | exact ⟨rfl,rfl⟩ | trivial
theorem res2 (h:prL2 E n o m i)(hi:i < m)(hg:lcBs E n o i=true):lcP E n o m=(i:Int)/\lcF E n o m=13:=by
 have e:fxI m (lcBs E n o)=(i:Int):=fx_hit ⟨Nat.le_of_lt hi,h.2.2⟩ hi hg
 have h0:(0:Int)<=(i:Int):=Int.natCast_nonneg i
 unfold lcP lcF
 simp only [if_neg (okNe h.1.1.1),fx0 h.1.1,fx1 h.1,e,if_neg (show ¬ (0:Int)<=-1 by decide),if_pos h0,Int.toNat_natCast]
 first | done | exact ⟨rfl,rfl⟩ | trivial
theorem res4 (h:prL4 E n o m i)(hi:i < m)(hg:lcR E n o i=false):lcP E n o m=(i:Int)/\lcF E n o m=10:=by
 have e:fxI m (λ i=>!lcR E n o i)=(i:Int):=fx_hit ⟨Nat.le_of_lt hi,λ j hj=>by show (!lcR E n o j)=false;rw [h.2.2 j hj];rfl⟩ hi (by show (!lcR E n o i)=true;rw [hg];rfl)
 have h0:(0:Int)<=(i:Int):=Int.natCast_nonneg i
 unfold lcP lcF
 simp only [if_neg (okNe h.1.1.1.1),fx0 h.1.1.1,fx1 h.1.1,fx2 h.1,e,if_neg (show ¬ (0:Int)<=-1 by decide),if_pos h0,Int.toNat_natCast]
 first | done | exact ⟨rfl,rfl⟩ | trivial
theorem res5 (h:prL4 E n o m m):lcP E n o m=0/\lcF E n o m=0:=by
 unfold lcP lcF
 simp only [if_neg (okNe h.1.1.1.1),fx0 h.1.1.1,fx1 h.1.1,fx2 h.1,fx4 h,if_neg (show ¬ (0:Int)<=-1 by decide)]
 first | done | exact ⟨rfl,rfl⟩ | trivial
theorem lcGo_is (h:lcGo E n o i=true):1<=o i/\o i<=resN E n/\eOk E (gEv E n (bkG (o i))) ≠ 4:=by
 unfold lcGo at h
 rw [Bool.and_eq_true] at h
 exact of_decide_eq_true h.1
end
theorem lcR_lt {E:EvS}{n:Nat}{o:Nat->Int}{i:Nat}(hf:cFl E n (bkG (o i))=false)(ho:cOv (gEn E n (bkG (o i)))=true)(hl:atL (eKey E (gEv E n (bkG (o i)))) (lcL E n o i) < 0):
 lcR E n o i=sameRes (cRk E (gEn E n (bkG (o i)))) (cRv E (gEn E n (bkG (o i)))) (cPn E (gEn E n (bkG (o i)))) (cPk E (gEn E n (bkG (o i)))) (cPv E (gEn E n (bkG (o i)))) 1 0 0 (λ _=>0) (λ _=>0):=by
 unfold lcR
 rw [hf,ho,if_neg (by omega),if_neg (by omega)];rfl
theorem lcR_ge {E:EvS}{n:Nat}{o:Nat->Int}{i:Nat}(hf:cFl E n (bkG (o i))=false)(ho:cOv (gEn E n (bkG (o i)))=true)(hl:0<=atL (eKey E (gEv E n (bkG (o i)))) (lcL E n o i)):
 lcR E n o i=sameRes (cRk E (gEn E n (bkG (o i)))) (cRv E (gEn E n (bkG (o i)))) (cPn E (gEn E n (bkG (o i)))) (cPk E (gEn E n (bkG (o i)))) (cPv E (gEn E n (bkG (o i)))) 2 (rB (lcL E n o i) (yNat (atL (eKey E (gEv E n (bkG (o i)))) (lcL E n o i)))) 0 (λ _=>0) (λ _=>0):=by
 unfold lcR
 rw [hf,ho,if_pos hl,if_pos hl];rfl
theorem atL_lt {k:Int}{L:List (Int × Int)}:atL k L < rN L:=by
 unfold atL rN
 split
 . rename_i i h
   have:=(List.findIdx?_eq_some_iff_getElem.1 h).1
   omega
 . omega
def goalLc_0 (o:Nat->Int)(i:Nat):=yNat (yWrap .i64 (ySub (o (yNat (yInt i))) 1))
def goalLc_6 (E:EvS)(n:Nat)(o:Nat->Int)(i:Nat):=prs (rN (lcL E n o i)) (λ (i_1:Nat)=>rA (lcL E n o i) i_1) λ (i_1:Nat)=>rB (lcL E n o i) i_1
def goalLc_7 (E:EvS)(n:Nat)(o:Nat->Int)(i:Nat):=yCol (CK.int .u64) (rN (lcL E n o i)) λ (i_1:Nat)=>AV.y .u64 (rA (lcL E n o i) i_1)
def goalLc_8 (E:EvS)(n:Nat)(o:Nat->Int)(i:Nat):=yCol (CK.int .u64) (rN (lcL E n o i)) λ (i_1:Nat)=>AV.y .u64 (rB (lcL E n o i) i_1)
def goalLc_1 (E:EvS)(n:Nat)(o:Nat->Int)(i:Nat)(m:Nat):=(goalLc_7 E n o i)=true->mst (goalLc_8 E n o i) (mst (yAnd (yNle (rN (lcL E n o i)) 1000000) (yIff (rE (lcL E n o i)) (yNeq (rN (lcL E n o i)) 0))) (true=true/\∃ (i':Nat),prL4 E n o m i'/\Nat.succ (mL m i')<=mL m i/\true=true/\(rE (lcL E n o i')=rE (afL (eOk E (gEv E n (goalLc_0 o i))) (eKey E (gEv E n (goalLc_0 o i))) (eVal E (gEv E n (goalLc_0 o i))) (goalLc_6 E n o i))/\rN (lcL E n o i')=rN (afL (eOk E (gEv E n (goalLc_0 o i))) (eKey E (gEv E n (goalLc_0 o i))) (eVal E (gEv E n (goalLc_0 o i))) (goalLc_6 E n o i))/\∀ (i_1:Nat),Nat.succ i_1<=rN (lcL E n o i')->rA (lcL E n o i') i_1=rA (afL (eOk E (gEv E n (goalLc_0 o i))) (eKey E (gEv E n (goalLc_0 o i))) (eVal E (gEv E n (goalLc_0 o i))) (prs (rN (lcL E n o i)) (λ (i_2:Nat)=>rA (lcL E n o i) i_2) λ (i_2:Nat)=>rB (lcL E n o i) i_2)) i_1/\rB (lcL E n o i') i_1=rB (afL (eOk E (gEv E n (goalLc_0 o i))) (eKey E (gEv E n (goalLc_0 o i))) (eVal E (gEv E n (goalLc_0 o i))) (prs (rN (lcL E n o i)) (λ (i_2:Nat)=>rA (lcL E n o i) i_2) λ (i_2:Nat)=>rB (lcL E n o i) i_2)) i_1/\True)/\yInt i'=yWrap .i64 (yAdd (yInt i) 1)/\true=true))
def goalLc_2 (E:EvS)(n:Nat)(o:Nat->Int)(i:Nat):=rN (withinO (eKey E (gEv E n (goalLc_0 o i))) (eHi E (gEv E n (goalLc_0 o i))) (eMost E (gEv E n (goalLc_0 o i))) (goalLc_6 E n o i))
def goalLc_3 (E:EvS)(n:Nat)(o:Nat->Int)(i:Nat):=withinO (eKey E (gEv E n (goalLc_0 o i))) (eHi E (gEv E n (goalLc_0 o i))) (eMost E (gEv E n (goalLc_0 o i))) (prs (rN (lcL E n o i)) (λ (i_2:Nat)=>rA (lcL E n o i) i_2) λ (i_2:Nat)=>rB (lcL E n o i) i_2)
def goalLc_4 (E:EvS)(n:Nat)(o:Nat->Int)(i:Nat):=yCol (CK.int .u64) (cPn E (gEn E n (goalLc_0 o i))) λ (i_1:Nat)=>AV.y .u64 (cPk E (gEn E n (goalLc_0 o i)) i_1)
def goalLc_5 (E:EvS)(n:Nat)(o:Nat->Int)(i:Nat):=yCol (CK.int .u64) (cPn E (gEn E n (goalLc_0 o i))) λ (i_1:Nat)=>AV.y .u64 (cPv E (gEn E n (goalLc_0 o i)) i_1)
def goalLc_9 (E:EvS)(n:Nat)(o:Nat->Int)(i:Nat):=sameRes (cRk E (gEn E n (goalLc_0 o i))) (cRv E (gEn E n (goalLc_0 o i))) (cPn E (gEn E n (goalLc_0 o i))) (λ (i_1:Nat)=>cPk E (gEn E n (goalLc_0 o i)) i_1) (λ (i_1:Nat)=>cPv E (gEn E n (goalLc_0 o i)) i_1) 2 (rB (lcL E n o i) (yNat (atL (eKey E (gEv E n (goalLc_0 o i))) (goalLc_6 E n o i)))) 0 (λ (i:Nat)=>(0:Int)) λ (i:Nat)=>(0:Int)
def goalLc_10 (E:EvS)(n:Nat)(o:Nat->Int)(i:Nat):=sameRes (cRk E (gEn E n (goalLc_0 o i))) (cRv E (gEn E n (goalLc_0 o i))) (cPn E (gEn E n (goalLc_0 o i))) (λ (i_1:Nat)=>cPk E (gEn E n (goalLc_0 o i)) i_1) (λ (i_1:Nat)=>cPv E (gEn E n (goalLc_0 o i)) i_1) 4 0 (goalLc_2 E n o i) (λ (i_1:Nat)=>rA (goalLc_3 E n o i) i_1) λ (i_1:Nat)=>rB (goalLc_3 E n o i) i_1
def goalLc_11 (E:EvS)(n:Nat)(o:Nat->Int)(i:Nat):=sameRes (cRk E (gEn E n (goalLc_0 o i))) (cRv E (gEn E n (goalLc_0 o i))) (cPn E (gEn E n (goalLc_0 o i))) (λ (i_1:Nat)=>cPk E (gEn E n (goalLc_0 o i)) i_1) (λ (i_1:Nat)=>cPv E (gEn E n (goalLc_0 o i)) i_1) 1 0 0 (λ (i:Nat)=>(0:Int)) λ (i:Nat)=>(0:Int)
def goalLc_12 (E:EvS)(n:Nat)(o:Nat->Int)(i:Nat):=fullE (cOv (gEn E n (goalLc_0 o i))) (eOk E (gEv E n (goalLc_0 o i))) (cRk E (gEn E n (goalLc_0 o i))) (cRv E (gEn E n (goalLc_0 o i))) (cPn E (gEn E n (goalLc_0 o i))) (λ (i_1:Nat)=>cPk E (gEn E n (goalLc_0 o i)) i_1) λ (i_1:Nat)=>cPv E (gEn E n (goalLc_0 o i)) i_1
def goalLcV:Prop:=(∀ (E:EvS) (nil:Bool) (n:Nat) (nilO:Bool) (m:Nat) (o:Nat->Int),preE E n=true->yNle m (nat_lit 60)=true->mst (yCol (CK.int .i64) n λ (i:Nat)=>AV.y .i64 (eKd E i)) (mst (yCol (CK.int .i64) n λ (i:Nat)=>AV.y .i64 (eTh E i)) (mst (yCol (CK.int .i64) n λ (i:Nat)=>AV.y .i64 (eId E i)) (mst (yCol (CK.int .i64) n λ (i:Nat)=>AV.y .i64 (eAt E i)) (mst (yCol (CK.int .i64) n λ (i:Nat)=>AV.y .i64 (eOk E i)) (mst (yCol (CK.int .u64) n λ (i:Nat)=>AV.y .u64 (eKey E i)) (mst (yCol (CK.int .u64) n λ (i:Nat)=>AV.y .u64 (eVal E i)) (mst (yCol (CK.int .u64) n λ (i:Nat)=>AV.y .u64 (eHi E i)) (mst (yCol (CK.int .i64) n λ (i:Nat)=>AV.y .i64 (eMost E i)) (mst (yCol (CK.int .i64) n λ (i:Nat)=>AV.y .i64 (eRk E i)) (mst (yCol (CK.int .u64) n λ (i:Nat)=>AV.y .u64 (eRv E i)) (mst (yCol (CK.ls [K1.int .u64,K1.int .u64]) n λ (i:Nat)=>AV.lst false (eNil E i) 2 (ePn E i) (cl2F [Cl2.int .u64 (ePk E),Cl2.int .u64 (ePv E)] i)) (mst (preE E n) ((gOk E n=true->true=true/\(∃ (i0:Nat),prL0 E n o m i0/\true=true/\yInt i0=(0:Int)/\true=true)/\∀ (g:Nat->AV) (i:Nat),prL0 E n o m i->(yLt (yInt i) (yInt m)=true->mst (yIn (yInt i) m) ((yLe 1 (o (yNat (yInt i)))=true->(yLe (o (yNat (yInt i))) (yInt (resN E n))=true->mst (yIn (yWrap .i64 (ySub (o (yNat (yInt i))) 1)) (resN E n)) ((yNot (yNot (yEq (eOk E (gEv E n (goalLc_0 o i))) 4))=true->lcP E n o m=yInt i/\lcF E n o m=(7:Int)/\true=true)/\(yNot (yNot (yEq (eOk E (gEv E n (goalLc_0 o i))) 4))=false->mst (yIn (yInt i) (Nat.succ m)) (mst (yIn (yInt i) m) (mst (yCol (CK.int .i64) (yNat (yInt i)) λ (i:Nat)=>AV.y .i64 (o i)) (mst (yNle (yNat (yInt i)) 1000000) ((hsB (λ (i:Nat)=>o i) (yNat (yInt i)) (o (yNat (yInt i)))=true->lcP E n o m=yInt i/\lcF E n o m=(12:Int)/\true=true)/\(hsB (λ (i:Nat)=>o i) (yNat (yInt i)) (o (yNat (yInt i)))=false->true=true/\∃ (i':Nat),prL0 E n o m i'/\Nat.succ (mL m i')<=mL m i/\true=true/\yInt i'=yWrap .i64 (yAdd (yInt i) 1)/\true=true))))))))/\(yLe (o (yNat (yInt i))) (yInt (resN E n))=false->lcP E n o m=yInt i/\lcF E n o m=(7:Int)/\true=true))/\(yLe 1 (o (yNat (yInt i)))=false->lcP E n o m=yInt i/\lcF E n o m=(7:Int)/\true=true)))/\(yLt (yInt i) (yInt m)=false->true=true/\(∃ (i0:Nat),prL1 E n o m i0/\true=true/\yInt i0=(0:Int)/\true=true)/\∀ (g:Nat->AV) (i:Nat),prL1 E n o m i->(yLt (yInt i) (yInt (resN E n))=true->mst (yIn (yInt i) (resN E n)) ((cOv (gEn E n (yNat (yInt i)))=true->mst (yIn (yInt i) (resN E n)) ((yNot (yEq (eOk E (gEv E n (yNat (yInt i)))) 4)=true->mst (yIn (yInt i) (resN E n)) (mst (yCol (CK.int .i64) m λ (i:Nat)=>AV.y .i64 (o i)) (mst (yNle m 1000000) ((yNot (hsB (λ (i:Nat)=>o i) m (eId E (gEv E n (yNat (yInt i)))))=true->mst (yIn (yInt i) (resN E n)) (lcP E n o m=eId E (gEv E n (yNat (yInt i)))/\lcF E n o m=(2:Int)/\true=true))/\(yNot (hsB (λ (i:Nat)=>o i) m (eId E (gEv E n (yNat (yInt i)))))=false->true=true/\∃ (i':Nat),prL1 E n o m i'/\Nat.succ (mL (resN E n) i')<=mL (resN E n) i/\true=true/\yInt i'=yWrap .i64 (yAdd (yInt i) 1)/\true=true)))))/\(yNot (yEq (eOk E (gEv E n (yNat (yInt i)))) 4)=false->true=true/\∃ (i':Nat),prL1 E n o m i'/\Nat.succ (mL (resN E n) i')<=mL (resN E n) i/\true=true/\yInt i'=yWrap .i64 (yAdd (yInt i) 1)/\true=true)))/\(cOv (gEn E n (yNat (yInt i)))=false->true=true/\∃ (i':Nat),prL1 E n o m i'/\Nat.succ (mL (resN E n) i')<=mL (resN E n) i/\true=true/\yInt i'=yWrap .i64 (yAdd (yInt i) 1)/\true=true)))/\(yLt (yInt i) (yInt (resN E n))=false->true=true/\(∃ (i0:Nat),prL2 E n o m i0/\true=true/\yInt i0=(0:Int)/\true=true)/\∀ (g:Nat->AV) (i:Nat),prL2 E n o m i->(yLt (yInt i) (yInt m)=true->true=true/\(∃ (i0:Nat),prL3 E n o (yNat (yInt i)) i0/\true=true/\yInt i0=(0:Int)/\true=true)/\∀ (g:Nat->AV) (i_1:Nat),prL3 E n o (yNat (yInt i)) i_1->(yLt (yInt i_1) (yInt i)=true->mst (yIn (yInt i) m) (mst (yIn (yWrap .i64 (ySub (o (yNat (yInt i))) 1)) (resN E n)) (mst (yIn (yInt i_1) m) (mst (yIn (yWrap .i64 (ySub (o (yNat (yInt i_1))) 1)) (resN E n)) ((cOv (gEn E n (goalLc_0 o i))=true->(yLt (cTo E (gEn E n (goalLc_0 o i))) (eAt E (gEv E n (yNat (yWrap .i64 (ySub (o (yNat (yInt i_1))) 1)))))=true->lcP E n o m=yInt i/\lcF E n o m=(13:Int)/\true=true)/\(yLt (cTo E (gEn E n (goalLc_0 o i))) (eAt E (gEv E n (yNat (yWrap .i64 (ySub (o (yNat (yInt i_1))) 1)))))=false->true=true/\∃ (i':Nat),prL3 E n o (yNat (yInt i)) i'/\Nat.succ (mL (yNat (yInt i)) i')<=mL (yNat (yInt i)) i_1/\true=true/\yInt i'=yWrap .i64 (yAdd (yInt i_1) 1)/\true=true))/\(cOv (gEn E n (goalLc_0 o i))=false->true=true/\∃ (i':Nat),prL3 E n o (yNat (yInt i)) i'/\Nat.succ (mL (yNat (yInt i)) i')<=mL (yNat (yInt i)) i_1/\true=true/\yInt i'=yWrap .i64 (yAdd (yInt i_1) 1)/\true=true))))))/\(yLt (yInt i_1) (yInt i)=false->true=true/\∃ (i':Nat),prL2 E n o m i'/\Nat.succ (mL m i')<=mL m i/\true=true/\yInt i'=yWrap .i64 (yAdd (yInt i) 1)/\true=true))/\(yLt (yInt i) (yInt m)=false->true=true/\(∃ (i0:Nat),prL4 E n o m i0/\true=true/\rE (lcL E n o i0)=true/\rN (lcL E n o i0)=nat_lit 0/\yInt i0=(0:Int)/\true=true)/\∀ (g:Nat->AV) (i:Nat),prL4 E n o m i->(yLt (yInt i) (yInt m)=true->mst (yIn (yInt i) m) (mst (yIn (yWrap .i64 (ySub (o (yNat (yInt i))) 1)) (resN E n)) (mst (goalLc_4 E n o i) (mst (goalLc_5 E n o i) (mst (yNle (cPn E (gEn E n (goalLc_0 o i))) 1000000) (((goalLc_12 E n o i)=true->true=true/\∃ (i':Nat),prL4 E n o m i'/\Nat.succ (mL m i')<=mL m i/\true=true/\(rE (lcL E n o i')=rE (lcL E n o i)/\rN (lcL E n o i')=rN (lcL E n o i)/\∀ (i_1:Nat),Nat.succ i_1<=rN (lcL E n o i')->rA (lcL E n o i') i_1=rA (lcL E n o i) i_1/\rB (lcL E n o i') i_1=rB (lcL E n o i) i_1/\True)/\yInt i'=yWrap .i64 (yAdd (yInt i) 1)/\true=true)/\((goalLc_12 E n o i)=false->(cOv (gEn E n (goalLc_0 o i))=true->(yEq (eOk E (gEv E n (goalLc_0 o i))) (4:Int)=true->mst (goalLc_7 E n o i) (mst (goalLc_8 E n o i) (mst (yNle (rN (lcL E n o i)) 1000000) (mst (goalLc_4 E n o i) (mst (goalLc_5 E n o i) (mst (yNle (yNadd 0 (goalLc_2 E n o i)) (goalLc_2 E n o i)) (mst (yCol (CK.int .u64) (goalLc_2 E n o i) λ (i_1:Nat)=>AV.y .u64 (rA (goalLc_3 E n o i) i_1)) (mst (yCol (CK.int .u64) (goalLc_2 E n o i) λ (i_1:Nat)=>AV.y .u64 (rB (goalLc_3 E n o i) i_1)) (mst (yNle (cPn E (gEn E n (goalLc_0 o i))) 1000000) ((yNot (goalLc_10 E n o i)=true->lcP E n o m=yInt i/\lcF E n o m=(10:Int)/\true=true)/\(yNot (goalLc_10 E n o i)=false->(goalLc_1 E n o i m)/\((goalLc_7 E n o i)=false->False))))))))))))/\(yEq (eOk E (gEv E n (goalLc_0 o i))) (4:Int)=false->mst (goalLc_7 E n o i) (mst (goalLc_8 E n o i) (mst (yNle (rN (lcL E n o i)) 1000000) ((yLt (atL (eKey E (gEv E n (goalLc_0 o i))) (goalLc_6 E n o i)) (0:Int)=true->mst (goalLc_4 E n o i) (mst (goalLc_5 E n o i) (mst (yNle (cPn E (gEn E n (goalLc_0 o i))) 1000000) ((yNot (goalLc_11 E n o i)=true->lcP E n o m=yInt i/\lcF E n o m=(10:Int)/\true=true)/\(yNot (goalLc_11 E n o i)=false->(goalLc_1 E n o i m)/\((goalLc_7 E n o i)=false->False))))))/\(yLt (atL (eKey E (gEv E n (goalLc_0 o i))) (goalLc_6 E n o i)) (0:Int)=false->mst (yIn (atL (eKey E (gEv E n (goalLc_0 o i))) (goalLc_6 E n o i)) (rN (lcL E n o i))) (mst (goalLc_4 E n o i) (mst (goalLc_5 E n o i) (mst (yNle (cPn E (gEn E n (goalLc_0 o i))) 1000000) ((yNot (goalLc_9 E n o i)=true->lcP E n o m=yInt i/\lcF E n o m=(10:Int)/\true=true)/\(yNot (goalLc_9 E n o i)=false->(goalLc_1 E n o i m)/\((goalLc_7 E n o i)=false->False))))))))))))/\(cOv (gEn E n (goalLc_0 o i))=false->(goalLc_1 E n o i m)/\((goalLc_7 E n o i)=false->False)))))))))/\(yLt (yInt i) (yInt m)=false->lcP E n o m=(0:Int)/\lcF E n o m=(0:Int)/\true=true)))))/\(gOk E n=false->lcP E n o m=(0:Int)/\lcF E n o m=(4:Int)/\true=true)))))))))))))))
theorem goalLc_eq:goalLc=goalLcV:=by kernel_rfl
set_option maxHeartbeats 8000000 in
theorem goalLc_vc:goalLcV:=by
 unfold goalLcV goalLc_12 goalLc_11 goalLc_10 goalLc_9 goalLc_5 goalLc_4 goalLc_3 goalLc_2 goalLc_1 goalLc_8 goalLc_7 goalLc_6 goalLc_0
 intro E nil n nilO m o hpre hm
 have hm:m<=60:=of_decide_eq_true hm
 have hn:n<=200:=(of_decide_eq_true hpre).1
 have hN:resN E n<=200:=by
  have h1:gN E n<=n:=(gInv E n).le
  unfold resN
  cases gOk E n <;> simp <;> omega
 have hcol:∀ m,yCol (.ls [.int .u64,.int .u64]) m (λ i=>AV.lst false (eNil E i) 2 (ePn E i) (cl2F [Cl2.int .u64 (ePk E),Cl2.int .u64 (ePv E)] i))=true:=λ m=>yCol_ok.2 λ i _=>List.all_eq_true.2 λ p _=>rfl
 have nxt:∀ {p:Nat->Prop} {M i:Nat},i < M->M<=200->p (i + 1)->∃ (i':Nat),p i'/\Nat.succ (mL M i')<=mL M i/\true=true/\yInt i'=yWrap .i64 (yAdd (yInt i) (1:Int))/\true=true:=λ {p M i} h1 h2 h3=>
  ⟨i + 1,h3,by unfold mL;omega,rfl,by show ((i + 1:Nat):Int)=yWrap .i64 ((i:Int) + 1);rw [wrap64 (by omega) (by omega)];omega,rfl⟩
 have ext:∀ {P:Nat->Prop} {i:Nat},(∀ j,j < i->P j)->P i->∀ j,j < i + 1->P j:=λ {P i} h1 h2 j hj=>by
  rcases Nat.lt_succ_iff_lt_or_eq.1 hj with h | rfl
  . exact h1 j h
  . exact h2
 have ix:∀ x:Int,1<=x->x<=resN E n->yWrap .i64 (ySub x 1)=x - 1:=λ x h1 h2=>by
  show yWrap .i64 (x - 1)=x - 1
  rw [wrap64 (by omega) (by omega)]
 have ix0:∀ x:Int,1<=x->x<=resN E n->yNat (yWrap .i64 (ySub x 1))=bkG x:=λ x h1 h2=>by rw [ix x h1 h2];rfl
 have ix1:∀ x:Int,1<=x->x<=resN E n->yIn (yWrap .i64 (ySub x 1)) (resN E n)=true:=λ x h1 h2=>by rw [ix x h1 h2];exact decide_eq_true ⟨by omega,by omega⟩
 have no:∀ {b:Bool},yNot b=true->b=false:=λ h=>by simpa [yNot] using h
 have ye:∀ {b:Bool},yNot b=false->b=true:=λ h=>by simpa [yNot] using h
 refine mstI yCol_int (mstI yCol_int (mstI yCol_int (mstI yCol_int (mstI yCol_int (mstI yCol_int (mstI yCol_int (mstI yCol_int (mstI yCol_int (mstI yCol_int (mstI yCol_int (mstI (hcol n) (mstI hpre ⟨λ hok=>⟨rfl,⟨0,⟨hok,Nat.zero_le _,λ j hj=>absurd hj (Nat.not_lt_zero _)⟩,rfl,rfl,rfl⟩,λ g i hp=>⟨λ h=>?_,λ h=>⟨rfl,?_⟩⟩⟩,λ hok=>?_⟩))))))))))))
 . have hi:=yLtN h
   have bad:lcIs E n (o i)=false->lcP E n o m=yInt i/\lcF E n o m=(7:Int)/\true=true:=λ hb=>by
    have:=res0 hp hi (by unfold lcGo;rw [hb];rfl)
    rw [hb] at this
    exact ⟨this.1,this.2,rfl⟩
   refine mstI (yInN hi) ⟨λ h1=>⟨λ h2=>?_,λ h2=>bad ?_⟩,λ h1=>bad ?_⟩
   . have x1:1<=o i:=of_decide_eq_true h1
     have x2:o i<=resN E n:=of_decide_eq_true h2
     have e0:=ix0 (o i) x1 x2
     refine mstI (ix1 (o i) x1 x2) ⟨λ h4=>bad ?_,λ h4=>?_⟩
     . have h4:eOk E (gEv E n (yNat (yWrap .i64 (ySub (o i) 1))))=4:=of_decide_eq_true (ye (no h4))
       rw [e0] at h4
       exact decide_eq_false λ hh=>hh.2.2 h4
     . have h4:¬ eOk E (gEv E n (yNat (yWrap .i64 (ySub (o i) 1))))=4:=of_decide_eq_false (no (ye h4))
       rw [e0] at h4
       have his:lcIs E n (o i)=true:=decide_eq_true ⟨x1,x2,h4⟩
       refine mstI (show yIn (yInt i) (m + 1)=true from yInN (by omega)) (mstI (yInN hi) (mstI yCol_int (mstI (decide_eq_true (show i<=1000000 by omega)) ⟨λ h5=>?_,λ h5=>⟨rfl,nxt hi (by omega) ⟨hp.1,hi,ext hp.2.2 ?_⟩⟩⟩)))
       . have h5:hsB o i (o i)=true:=h5
         have:=res0 hp hi (by unfold lcGo;rw [h5,his];rfl)
         rw [if_pos his] at this
         exact ⟨this.1,this.2,rfl⟩
       . have h5:hsB o i (o i)=false:=h5
         unfold lcGo;rw [h5,his];rfl
   . exact decide_eq_false λ hh=>of_decide_eq_false h2 hh.2.1
   . exact decide_eq_false λ hh=>of_decide_eq_false h1 hh.1
 . obtain rfl:i=m:=by have:=yLtF h;have:=hp.2.1;omega
   refine ⟨⟨0,⟨hp,Nat.zero_le _,λ j hj=>absurd hj (Nat.not_lt_zero _)⟩,rfl,rfl,rfl⟩,λ g k hp1=>⟨λ h=>?_,λ h=>⟨rfl,?_⟩⟩⟩
   . have hk:=yLtN h
     refine mstI (yInN hk) ⟨λ ho=>mstI (yInN hk) ⟨λ h4=>mstI (yInN hk) (mstI yCol_int (mstI (decide_eq_true (show i<=1000000 by omega)) ⟨λ hh=>mstI (yInN hk) ?_,λ hh=>⟨rfl,nxt hk hN ⟨hp,hk,ext hp1.2.2 ?_⟩⟩⟩)),λ h4=>⟨rfl,nxt hk hN ⟨hp,hk,ext hp1.2.2 ?_⟩⟩⟩,λ ho=>⟨rfl,nxt hk hN ⟨hp,hk,ext hp1.2.2 ?_⟩⟩⟩
     . have ho:cOv (gEn E n k)=true:=ho
       have h4:eOk E (gEv E n k) ≠ 4:=of_decide_eq_false (no h4)
       have hh:hsB o i (eId E (gEv E n k))=false:=no hh
       have:=res1 hp1 hk (by unfold lcLa;rw [ho,hh,decide_eq_true h4];rfl)
       exact ⟨this.1,this.2,rfl⟩
     . have hh:hsB o i (eId E (gEv E n k))=true:=ye hh
       unfold lcLa;rw [hh];simp
     . have h4:eOk E (gEv E n k)=4:=of_decide_eq_true (ye h4)
       unfold lcLa;rw [decide_eq_false (λ h=>h h4)];simp
     . have ho:cOv (gEn E n k)=false:=ho
       unfold lcLa;rw [ho];rfl
   . obtain rfl:k=resN E n:=by have:=yLtF h;have:=hp1.2.1;omega
     refine ⟨⟨0,⟨hp1,Nat.zero_le _,λ j hj=>absurd hj (Nat.not_lt_zero _)⟩,rfl,rfl,rfl⟩,λ g a hp2=>⟨λ h=>⟨rfl,⟨0,⟨Nat.zero_le _,λ j hj=>absurd hj (Nat.not_lt_zero _)⟩,rfl,rfl,rfl⟩,λ g b hp3=>⟨λ h3=>?_,λ h3=>⟨rfl,?_⟩⟩⟩,λ h=>⟨rfl,?_⟩⟩⟩
     . have ha:=yLtN h
       have hb:b < a:=yLtN h3
       obtain ⟨a1,a2,_⟩:=lcGo_is (hp.2.2 a ha)
       obtain ⟨b1,b2,_⟩:=lcGo_is (hp.2.2 b (by omega))
       have ea:=ix0 (o a) a1 a2
       have eb:=ix0 (o b) b1 b2
       refine mstI (yInN ha) (mstI (ix1 (o a) a1 a2) (mstI (yInN (show b < i by omega)) (mstI (ix1 (o b) b1 b2) ⟨λ ho=>⟨λ hl=>?_,λ hl=>⟨rfl,nxt (p:=prL3 E n o a) hb (show a<=200 by omega) ⟨hb,ext hp3.2 ?_⟩⟩⟩,λ ho=>⟨rfl,nxt (p:=prL3 E n o a) hb (show a<=200 by omega) ⟨hb,ext hp3.2 ?_⟩⟩⟩)))
       . have ho:cOv (gEn E n (bkG (o a)))=true:=by rw [<- ea];exact ho
         have hl:cTo E (gEn E n (bkG (o a))) < eAt E (gEv E n (bkG (o b))):=by rw [<- ea,<- eb];exact of_decide_eq_true hl
         have:=res2 hp2 ha (decide_eq_true ⟨b,hb,by unfold lcBe;rw [ho,decide_eq_true hl];rfl⟩)
         exact ⟨this.1,this.2,rfl⟩
       . have hl:¬ cTo E (gEn E n (bkG (o a))) < eAt E (gEv E n (bkG (o b))):=by rw [<- ea,<- eb];exact of_decide_eq_false hl
         unfold lcBe;rw [decide_eq_false hl];simp
       . have ho:cOv (gEn E n (bkG (o a)))=false:=by rw [<- ea];exact ho
         unfold lcBe;rw [ho];rfl
     . have ha:=yLtN h
       obtain rfl:b=a:=by have h4:a<=b:=yLtF h3;have:=hp3.1;have h5:b<=a:=hp3.1;omega
       exact nxt ha (by omega) ⟨hp1,ha,ext hp2.2.2 (decide_eq_false λ ⟨q,hq,e⟩=>by have h9:lcBe E n o b q=false:=hp3.2 q hq;rw [h9] at e;cases e)⟩
     . obtain rfl:a=i:=by have:=yLtF h;have:=hp2.2.1;omega
       refine ⟨⟨0,⟨hp2,Nat.zero_le _,λ j hj=>absurd hj (Nat.not_lt_zero _)⟩,rfl,rfl,rfl,rfl,rfl⟩,λ g q hp4=>⟨λ h=>?_,λ h=>?_⟩⟩
       . have hq:=yLtN h
         obtain ⟨q1,q2,q4⟩:=lcGo_is (hp.2.2 q hq)
         have e0:=ix0 (o q) q1 q2
         have cB:∀ g,yNle (cPn E (gEn E n g)) 1000000=true:=λ g=>decide_eq_true (by have:=cPn_le hpre g;omega)
         have hLn:=lcL_len E n o q
         have lB:yNle (rN (lcL E n o q)) 1000000=true:=decide_eq_true (by omega)
         have wq:yInt (q + 1)=yWrap .i64 (yAdd (yInt q) 1):=by show ((q + 1:Nat):Int)=yWrap .i64 ((q:Int) + 1);rw [wrap64 (by omega) (by omega)];omega
         have nf:goalLc_7 E n o q=false->False:=λ h=>by rw [show goalLc_7 E n o q=true from yCol_int] at h;cases h
         have mq:(mL a (q + 1)).succ<=mL a q:=by unfold mL;omega
         have bad:lcR E n o q=false->lcP E n o a=yInt q/\lcF E n o a=(10:Int)/\true=true:=λ hb=>⟨(res4 hp4 hq hb).1,(res4 hp4 hq hb).2,rfl⟩
         have C1:cFl E n (bkG (o q))=false->lcR E n o q=true->goalLc_1 E n o q a:=λ hf hr=>by
          have e1:lcL E n o (q + 1)=afL (eOk E (gEv E n (yNat (yWrap .i64 (ySub (o q) 1))))) (eKey E (gEv E n (yNat (yWrap .i64 (ySub (o q) 1))))) (eVal E (gEv E n (yNat (yWrap .i64 (ySub (o q) 1))))) (prs (rN (lcL E n o q)) (rA (lcL E n o q)) (rB (lcL E n o q))):=by
           rw [prs_self,e0]
           exact if_neg (by rw [hf];exact Bool.false_ne_true)
          have hy:yAnd (yNle (rN (lcL E n o q)) 1000000) (yIff (rE (lcL E n o q)) (yNeq (rN (lcL E n o q)) 0))=true:=by
           rw [lB,rE_is]
           cases yNeq (rN (lcL E n o q)) 0 <;> rfl
          intro _
          refine mstI yCol_int (mstI hy ⟨rfl,q + 1,⟨hp4.1,hq,ext hp4.2.2 hr⟩,mq,rfl,?_,wq,rfl⟩)
          rw [e1]
          exact ⟨rfl,rfl,λ p _=>⟨rfl,rfl,trivial⟩⟩
         refine mstI (yInN hq) (mstI (ix1 (o q) q1 q2) (mstI yCol_int (mstI yCol_int (mstI (cB _) ⟨λ hf=>?_,λ hf=>?_⟩))))
         . have hf:cFl E n (bkG (o q))=true:=by rw [<- e0];exact hf
           have e1:lcL E n o (q + 1)=lcL E n o q:=if_pos hf
           refine ⟨rfl,q + 1,⟨hp4.1,hq,ext hp4.2.2 (by unfold lcR;rw [hf];rfl)⟩,mq,rfl,?_,wq,rfl⟩
           rw [e1]
           exact ⟨rfl,rfl,λ p _=>⟨rfl,rfl,trivial⟩⟩
         . have hf:cFl E n (bkG (o q))=false:=by rw [<- e0];exact hf
           refine ⟨λ ho=>⟨λ h4=>?_,λ h4=>mstI yCol_int (mstI yCol_int (mstI lB ⟨λ hl=>?_,λ hl=>?_⟩))⟩,λ ho=>⟨C1 hf ?_,nf⟩⟩
           . refine absurd ?_ q4
             rw [<- e0];exact of_decide_eq_true h4
           . have ho:cOv (gEn E n (bkG (o q)))=true:=by rw [<- e0];exact ho
             have hl:atL (eKey E (gEv E n (bkG (o q)))) (lcL E n o q) < 0:=by
              have h9:atL (eKey E (gEv E n (yNat (yWrap .i64 (ySub (o q) 1))))) (prs (rN (lcL E n o q)) (rA (lcL E n o q)) (rB (lcL E n o q))) < 0:=of_decide_eq_true hl
              rwa [prs_self,e0] at h9
             have eR:=lcR_lt hf ho hl
             refine mstI yCol_int (mstI yCol_int (mstI (cB _) ⟨λ hr=>bad ?_,λ hr=>⟨C1 hf ?_,nf⟩⟩))
             . rw [eR,<- e0];exact no hr
             . rw [eR,<- e0];exact ye hr
           . have ho:cOv (gEn E n (bkG (o q)))=true:=by rw [<- e0];exact ho
             have hl:¬ atL (eKey E (gEv E n (bkG (o q)))) (lcL E n o q) < 0:=by
              have h9:¬ atL (eKey E (gEv E n (yNat (yWrap .i64 (ySub (o q) 1))))) (prs (rN (lcL E n o q)) (rA (lcL E n o q)) (rB (lcL E n o q))) < 0:=of_decide_eq_false hl
              rwa [prs_self,e0] at h9
             have eR:=lcR_ge hf ho (by omega)
             have e6:atL (eKey E (gEv E n (yNat (yWrap .i64 (ySub (o q) 1))))) (prs (rN (lcL E n o q)) (rA (lcL E n o q)) (rB (lcL E n o q)))=atL (eKey E (gEv E n (bkG (o q)))) (lcL E n o q):=by rw [prs_self,e0]
             refine mstI ?_ (mstI yCol_int (mstI yCol_int (mstI (cB _) ⟨λ hr=>bad ?_,λ hr=>⟨C1 hf ?_,nf⟩⟩)))
             . show yIn (atL (eKey E (gEv E n (yNat (yWrap .i64 (ySub (o q) 1))))) (prs (rN (lcL E n o q)) (rA (lcL E n o q)) (rB (lcL E n o q)))) (rN (lcL E n o q))=true
               rw [e6]
               exact decide_eq_true ⟨by omega,atL_lt⟩
             . rw [eR,<- e6,<- e0];exact no hr
             . rw [eR,<- e6,<- e0];exact ye hr
           . have ho:cOv (gEn E n (bkG (o q)))=false:=by rw [<- e0];exact ho
             unfold lcR;rw [ho];simp
       . obtain rfl:q=a:=by have:=yLtF h;have:=hp4.2.1;omega
         exact ⟨(res5 hp4).1,(res5 hp4).2,rfl⟩
 . unfold lcP lcF
   rw [if_pos hok,if_pos hok]
   exact ⟨rfl,rfl,rfl⟩
theorem goalLc_tt:(goalLc)=True:=goalLc_eq.trans (eq_true goalLc_vc)
theorem goalLc_ok:goalLc:=@ft' goalLc goalLc_tt
def fLc (ds:List Dx):Option (Bool × Dx × List (List Dx)):=
 match ds with
 | [.rows _ n [.int .i64 kd,.int .i64 th,.int .i64 id,.int .i64 at_,.int .i64 ok,.int .u64 key,.int .u64 val,.int .u64 hi,.int .i64 most,.int .i64 rk,.int .u64 rv,.ls nl pn [.int .u64 pk,.int .u64 pv]],.rows _ m [.int .i64 o]]=>some (yAnd (preE ⟨kd,th,id,at_,ok,key,val,hi,most,rk,rv,nl,pn,pk,pv⟩ n) (yNle m 60),.l [.v (.y .i64 (lcP ⟨kd,th,id,at_,ok,key,val,hi,most,rk,rv,nl,pn,pk,pv⟩ n o m)),.v (.y .i64 (lcF ⟨kd,th,id,at_,ok,key,val,hi,most,rk,rv,nl,pn,pk,pv⟩ n o m))],[])
 | _=>none
theorem smLc (hm:Try.prog.follows .mixedOrders=true)(hs:SmOK Try.prog (smL lLc)):SmCall Try.prog 8 (λ args h=>(ctX [sEv,sPi] (.tup [.sc,.sc]) fLc args h).sel):=
 ctX_ok hm hs (λ ds r post h=>by
  unfold fLc at h
  split at h
  . rename_i nil n kd th id at_ ok key val hi most rk rv nl pn pk pv nilO m o
    simp only [sI,Prod.mk.injEq] at h
    obtain ⟨h1,rfl,rfl⟩:=h
    obtain ⟨h1,h3⟩:=yAnd_t.mp h1
    refine ⟨annLc ⟨kd,th,id,at_,ok,key,val,hi,most,rk,rv,nl,pn,pk,pv⟩ n o m,1000,?_⟩
    have h2:=@goalLc_ok
    unfold goalLc at h2
    revert h1 h3
    exact @h2 ⟨kd,th,id,at_,ok,key,val,hi,most,rk,rv,nl,pn,pk,pv⟩ nil n nilO m o
  . cases h)
structure QS where
 i:Int
 j:Int
 d:Nat->Int
structure QI where
 s:QS
 k:Nat
instance:Inhabited QI:=⟨⟨⟨0,0,λ _=>0⟩,0⟩⟩
def qI (p:QI):Int:=p.s.i
def qJ (p:QI):Int:=p.s.j
def qD (p:QI)(q:Nat):Int:=p.s.d q
def mQ (p:QI):Nat:=p.k
def whQ (c:QS->Bool)(f:QS->QS):Nat->QS->QS
 | 0,s=>s
 | k + 1,s=>if c s=true then whQ c f k (f s) else s
def prQ (inv:QS->Prop)(m:QS->Nat)(c:QS->Bool)(f:QS->QS)(W:QS)(p:QI):Prop:=inv p.s/\m p.s<=p.k/\whQ c f p.k p.s=W
theorem prQ_in {inv:QS->Prop}{m:QS->Nat}{c:QS->Bool}{f:QS->QS}{s:QS}{k:Nat}(h:inv s)(hk:m s<=k):prQ inv m c f (whQ c f k s) ⟨s,k⟩:=⟨h,hk,rfl⟩
theorem prQ_go {inv:QS->Prop}{m:QS->Nat}{c:QS->Bool}{f:QS->QS}{W:QS}{p:QI}(h:prQ inv m c f W p)(hc:c p.s=true)(hi:inv (f p.s))(hm:m (f p.s) < m p.s):prQ inv m c f W ⟨f p.s,p.k - 1⟩/\p.k - 1 < p.k:=by
 obtain ⟨s,k⟩:=p
 obtain ⟨h1,h2,h3⟩:=h
 cases k with
 | zero=>
   have h2:m s<=0:=h2
   have hm:m (f s) < m s:=hm
   omega
 | succ k=>
   refine ⟨⟨hi,?_,?_⟩,?_⟩
   . show m (f s)<=k
     have h2:m s<=k + 1:=h2
     have hm:m (f s) < m s:=hm
     omega
   . rw [<- h3]
     exact (if_pos hc).symm
   . show k + 1 - 1 < k + 1
     omega
theorem whQ_out {c:QS->Bool}{f:QS->QS}{s:QS}(hc:c s=false):∀ k,whQ c f k s=s
 | 0=>rfl
 | k + 1=>if_neg (by rw [hc];exact Bool.false_ne_true)
theorem prQ_out {inv:QS->Prop}{m:QS->Nat}{c:QS->Bool}{f:QS->QS}{W:QS}{p:QI}(h:prQ inv m c f W p)(hc:c p.s=false):W=p.s:=h.2.2.symm.trans (whQ_out hc p.k)
def swI (d:Nat->Int)(x y:Int)(q:Nat):Int:=if q=y.toNat then d x.toNat else if q=x.toNat then d y.toNat else d q
def clI (lo hi x:Int):Int:=if x < lo then lo else if hi < x then hi else x
theorem clI_in {lo hi:Int}(h:lo<=hi)(x:Int):lo<=clI lo hi x/\clI lo hi x<=hi:=by
 unfold clI
 split
 . omega
 . split <;> omega
theorem clI_id {lo hi x:Int}(h1:lo<=x)(h2:x<=hi):clI lo hi x=x:=by
 unfold clI
 rw [if_neg (by omega),if_neg (by omega)]
def tmZ (z:St)(t:Nat):Int:=match z.tm.get (t + 1) with | some (.y _ x)=>x | some (.i _ x)=>x | _=>0
def hpD (z:St)(id:Nat)(q:Nat):Int:=match z.h.t.get (id + 1) with | some (.arr _ _ _ _ f)=>(match f q 0 with | .y _ x=>x | _=>0) | _=>0
def ptZ (z:St)(t:Nat):Nat:=match z.tm.get (t + 1) with | some (.ptr id _)=>id | _=>0
theorem qS:(∀ a b:Int,yAdd a b=a + b)/\(∀ a b:Int,ySub a b=a - b)/\(∀ a b:Int,yMul a b=a * b)/\(∀ a:Int,yNat a=a.toNat)/\(∀ a:Nat,yInt a=(a:Int))/\(∀ a:Nat,yNadd 0 a=a)/\(∀ p:QI,qI p=p.s.i)/\(∀ p:QI,qJ p=p.s.j)/\(∀ p:QI,qD p=p.s.d)
 /\ (∀ x:Int,-9000000<=x->x<=9000000->yWrap .i64 x=x)/\(∀ (x:Int) (n:Nat),0<=x->x < n->yIn x n=true)/\(∀ a b:Nat,a < b->yNlt a b=true)/\(∀ P:Prop,mst true P=P)/\(∀ a b:Int,(yLt a b=true)=(a < b))/\(∀ a b:Int,(yLt a b=false)=¬ a < b)/\(∀ a b:Int,(yLe a b=true)=(a<=b))/\(∀ a b:Int,(yLe a b=false)=¬ a<=b)
 /\ (∀ a b:Int,(yEq a b=true)=(a=b))/\(∀ a b:Int,(yEq a b=false)=¬ a=b)/\(∀ b:Bool,(yNot b=true)=(b=false))/\(∀ b:Bool,(yNot b=false)=(b=true))/\(∀ (a b:Nat) (x y:Int),ySel (yNeq a b) x y=if a=b then x else y)/\(∀ x:Int,0<=x->x<=9000000->yQuo .i64 x 2=x / 2)/\(∀ x:Int,0<=x->x<=9000000->yQuo .i64 x 4=x / 4)/\(∀ x:Int,0<=x->x<=9000000->yQuo .i64 x 8=x / 8)
 /\ (∀ a b:Nat,(Nat.succ a<=b)=(a < b))/\(∀ P:Prop,(P/\True)=P)/\(∀ P:Prop,(True/\P)=P)/\(∀ P:Prop,(True->P)=P)/\(∀ P:Prop,(False->P)=True)/\((true=true)=True)/\((false=true)=False)/\((true=false)=False)/\((false=false)=True)/\(∀ n:Nat,(n=n)=True)/\(∀ x:Int,(x=x)=True)
 /\ (∀ n:Nat,yNeq n n=true)/\(∀ (n:Nat) (g:Nat->Int),(yCol (CK.int .u64) n λ i=>AV.y .u64 (g i))=true)/\(∀ (a b:Int) (P:Prop),a<=b->mst (yLe a b) P=P)/\(((2:Int)=0)=False)/\(((4:Int)=0)=False)/\(((8:Int)=0)=False)/\((¬ False)=True)/\(∀ x y:Int,ySel true x y=x):=by
 have w:∀ x:Int,-9000000<=x->x<=9000000->yWrap .i64 x=x:=λ x h1 h2=>wrap64 (by omega) (by omega)
 have dv:∀ (x c:Int),0<=x->x<=9000000->0 < c->yQuo .i64 x c=x / c:=λ x c h1 h2 hc=>by
  have e:x.tdiv c=x / c:=Int.tdiv_eq_ediv_of_nonneg h1
  have l1:0<=x / c:=Int.ediv_nonneg h1 (by omega)
  have l2:x / c<=x:=Int.ediv_le_self c h1
  show yWrap .i64 (x.tdiv c)=_
  rw [e,w _ (by omega) (by omega)]
 refine ⟨λ _ _=>rfl,λ _ _=>rfl,λ _ _=>rfl,λ _=>rfl,λ _=>rfl,λ a=>Nat.zero_add a,λ _=>rfl,λ _=>rfl,λ _=>rfl,w,λ x n h1 h2=>decide_eq_true ⟨h1,h2⟩,λ a b h=>decide_eq_true h,λ P=>propext ⟨λ h=>h.1 rfl,λ h=>mstI rfl h⟩,?_,?_,?_,?_,?_,?_,?_,?_,λ a b x y=>?_,λ x h1 h2=>dv x 2 h1 h2 (by decide),λ x h1 h2=>dv x 4 h1 h2 (by decide),λ x h1 h2=>dv x 8 h1 h2 (by decide),λ _ _=>rfl,?_,?_,?_,?_,?_,?_,?_,?_,?_,?_,λ n=>decide_eq_true rfl,λ n g=>yCol_int,λ a b P h=>propext ⟨λ x=>x.1 (decide_eq_true h),λ x=>mstI (decide_eq_true h) x⟩,?_,?_,?_,?_,λ _ _=>rfl⟩
 . exact λ a b=>decide_eq_true_eq
 . exact λ a b=>propext decide_eq_false_iff_not
 . exact λ a b=>decide_eq_true_eq
 . exact λ a b=>propext decide_eq_false_iff_not
 . exact λ a b=>decide_eq_true_eq
 . exact λ a b=>propext decide_eq_false_iff_not
 . exact λ b=>by cases b <;> simp [yNot]
 . exact λ b=>by cases b <;> simp [yNot]
 . by_cases h:a=b <;> simp [ySel,yNeq,h]
 all_goals simp
def goalLs:Prop:=∀ (x y:Int),wxH Try.prog noSm (λ _=>none) 89 [.sc,.sc] [.v (.y .u64 x),.v (.y .u64 y)] .sc (.v (.yb (yLt x y))) []
def goalLsV:Prop:=(∀ (x y:Int),(yNot (yEq x x)=true->(yNot (yNot (yEq y y))=true->yLt x y=true/\true=true)/\(yNot (yNot (yEq y y))=false->yLt x y=yLt x y/\true=true))/\(yNot (yEq x x)=false->yLt x y=yLt x y/\true=true))
theorem goalLs_eq:goalLs=goalLsV:=by kernel_rfl
set_option maxHeartbeats 8000000 in
theorem goalLs_vc:goalLsV:=by
 unfold goalLsV
 intro x y
 have e:∀ z:Int,yNot (yEq z z)=false:=λ z=>by simp [yNot,yEq]
 refine ⟨λ h=>?_,λ _=>⟨rfl,rfl⟩⟩
 rw [e] at h
 cases h
theorem goalLs_tt:(goalLs)=True:=goalLs_eq.trans (eq_true goalLs_vc)
theorem goalLs_ok:goalLs:=@ft' goalLs goalLs_tt
def fLs (ds:List Dx):Option (Bool × Dx × List (List Dx)):=
 match ds with
 | [.v (.y .u64 x),.v (.y .u64 y)]=>some (true,.v (.yb (yLt x y)),[])
 | _=>none
def lLs:List (Nat × Sm):=[(89,.ct (ctX [.sc,.sc] .sc fLs))]
theorem smLs (hm:Try.prog.follows .mixedOrders=true):SmCall Try.prog 89 (λ args h=>(ctX [.sc,.sc] .sc fLs args h).sel):=
 ctX_ok hm noSm_ok (λ ds r post h=>by
  unfold fLs at h
  split at h
  . rename_i x y
    simp only [sI,Prod.mk.injEq] at h
    obtain ⟨h1,rfl,rfl⟩:=h
    have h2:=@goalLs_ok
    unfold goalLs at h2
    exact ⟨λ _=>none,1000,@h2 x y⟩
  . cases h)
def sdC (hi f:Int)(s:QS):Int:=if 2 * s.i + 1 + 1 < hi/\s.d (f + (2 * s.i + 1)).toNat < s.d (f + (2 * s.i + 1) + 1).toNat then 2 * s.i + 1 + 1 else 2 * s.i + 1
def sdB (hi f:Int)(s:QS):Bool:=decide (2 * s.i + 1 < hi/\s.d (f + s.i).toNat < s.d (f + sdC hi f s).toNat)
def sdF (hi f:Int)(s:QS):QS:=⟨sdC hi f s,0,swI s.d (f + s.i) (f + sdC hi f s)⟩
def sdW (hi f lo:Int)(d:Nat->Int):Nat->Int:=(whQ (sdB hi f) (sdF hi f) hi.toNat ⟨lo,0,d⟩).d
def prSd (hi f lo:Int)(d:Nat->Int)(p:QI):Prop:=prQ (λ s=>0<=s.i/\s.i<=hi) (λ s=>(hi - s.i).toNat) (sdB hi f) (sdF hi f) (whQ (sdB hi f) (sdF hi f) hi.toNat ⟨lo,0,d⟩) p
def preSd (n:Nat)(lo hi f:Int):Bool:=decide (n<=1000000/\0<=lo/\lo<=hi/\0<=f/\f + hi<=n)
theorem preSd_t {n:Nat}{lo hi f:Int}(h1:n<=1000000)(h2:0<=lo)(h3:lo<=hi)(h4:0<=f)(h5:f + hi<=n):preSd n lo hi f=true:=decide_eq_true ⟨h1,h2,h3,h4,h5⟩
def annSd (n:Nat)(hi f lo:Int)(d:Nat->Int)(x:Nat):Option (St->LoopA):=
 match x with
 | 0=>some λ _=>{ ι:=QI,tms:=[8],tmU:=λ p=>[.y .i64 (qI p)],ids:=[0],hpU:=λ p=>[.arr false 34 1 n (colF [.int .u64 (qD p)])],del:=[],ex:=0,pre:=prSd hi f lo d,ms:=mQ }
 | _=>none
def goalSd:Prop:=∀ (nl:Bool) (n:Nat) (d:Nat->Int) (lo hi f:Int),preSd n lo hi f=true →
 wxH Try.prog (smL lLs) (annSd n hi f lo d) 100 [.mut 34 [.int .u64],.sc,.sc,.sc] [.rows nl n [.int .u64 d],.v (.y .i64 lo),.v (.y .i64 hi),.v (.y .i64 f)] (.tup []) (.l []) [[.rows nl n [.int .u64 (sdW hi f lo d)]]]
def goalSd_0 (i:QI):=yWrap .i64 (yAdd (yWrap .i64 (yMul 2 (qI i))) 1)
def goalSd_2 (f:Int)(i:QI):=yNadd 0 (yNat (yWrap .i64 (yAdd f (qI i))))
def goalSd_4 (f:Int)(i:QI):=yNadd 0 (yNat (yWrap .i64 (yAdd f (goalSd_0 i))))
def goalSd_1 (f:Int)(i:QI)(n:Nat)(hi:Int)(lo:Int)(d:Nat->Int):=mst (yNlt (goalSd_2 f i) n) (mst (yIn (yWrap .i64 (yAdd f (goalSd_0 i))) n) (mst (yNlt (goalSd_4 f i) n) (mst (true) ((yNot (yLt (qD i (goalSd_2 f i)) (qD i (goalSd_4 f i)))=true->n=n/\(∀ (i_1:Nat),Nat.succ i_1<=n->sdW hi f lo d i_1=qD i i_1/\True)/\true=true)/\(yNot (yLt (qD i (goalSd_2 f i)) (qD i (goalSd_4 f i)))=false->mst (yIn (yWrap .i64 (yAdd f (goalSd_0 i))) n) (mst (yNlt (goalSd_4 f i) n) (mst (yIn (yWrap .i64 (yAdd f (qI i))) n) (mst (yNlt (goalSd_2 f i) n) (mst (yIn (yWrap .i64 (yAdd f (qI i))) n) (mst (yNlt (goalSd_2 f i) n) (mst (yIn (yWrap .i64 (yAdd f (goalSd_0 i))) n) (mst (yNlt (goalSd_4 f i) n) (true=true/\∃ (i':QI),prSd hi f lo d i'/\Nat.succ (mQ i')<=mQ i/\true=true/\qI i'=yWrap .i64 (yAdd (yWrap .i64 (yMul 2 (qI i))) 1)/\n=n/\(∀ (i_1:Nat),Nat.succ i_1<=n->qD i' i_1=ySel (yNeq i_1 (goalSd_4 f i)) (qD i (goalSd_2 f i)) (ySel (yNeq i_1 (goalSd_2 f i)) (qD i (goalSd_4 f i)) (qD i i_1))/\True)/\true=true)))))))))))))
def goalSd_3 (f:Int)(i:QI):=yWrap .i64 (yAdd f (yWrap .i64 (yAdd (goalSd_0 i) 1)))
def goalSd_5 (f:Int)(i:QI):=yWrap .i64 (yAdd (yWrap .i64 (yAdd f (goalSd_0 i))) 1)
def goalSdV:Prop:=(∀ (nl:Bool) (n:Nat) (d:Nat->Int) (lo hi f:Int),preSd n lo hi f=true->true=true/\(∃ (i0:QI),prSd hi f lo d i0/\true=true/\qI i0=lo/\n=n/\(∀ (i:Nat),Nat.succ i<=n->qD i0 i=d i/\True)/\true=true)/\∀ (g:Nat->AV) (i:QI),prSd hi f lo d i->(yLe hi (goalSd_0 i)=true->n=n/\(∀ (i_1:Nat),Nat.succ i_1<=n->sdW hi f lo d i_1=qD i i_1/\True)/\true=true)/\(yLe hi (goalSd_0 i)=false->(yLt (yWrap .i64 (yAdd (goalSd_0 i) 1)) hi=true->mst (yIn (yWrap .i64 (yAdd f (goalSd_0 i))) n) (mst (yNlt (goalSd_4 f i) n) (mst (yIn (goalSd_5 f i) n) (mst (yNlt (yNadd 0 (yNat (goalSd_5 f i))) n) (mst (true) ((yLt (qD i (goalSd_4 f i)) (qD i (yNadd 0 (yNat (goalSd_5 f i))))=true->mst (yIn (yWrap .i64 (yAdd f (qI i))) n) (mst (yNlt (goalSd_2 f i) n) (mst (yIn (goalSd_3 f i) n) (mst (yNlt (yNadd 0 (yNat (goalSd_3 f i))) n) (mst (true) ((yNot (yLt (qD i (goalSd_2 f i)) (qD i (yNadd 0 (yNat (goalSd_3 f i)))))=true->n=n/\(∀ (i_1:Nat),Nat.succ i_1<=n->sdW hi f lo d i_1=qD i i_1/\True)/\true=true)/\(yNot (yLt (qD i (goalSd_2 f i)) (qD i (yNadd 0 (yNat (goalSd_3 f i)))))=false->mst (yIn (goalSd_3 f i) n) (mst (yNlt (yNadd 0 (yNat (goalSd_3 f i))) n) (mst (yIn (yWrap .i64 (yAdd f (qI i))) n) (mst (yNlt (goalSd_2 f i) n) (mst (yIn (yWrap .i64 (yAdd f (qI i))) n) (mst (yNlt (goalSd_2 f i) n) (mst (yIn (goalSd_3 f i) n) (mst (yNlt (yNadd 0 (yNat (goalSd_3 f i))) n) (true=true/\∃ (i':QI),prSd hi f lo d i'/\Nat.succ (mQ i')<=mQ i/\true=true/\qI i'=yWrap .i64 (yAdd (goalSd_0 i) 1)/\n=n/\(∀ (i_1:Nat),Nat.succ i_1<=n->qD i' i_1=ySel (yNeq i_1 (yNadd 0 (yNat (goalSd_3 f i)))) (qD i (goalSd_2 f i)) (ySel (yNeq i_1 (goalSd_2 f i)) (qD i (yNadd 0 (yNat (goalSd_3 f i)))) (qD i i_1))/\True)/\true=true)))))))))))))))/\(yLt (qD i (goalSd_4 f i)) (qD i (yNadd 0 (yNat (goalSd_5 f i))))=false->mst (yIn (yWrap .i64 (yAdd f (qI i))) n) (goalSd_1 f i n hi lo d))))))))/\(yLt (yWrap .i64 (yAdd (goalSd_0 i) 1)) hi=false->mst (yIn (yWrap .i64 (yAdd f (qI i))) n) (goalSd_1 f i n hi lo d))))
theorem goalSd_eq:goalSd=goalSdV:=by kernel_rfl
set_option maxHeartbeats 8000000 in
theorem goalSd_vc:goalSdV:=by
 unfold goalSdV goalSd_5 goalSd_3 goalSd_1 goalSd_4 goalSd_2 goalSd_0
 intro nl n d lo hi f hp
 obtain ⟨p1,p2,p3,p4,p5⟩:=of_decide_eq_true hp
 refine ⟨rfl,⟨⟨⟨lo,0,d⟩,_⟩,prQ_in ⟨p2,p3⟩ (by show (hi - lo).toNat<=_;omega),rfl,rfl,rfl,λ q _=>⟨rfl,trivial⟩,rfl⟩,λ g p hq=>?_⟩
 obtain ⟨i1,i2⟩:=hq.1
 simp (config:={contextual:=true}) (disch:=omega) only [qS,goalSd_0,goalSd_1,goalSd_2,goalSd_3,goalSd_4,goalSd_5]
 have stop:∀ c:Int,sdC hi f p.s=c->(hi<=2 * p.s.i + 1 ∨ ¬ p.s.d (f + p.s.i).toNat < p.s.d (f + c).toNat)->∀ q:Nat,q < n->sdW hi f lo d q=p.s.d q:=λ c e h q _=>by
  have h9:=prQ_out hq (decide_eq_false (by rw [e];omega))
  show (whQ (sdB hi f) (sdF hi f) hi.toNat ⟨lo,0,d⟩).d q=_
  rw [h9]
 have go:∀ c:Int,sdC hi f p.s=c->2 * p.s.i + 1<=c->c < hi->p.s.d (f + p.s.i).toNat < p.s.d (f + c).toNat->∃ i',prSd hi f lo d i'/\mQ i' < mQ p/\i'.s.i=c/\∀ q:Nat,q < n->i'.s.d q=if q=(f + c).toNat then p.s.d (f + p.s.i).toNat else if q=(f + p.s.i).toNat then p.s.d (f + c).toNat else p.s.d q:=λ c e h1 h2 h=>by
  have e1:sdF hi f p.s=⟨c,0,swI p.s.d (f + p.s.i) (f + c)⟩:=by unfold sdF;rw [e]
  have h9:=prQ_go hq (decide_eq_true ⟨by omega,by rw [e];exact h⟩) (by rw [e1];exact ⟨show 0<=c by omega,show c<=hi by omega⟩) (by rw [e1];show (hi - c).toNat < (hi - p.s.i).toNat;omega)
  rw [e1] at h9
  exact ⟨_,h9.1,h9.2,rfl,λ q _=>rfl⟩
 have cA:∀ (_:2 * p.s.i + 1 + 1 < hi) (_:p.s.d (f + (2 * p.s.i + 1)).toNat < p.s.d (f + (2 * p.s.i + 1) + 1).toNat),sdC hi f p.s=2 * p.s.i + 1 + 1:=λ a b=>if_pos ⟨a,b⟩
 have cB:¬ (2 * p.s.i + 1 + 1 < hi/\p.s.d (f + (2 * p.s.i + 1)).toNat < p.s.d (f + (2 * p.s.i + 1) + 1).toNat)->sdC hi f p.s=2 * p.s.i + 1:=λ a=>if_neg a
 exact ⟨λ h=>stop _ rfl (Or.inl h),λ h0=>⟨λ h1=>⟨λ h2=>⟨λ h=>stop _ (cA h1 h2) (Or.inr h),λ h=>go _ (cA h1 h2) (by omega) h1 h⟩,λ h2=>⟨λ h=>stop _ (cB λ x=>h2 x.2) (Or.inr h),λ h=>go _ (cB λ x=>h2 x.2) (by omega) (by omega) h⟩⟩,λ h1=>⟨λ h=>stop _ (cB λ x=>h1 x.1) (Or.inr h),λ h=>go _ (cB λ x=>h1 x.1) (by omega) (by omega) h⟩⟩⟩
theorem goalSd_tt:(goalSd)=True:=goalSd_eq.trans (eq_true goalSd_vc)
theorem goalSd_ok:goalSd:=@ft' goalSd goalSd_tt
def fSd (ds:List Dx):Option (Bool × Dx × List (List Dx)):=
 match ds with
 | [.rows nl n [.int .u64 d],.v (.y .i64 lo),.v (.y .i64 hi),.v (.y .i64 f)]=>some (preSd n lo hi f,.l [],[[.rows nl n [.int .u64 (sdW hi f lo d)]]])
 | _=>none
theorem smSd (hm:Try.prog.follows .mixedOrders=true)(hs:SmOK Try.prog (smL lLs)):SmCall Try.prog 100 (λ args h=>(ctX [.mut 34 [.int .u64],.sc,.sc,.sc] (.tup []) fSd args h).sel):=
 ctX_ok hm hs (λ ds r post h=>by
  unfold fSd at h
  split at h
  . rename_i nl n d lo hi f
    simp only [sI,Prod.mk.injEq] at h
    obtain ⟨h1,rfl,rfl⟩:=h
    have h2:=@goalSd_ok
    unfold goalSd at h2
    exact ⟨annSd n hi f lo d,1000,@h2 nl n d lo hi f h1⟩
  . cases h)
abbrev mU:Sx:=.mut 34 [.int .u64]
def lHsp:List (Nat × Sm):=[(100,.ct (ctX [mU,.sc,.sc,.sc] (.tup []) fSd))]
def hspB (s:QS):Bool:=decide (0<=s.i)
def hsF0 (a hi:Int)(s:QS):QS:=⟨s.i - 1,0,sdW hi a s.i s.d⟩
def hsF1 (a:Int)(s:QS):QS:=⟨s.i - 1,0,sdW s.i a 0 (swI s.d a (a + s.i))⟩
def hsW0 (a b:Int)(d:Nat->Int):QS:=whQ hspB (hsF0 a (b - a)) (b - a).toNat ⟨(b - a - 1) / 2,0,d⟩
def hsW1 (a b:Int)(d:Nat->Int):QS:=whQ hspB (hsF1 a) (b - a).toNat ⟨b - a - 1,0,(hsW0 a b d).d⟩
def hsW (a b:Int)(d:Nat->Int):Nat->Int:=(hsW1 a b d).d
def prH0 (a b:Int)(d:Nat->Int)(p:QI):Prop:=prQ (λ s=>-1<=s.i/\s.i<=(b - a - 1) / 2) (λ s=>(s.i + 1).toNat) hspB (hsF0 a (b - a)) (hsW0 a b d) p
def prH1 (a b:Int)(d:Nat->Int)(p:QI):Prop:=prQ (λ s=>-1<=s.i/\s.i<=b - a - 1) (λ s=>(s.i + 1).toNat) hspB (hsF1 a) (hsW1 a b d) p
def preHsp (n:Nat)(a b:Int):Bool:=decide (n<=1000000/\0<=a/\a < b/\b<=n)
def annHsp (n:Nat)(a b:Int)(d:Nat->Int)(x:Nat):Option (St->LoopA):=
 match x with
 | 0=>some λ _=>{ ι:=QI,tms:=[9],tmU:=λ p=>[.y .i64 (qI p)],ids:=[0],hpU:=λ p=>[.arr false 34 1 n (colF [.int .u64 (qD p)])],del:=[],ex:=0,pre:=prH0 a b d,ms:=mQ }
 | 1=>some λ _=>{ ι:=QI,tms:=[10],tmU:=λ p=>[.y .i64 (qI p)],ids:=[0],hpU:=λ p=>[.arr false 34 1 n (colF [.int .u64 (qD p)])],del:=[],ex:=2,pre:=prH1 a b d,ms:=mQ }
 | _=>none
def goalHsp:Prop:=∀ (nl:Bool) (n:Nat) (d:Nat->Int) (a b:Int),preHsp n a b=true →
 wxH Try.prog (smL lHsp) (annHsp n a b d) 84 [mU,.sc,.sc] [.rows nl n [.int .u64 d],.v (.y .i64 a),.v (.y .i64 b)] (.tup []) (.l []) [[.rows nl n [.int .u64 (hsW a b d)]]]
def goalHsp_0 (a:Int)(i:QI):=yNadd 0 (yNat (yWrap .i64 (yAdd a (qI i))))
def goalHspV:Prop:=(∀ (nl:Bool) (n:Nat) (d:Nat->Int) (a b:Int),preHsp n a b=true->(yEq 2 (0:Int)=true->False)/\(yEq 2 (0:Int)=false->true=true/\(∃ (i0:QI),prH0 a b d i0/\true=true/\qI i0=yQuo .i64 (yWrap .i64 (ySub (yWrap .i64 (ySub b a)) 1)) 2/\n=n/\(∀ (i:Nat),Nat.succ i<=n->qD i0 i=d i/\True)/\true=true)/\∀ (g:Nat->AV) (i:QI),prH0 a b d i->(yLe 0 (qI i)=true->mst (yNeq 0 0) (mst (yNeq n n) (mst (yCol (CK.int .u64) n λ (i_1:Nat)=>AV.y .u64 (qD i i_1)) (mst (preSd n (qI i) (yWrap .i64 (ySub b a)) a) (true=true/\∃ (i':QI),prH0 a b d i'/\Nat.succ (mQ i')<=mQ i/\true=true/\qI i'=yWrap .i64 (ySub (qI i) 1)/\n=n/\(∀ (i_1:Nat),Nat.succ i_1<=n->qD i' i_1=sdW (yWrap .i64 (ySub b a)) a (qI i) (qD i) i_1/\True)/\true=true)))))/\(yLe 0 (qI i)=false->true=true/\(∃ (i0:QI),prH1 a b d i0/\true=true/\qI i0=yWrap .i64 (ySub (yWrap .i64 (ySub b a)) 1)/\n=n/\(∀ (i_1:Nat),Nat.succ i_1<=n->qD i0 i_1=qD i i_1/\True)/\true=true)/\∀ (g:Nat->AV) (i:QI),prH1 a b d i->(yLe 0 (qI i)=true->mst (yIn (yWrap .i64 (yAdd a (qI i))) n) (mst (yNlt (goalHsp_0 a i) n) (mst (yIn a n) (mst (yNlt (yNadd 0 (yNat a)) n) (mst (yIn a n) (mst (yNlt (yNadd 0 (yNat a)) n) (mst (yIn (yWrap .i64 (yAdd a (qI i))) n) (mst (yNlt (goalHsp_0 a i) n) (mst (yNeq 0 0) (mst (yNeq n n) (mst (yCol (CK.int .u64) n λ (i_1:Nat)=>AV.y .u64 (ySel (yNeq i_1 (goalHsp_0 a i)) (qD i (yNadd 0 (yNat a))) (ySel (yNeq i_1 (yNadd 0 (yNat a))) (qD i (goalHsp_0 a i)) (qD i i_1)))) (mst (preSd n 0 (qI i) a) (true=true/\∃ (i':QI),prH1 a b d i'/\Nat.succ (mQ i')<=mQ i/\true=true/\qI i'=yWrap .i64 (ySub (qI i) 1)/\n=n/\(∀ (i_1:Nat),Nat.succ i_1<=n->qD i' i_1=sdW (qI i) a 0 (λ (i_2:Nat)=>ySel (yNeq i_2 (goalHsp_0 a i)) (qD i (yNadd 0 (yNat a))) (ySel (yNeq i_2 (yNadd 0 (yNat a))) (qD i (goalHsp_0 a i)) (qD i i_2))) i_1/\True)/\true=true)))))))))))))/\(yLe 0 (qI i)=false->n=n/\(∀ (i_1:Nat),Nat.succ i_1<=n->hsW a b d i_1=qD i i_1/\True)/\true=true))))
theorem goalHsp_eq:goalHsp=goalHspV:=by kernel_rfl
set_option maxHeartbeats 8000000 in
theorem goalHsp_vc:goalHspV:=by
 unfold goalHspV goalHsp_0
 intro nl n d a b hp
 obtain ⟨p1,p2,p3,p4⟩:=of_decide_eq_true hp
 simp (config:={contextual:=true}) (disch:=omega) only [qS,goalHsp_0]
 refine ⟨⟨⟨⟨(b - a - 1) / 2,0,d⟩,_⟩,prQ_in ⟨show -1<=(b - a - 1) / 2 by omega,Int.le_refl _⟩ (by show ((b - a - 1) / 2 + 1).toNat<=(b - a).toNat;omega),rfl,λ q _=>rfl⟩,λ g p hq=>?_⟩
 obtain ⟨i1,i2⟩:=hq.1
 simp (config:={contextual:=true}) (disch:=omega) only [qS,preSd_t]
 refine ⟨λ h=>?_,λ h=>⟨⟨⟨⟨b - a - 1,0,p.s.d⟩,(b - a).toNat⟩,?_,rfl,λ q _=>rfl⟩,λ g' p' hq'=>?_⟩⟩
 . have h9:=prQ_go hq (decide_eq_true h) ⟨show -1<=p.s.i - 1 by omega,show p.s.i - 1<=(b - a - 1) / 2 by omega⟩ (by show (p.s.i - 1 + 1).toNat < (p.s.i + 1).toNat;omega)
   exact ⟨_,h9.1,h9.2,rfl,λ q _=>rfl⟩
 . have h9:hsW0 a b d=p.s:=prQ_out hq (decide_eq_false h)
   show prQ _ _ _ _ (whQ hspB (hsF1 a) (b - a).toNat ⟨b - a - 1,0,(hsW0 a b d).d⟩) _
   rw [h9]
   exact prQ_in ⟨show -1<=b - a - 1 by omega,Int.le_refl _⟩ (by show (b - a - 1 + 1).toNat<=(b - a).toNat;omega)
 . obtain ⟨j1,j2⟩:=hq'.1
   simp (config:={contextual:=true}) (disch:=omega) only [qS,preSd_t]
   refine ⟨λ h=>?_,λ h q _=>?_⟩
   . have h9:=prQ_go hq' (decide_eq_true h) ⟨show -1<=p'.s.i - 1 by omega,show p'.s.i - 1<=b - a - 1 by omega⟩ (by show (p'.s.i - 1 + 1).toNat < (p'.s.i + 1).toNat;omega)
     exact ⟨_,h9.1,h9.2,rfl,λ q _=>rfl⟩
   . show (hsW1 a b d).d q=_
     rw [show hsW1 a b d=p'.s from prQ_out hq' (decide_eq_false h)]
theorem goalHsp_tt:(goalHsp)=True:=goalHsp_eq.trans (eq_true goalHsp_vc)
theorem goalHsp_ok:goalHsp:=@ft' goalHsp goalHsp_tt
def fHs' (ds:List Dx):Option (Bool × Dx × List (List Dx)):=
 match ds with
 | [.rows nl n [.int .u64 d],.v (.y .i64 a),.v (.y .i64 b)]=>some (preHsp n a b,.l [],[[.rows nl n [.int .u64 (hsW a b d)]]])
 | _=>none
theorem smHsP (hm:Try.prog.follows .mixedOrders=true)(hs:SmOK Try.prog (smL lHsp)):SmCall Try.prog 84 (λ args h=>(ctX [mU,.sc,.sc] (.tup []) fHs' args h).sel):=
 ctX_ok hm hs (λ ds r post h=>by
  unfold fHs' at h
  split at h
  . rename_i nl n d a b
    simp only [sI,Prod.mk.injEq] at h
    obtain ⟨h1,rfl,rfl⟩:=h
    have h2:=@goalHsp_ok
    unfold goalHsp at h2
    exact ⟨annHsp n a b d,1000,@h2 nl n d a b h1⟩
  . cases h)
abbrev sPz:Sx:=.pl [.int .u64]
abbrev sSw:Sx:=.ptr 3 [.sc]
def o2X (d:Nat->Int)(x y:Int):Int:=if d y.toNat < d x.toNat then y else x
def o2Y (d:Nat->Int)(x y:Int):Int:=if d y.toNat < d x.toNat then x else y
def o2S (d:Nat->Int)(x y s:Int):Int:=if d y.toNat < d x.toNat then s + 1 else s
def preO (n:Nat)(x y s:Int):Bool:=decide (n<=1000000/\0<=x/\x < n/\0<=y/\y < n/\0<=s/\s<=1000)
def goalO2:Prop:=∀ (nl:Bool) (n:Nat) (d:Nat->Int) (x y s:Int),preO n x y s=true →
 wxH Try.prog (smL lLs) (λ _=>none) 114 [sPz,.sc,.sc,sSw] [.rows nl n [.int .u64 d],.v (.y .i64 x),.v (.y .i64 y),.l [.v (.y .i64 s)]] (.tup [.sc,.sc]) (.l [.v (.y .i64 (o2X d x y)),.v (.y .i64 (o2Y d x y))]) [[.v (.y .i64 (o2S d x y s))]]
def goalO2V:Prop:=(∀ (nl:Bool) (n:Nat) (d:Nat->Int) (x y s:Int),preO n x y s=true->mst (yIn y n) (mst (yIn x n) (mst (true) ((yLt (d (yNat y)) (d (yNat x))=true->o2X d x y=y/\o2Y d x y=x/\o2S d x y s=yWrap .i64 (yAdd s 1)/\true=true)/\(yLt (d (yNat y)) (d (yNat x))=false->o2X d x y=x/\o2Y d x y=y/\o2S d x y s=s/\true=true)))))
theorem goalO2_eq:goalO2=goalO2V:=by kernel_rfl
set_option maxHeartbeats 8000000 in
theorem goalO2_vc:goalO2V:=by
 unfold goalO2V
 intro nl n d x y s hp
 obtain ⟨p1,p2,p3,p4,p5,p6,p7⟩:=of_decide_eq_true hp
 simp (config:={contextual:=true}) (disch:=omega) only [qS]
 refine ⟨λ h=>⟨if_pos h,if_pos h,if_pos h⟩,λ h=>⟨if_neg h,if_neg h,if_neg h⟩⟩
theorem goalO2_tt:(goalO2)=True:=goalO2_eq.trans (eq_true goalO2_vc)
theorem goalO2_ok:goalO2:=@ft' goalO2 goalO2_tt
theorem preO_t {n:Nat}{x y s:Int}(h1:n<=1000000)(h2:0<=x)(h3:x < n)(h4:0<=y)(h5:y < n)(h6:0<=s)(h7:s<=1000):preO n x y s=true:=decide_eq_true ⟨h1,h2,h3,h4,h5,h6,h7⟩
theorem o2_in (d:Nat->Int)(x y s:Int):(o2X d x y=x ∨ o2X d x y=y)/\(o2Y d x y=x ∨ o2Y d x y=y)/\s<=o2S d x y s/\o2S d x y s<=s + 1:=by
 unfold o2X o2Y o2S
 split <;> simp <;> omega
def fO2 (ds:List Dx):Option (Bool × Dx × List (List Dx)):=
 match ds with
 | [.rows _ n [.int .u64 d],.v (.y .i64 x),.v (.y .i64 y),.l [.v (.y .i64 s)]]=>some (preO n x y s,.l [.v (.y .i64 (o2X d x y)),.v (.y .i64 (o2Y d x y))],[[.v (.y .i64 (o2S d x y s))]])
 | _=>none
def lO2:List (Nat × Sm):=[(114,.ct (ctX [sPz,.sc,.sc,sSw] (.tup [.sc,.sc]) fO2))]
def mdV (d:Nat->Int)(x y z:Int):Int:=o2Y d (o2X d x y) (o2X d (o2Y d x y) z)
def mdS (d:Nat->Int)(x y z s:Int):Int:=o2S d (o2X d x y) (o2X d (o2Y d x y) z) (o2S d (o2Y d x y) z (o2S d x y s))
def preMn (n:Nat)(x y z s:Int):Bool:=decide (n<=1000000/\0<=x/\x < n/\0<=y/\y < n/\0<=z/\z < n/\0<=s/\s<=900)
def goalMd3:Prop:=∀ (nl:Bool) (n:Nat) (d:Nat->Int) (x y z s:Int),preMn n x y z s=true →
 wxH Try.prog (smL lO2) (λ _=>none) 104 [sPz,.sc,.sc,.sc,sSw] [.rows nl n [.int .u64 d],.v (.y .i64 x),.v (.y .i64 y),.v (.y .i64 z),.l [.v (.y .i64 s)]] .sc (.v (.y .i64 (mdV d x y z))) [[.v (.y .i64 (mdS d x y z s))]]
def goalMd3V:Prop:=(∀ (nl:Bool) (n:Nat) (d:Nat->Int) (x y z s:Int),preMn n x y z s=true->mst (yCol (CK.int .u64) n λ (i:Nat)=>AV.y .u64 (d i)) (mst (preO n x y s) (mst (yCol (CK.int .u64) n λ (i:Nat)=>AV.y .u64 (d i)) (mst (preO n (o2Y d x y) z (o2S d x y s)) (mst (yCol (CK.int .u64) n λ (i:Nat)=>AV.y .u64 (d i)) (mst (preO n (o2X d x y) (o2X d (o2Y d x y) z) (o2S d (o2Y d x y) z (o2S d x y s))) (mdV d x y z=o2Y d (o2X d x y) (o2X d (o2Y d x y) z)/\mdS d x y z s=o2S d (o2X d x y) (o2X d (o2Y d x y) z) (o2S d (o2Y d x y) z (o2S d x y s))/\true=true)))))))
theorem goalMd3_eq:goalMd3=goalMd3V:=by kernel_rfl
set_option maxHeartbeats 8000000 in
theorem goalMd3_vc:goalMd3V:=by
 unfold goalMd3V
 intro nl n d x y z s hp
 obtain ⟨p1,p2,p3,p4,p5,p6,p7,p8,p9⟩:=of_decide_eq_true hp
 obtain ⟨a1,a2,a3,a4⟩:=o2_in d x y s
 obtain ⟨b1,b2,b3,b4⟩:=o2_in d (o2Y d x y) z (o2S d x y s)
 obtain ⟨c1,c2,c3,c4⟩:=o2_in d (o2X d x y) (o2X d (o2Y d x y) z) (o2S d (o2Y d x y) z (o2S d x y s))
 simp (config:={contextual:=true}) (disch:=omega) only [qS,preO_t]
 exact ⟨rfl,rfl⟩
theorem goalMd3_tt:(goalMd3)=True:=goalMd3_eq.trans (eq_true goalMd3_vc)
theorem goalMd3_ok:goalMd3:=@ft' goalMd3 goalMd3_tt
theorem preMn_t {n:Nat}{x y z s:Int}(h1:n<=1000000)(h2:0<=x)(h3:x < n)(h4:0<=y)(h5:y < n)(h6:0<=z)(h7:z < n)(h8:0<=s)(h9:s<=900):preMn n x y z s=true:=decide_eq_true ⟨h1,h2,h3,h4,h5,h6,h7,h8,h9⟩
theorem md_in (d:Nat->Int)(x y z s:Int):(mdV d x y z=x ∨ mdV d x y z=y ∨ mdV d x y z=z)/\s<=mdS d x y z s/\mdS d x y z s<=s + 3:=by
 obtain ⟨a1,a2,a3,a4⟩:=o2_in d x y s
 obtain ⟨b1,b2,b3,b4⟩:=o2_in d (o2Y d x y) z (o2S d x y s)
 obtain ⟨c1,c2,c3,c4⟩:=o2_in d (o2X d x y) (o2X d (o2Y d x y) z) (o2S d (o2Y d x y) z (o2S d x y s))
 unfold mdV mdS
 omega
def fMd3 (ds:List Dx):Option (Bool × Dx × List (List Dx)):=
 match ds with
 | [.rows _ n [.int .u64 d],.v (.y .i64 x),.v (.y .i64 y),.v (.y .i64 z),.l [.v (.y .i64 s)]]=>some (preMn n x y z s,.v (.y .i64 (mdV d x y z)),[[.v (.y .i64 (mdS d x y z s))]])
 | _=>none
def lMd3:List (Nat × Sm):=[(104,.ct (ctX [sPz,.sc,.sc,.sc,sSw] .sc fMd3))]
def cpT (d:Nat->Int)(l x:Int):Int:=if 50<=l then mdV d (x - 1) x (x + 1) else x
def cpV (d:Nat->Int)(l x s:Int):Int:=if 50<=l then mdS d (x - 1) x (x + 1) s else s
def cpI (a b:Int):Int:=a + (b - a) / 4 * 1
def cpJ (a b:Int):Int:=a + (b - a) / 4 * 2
def cpK (a b:Int):Int:=a + (b - a) / 4 * 3
def cpP (a b:Int)(d:Nat->Int):Int:=clI a (b - 1) (mdV d (cpT d (b - a) (cpI a b)) (cpT d (b - a) (cpJ a b)) (cpT d (b - a) (cpK a b)))
def cpS (a b:Int)(d:Nat->Int):Int:=mdS d (cpT d (b - a) (cpI a b)) (cpT d (b - a) (cpJ a b)) (cpT d (b - a) (cpK a b)) (cpV d (b - a) (cpK a b) (cpV d (b - a) (cpJ a b) (cpV d (b - a) (cpI a b) 0)))
def cpH (a b:Int)(d:Nat->Int):Int:=if cpS a b d=0 then 1 else if cpS a b d=12 then 2 else 0
def preHt (n:Nat)(a b:Int):Bool:=decide (n<=200/\0<=a/\a + 12 < b/\b<=n)
def goalCpv:Prop:=∀ (nl:Bool) (n:Nat) (d:Nat->Int) (a b:Int),preHt n a b=true →
 wxH Try.prog (smL lMd3) (λ _=>none) 86 [sPz,.sc,.sc] [.rows nl n [.int .u64 d],.v (.y .i64 a),.v (.y .i64 b)] (.tup [.sc,.sc]) (.l [.v (.y .i64 (cpP a b d)),.v (.y .i64 (cpH a b d))]) []
def goalCpv_3 (a:Int)(b:Int):=yWrap .i64 (yAdd a (yWrap .i64 (yMul (yQuo .i64 (yWrap .i64 (ySub b a)) 4) 3)))
def goalCpv_1 (a:Int)(b:Int):=yWrap .i64 (yAdd a (yWrap .i64 (yMul (yQuo .i64 (yWrap .i64 (ySub b a)) 4) 1)))
def goalCpv_2 (a:Int)(b:Int):=yWrap .i64 (yAdd a (yWrap .i64 (yMul (yQuo .i64 (yWrap .i64 (ySub b a)) 4) 2)))
def goalCpv_4 (d:Nat->Int)(a:Int)(b:Int):=mdS d (yWrap .i64 (ySub (goalCpv_2 a b) 1)) (goalCpv_2 a b) (yWrap .i64 (yAdd (goalCpv_2 a b) 1)) (mdS d (yWrap .i64 (ySub (goalCpv_1 a b) 1)) (goalCpv_1 a b) (yWrap .i64 (yAdd (goalCpv_1 a b) 1)) 0)
def goalCpv_5 (d:Nat->Int)(a:Int)(b:Int):=mdV d (yWrap .i64 (ySub (goalCpv_1 a b) 1)) (goalCpv_1 a b) (yWrap .i64 (yAdd (goalCpv_1 a b) 1))
def goalCpv_6 (d:Nat->Int)(a:Int)(b:Int):=mdV d (yWrap .i64 (ySub (goalCpv_2 a b) 1)) (goalCpv_2 a b) (yWrap .i64 (yAdd (goalCpv_2 a b) 1))
def goalCpv_7 (d:Nat->Int)(a:Int)(b:Int):=mdV d (yWrap .i64 (ySub (goalCpv_3 a b) 1)) (goalCpv_3 a b) (yWrap .i64 (yAdd (goalCpv_3 a b) 1))
def goalCpv_0 (d:Nat->Int)(a:Int)(b:Int):=mdS d (goalCpv_5 d a b) (goalCpv_6 d a b) (goalCpv_7 d a b) (mdS d (yWrap .i64 (ySub (goalCpv_3 a b) 1)) (goalCpv_3 a b) (yWrap .i64 (yAdd (goalCpv_3 a b) 1)) (goalCpv_4 d a b))
def goalCpv_8 (n:Nat)(d:Nat->Int):=yCol (CK.int .u64) n λ (i:Nat)=>AV.y .u64 (d i)
def goalCpvV:Prop:=(∀ (nl:Bool) (n:Nat) (d:Nat->Int) (a b:Int),preHt n a b=true->(yEq 4 (0:Int)=true->False)/\(yEq 4 (0:Int)=false->(yEq 4 (0:Int)=true->False)/\(yEq 4 (0:Int)=false->(yEq 4 (0:Int)=true->False)/\(yEq 4 (0:Int)=false->(yLe 8 (yWrap .i64 (ySub b a))=true->(yLe 50 (yWrap .i64 (ySub b a))=true->mst (goalCpv_8 n d) (mst (preMn n (yWrap .i64 (ySub (goalCpv_1 a b) 1)) (goalCpv_1 a b) (yWrap .i64 (yAdd (goalCpv_1 a b) 1)) 0) (mst (goalCpv_8 n d) (mst (preMn n (yWrap .i64 (ySub (goalCpv_2 a b) 1)) (goalCpv_2 a b) (yWrap .i64 (yAdd (goalCpv_2 a b) 1)) (mdS d (yWrap .i64 (ySub (goalCpv_1 a b) 1)) (goalCpv_1 a b) (yWrap .i64 (yAdd (goalCpv_1 a b) 1)) 0)) (mst (goalCpv_8 n d) (mst (preMn n (yWrap .i64 (ySub (goalCpv_3 a b) 1)) (goalCpv_3 a b) (yWrap .i64 (yAdd (goalCpv_3 a b) 1)) (goalCpv_4 d a b)) (mst (goalCpv_8 n d) (mst (preMn n (goalCpv_5 d a b) (goalCpv_6 d a b) (goalCpv_7 d a b) (mdS d (yWrap .i64 (ySub (goalCpv_3 a b) 1)) (goalCpv_3 a b) (yWrap .i64 (yAdd (goalCpv_3 a b) 1)) (goalCpv_4 d a b))) ((yEq (goalCpv_0 d a b) (0:Int)=true->cpP a b d=mdV d (goalCpv_5 d a b) (goalCpv_6 d a b) (goalCpv_7 d a b)/\cpH a b d=(1:Int)/\true=true)/\(yEq (goalCpv_0 d a b) (0:Int)=false->(yEq (goalCpv_0 d a b) (12:Int)=true->cpP a b d=mdV d (goalCpv_5 d a b) (goalCpv_6 d a b) (goalCpv_7 d a b)/\cpH a b d=(2:Int)/\true=true)/\(yEq (goalCpv_0 d a b) (12:Int)=false->cpP a b d=mdV d (goalCpv_5 d a b) (goalCpv_6 d a b) (goalCpv_7 d a b)/\cpH a b d=(0:Int)/\true=true)))))))))))/\(yLe 50 (yWrap .i64 (ySub b a))=false->mst (goalCpv_8 n d) (mst (preMn n (goalCpv_1 a b) (goalCpv_2 a b) (goalCpv_3 a b) 0) ((yEq (mdS d (goalCpv_1 a b) (goalCpv_2 a b) (goalCpv_3 a b) 0) (0:Int)=true->cpP a b d=mdV d (goalCpv_1 a b) (goalCpv_2 a b) (goalCpv_3 a b)/\cpH a b d=(1:Int)/\true=true)/\(yEq (mdS d (goalCpv_1 a b) (goalCpv_2 a b) (goalCpv_3 a b) 0) (0:Int)=false->(yEq (mdS d (goalCpv_1 a b) (goalCpv_2 a b) (goalCpv_3 a b) 0) (12:Int)=true->cpP a b d=mdV d (goalCpv_1 a b) (goalCpv_2 a b) (goalCpv_3 a b)/\cpH a b d=(2:Int)/\true=true)/\(yEq (mdS d (goalCpv_1 a b) (goalCpv_2 a b) (goalCpv_3 a b) 0) (12:Int)=false->cpP a b d=mdV d (goalCpv_1 a b) (goalCpv_2 a b) (goalCpv_3 a b)/\cpH a b d=(0:Int)/\true=true))))))/\(yLe 8 (yWrap .i64 (ySub b a))=false->cpP a b d=yWrap .i64 (yAdd a (yWrap .i64 (yMul (yQuo .i64 (yWrap .i64 (ySub b a)) 4) 2)))/\cpH a b d=(1:Int)/\true=true)))))
theorem goalCpv_eq:goalCpv=goalCpvV:=by kernel_rfl
set_option maxHeartbeats 8000000 in
theorem goalCpv_vc:goalCpvV:=by
 unfold goalCpvV goalCpv_8 goalCpv_0 goalCpv_7 goalCpv_6 goalCpv_5 goalCpv_4 goalCpv_2 goalCpv_1 goalCpv_3
 intro nl n d a b hp
 obtain ⟨p1,p2,p3,p4⟩:=of_decide_eq_true hp
 obtain ⟨e1,e2⟩:3<=(b - a) / 4/\4 * ((b - a) / 4)<=b - a:=by omega
 have m1:=md_in d (a + (b - a) / 4 * 1 - 1) (a + (b - a) / 4 * 1) (a + (b - a) / 4 * 1 + 1) 0
 have m2:=md_in d (a + (b - a) / 4 * 2 - 1) (a + (b - a) / 4 * 2) (a + (b - a) / 4 * 2 + 1) (mdS d (a + (b - a) / 4 * 1 - 1) (a + (b - a) / 4 * 1) (a + (b - a) / 4 * 1 + 1) 0)
 have m3:=md_in d (a + (b - a) / 4 * 3 - 1) (a + (b - a) / 4 * 3) (a + (b - a) / 4 * 3 + 1) (mdS d (a + (b - a) / 4 * 2 - 1) (a + (b - a) / 4 * 2) (a + (b - a) / 4 * 2 + 1) (mdS d (a + (b - a) / 4 * 1 - 1) (a + (b - a) / 4 * 1) (a + (b - a) / 4 * 1 + 1) 0))
 simp (config:={contextual:=true}) (disch:=omega) only [qS,goalCpv_0,goalCpv_1,goalCpv_2,goalCpv_3,goalCpv_4,goalCpv_5,goalCpv_6,goalCpv_7,goalCpv_8,preMn_t]
 have fin:∀ i j k s:Int,cpT d (b - a) (cpI a b)=i->cpT d (b - a) (cpJ a b)=j->cpT d (b - a) (cpK a b)=k->cpV d (b - a) (cpK a b) (cpV d (b - a) (cpJ a b) (cpV d (b - a) (cpI a b) 0))=s->a<=i/\i<=b - 1->a<=j/\j<=b - 1->a<=k/\k<=b - 1 →
  (mdS d i j k s=0->cpP a b d=mdV d i j k/\cpH a b d=1)/\(¬ mdS d i j k s=0->(mdS d i j k s=12->cpP a b d=mdV d i j k/\cpH a b d=2)/\(¬ mdS d i j k s=12->cpP a b d=mdV d i j k/\cpH a b d=0)):=λ i j k s h1 h2 h3 h4 h5 h6 h7=>by
  have h8:=md_in d i j k s
  have e:cpP a b d=mdV d i j k:=by
   unfold cpP
   rw [h1,h2,h3]
   exact clI_id (by omega) (by omega)
  have e':cpS a b d=mdS d i j k s:=by
   unfold cpS
   rw [h1,h2,h3,h4]
  unfold cpH
  rw [e']
  exact ⟨λ x=>⟨e,if_pos x⟩,λ x=>⟨λ y=>⟨e,(if_neg x).trans (if_pos y)⟩,λ y=>⟨e,(if_neg x).trans (if_neg y)⟩⟩⟩
 refine ⟨λ _=>⟨λ h=>?_,λ h=>?_⟩,λ h=>absurd (show 8<=b - a by omega) h⟩
 . have eT:∀ x,cpT d (b - a) x=mdV d (x - 1) x (x + 1):=λ x=>if_pos h
   have eV:∀ x s,cpV d (b - a) x s=mdS d (x - 1) x (x + 1) s:=λ x s=>if_pos h
   exact fin _ _ _ _ (eT _) (eT _) (eT _) (by rw [eV,eV,eV];rfl) (by show _<=mdV d (a + (b - a) / 4 * 1 - 1) _ _/\mdV d (a + (b - a) / 4 * 1 - 1) _ _<=_;omega) (by omega) (by omega)
 . have eT:∀ x,cpT d (b - a) x=x:=λ x=>if_neg h
   have eV:∀ x s,cpV d (b - a) x s=s:=λ x s=>if_neg h
   have h9:=fin _ _ _ _ (eT _) (eT _) (eT _) (by rw [eV,eV,eV]) (by unfold cpI;omega) (by unfold cpJ;omega) (by unfold cpK;omega)
   exact h9
theorem goalCpv_tt:(goalCpv)=True:=goalCpv_eq.trans (eq_true goalCpv_vc)
theorem goalCpv_ok:goalCpv:=@ft' goalCpv goalCpv_tt
def fCp (ds:List Dx):Option (Bool × Dx × List (List Dx)):=
 match ds with
 | [.rows _ n [.int .u64 d],.v (.y .i64 a),.v (.y .i64 b)]=>some (preHt n a b,.l [.v (.y .i64 (cpP a b d)),.v (.y .i64 (cpH a b d))],[])
 | _=>none
theorem smO2 (hm:Try.prog.follows .mixedOrders=true)(hs:SmOK Try.prog (smL lLs)):SmCall Try.prog 114 (λ args h=>(ctX [sPz,.sc,.sc,sSw] (.tup [.sc,.sc]) fO2 args h).sel):=
 ctX_ok hm hs (λ ds r post h=>by
  unfold fO2 at h
  split at h
  . rename_i nl n d x y s
    simp only [sI,Prod.mk.injEq] at h
    obtain ⟨h1,rfl,rfl⟩:=h
    have h2:=@goalO2_ok
    unfold goalO2 at h2
    exact ⟨λ _=>none,1000,@h2 nl n d x y s h1⟩
  . cases h)
theorem smMd3 (hm:Try.prog.follows .mixedOrders=true)(hs:SmOK Try.prog (smL lO2)):SmCall Try.prog 104 (λ args h=>(ctX [sPz,.sc,.sc,.sc,sSw] .sc fMd3 args h).sel):=
 ctX_ok hm hs (λ ds r post h=>by
  unfold fMd3 at h
  split at h
  . rename_i nl n d x y z s
    simp only [sI,Prod.mk.injEq] at h
    obtain ⟨h1,rfl,rfl⟩:=h
    have h2:=@goalMd3_ok
    unfold goalMd3 at h2
    exact ⟨λ _=>none,1000,@h2 nl n d x y z s h1⟩
  . cases h)
theorem smCp (hm:Try.prog.follows .mixedOrders=true)(hs:SmOK Try.prog (smL lMd3)):SmCall Try.prog 86 (λ args h=>(ctX [sPz,.sc,.sc] (.tup [.sc,.sc]) fCp args h).sel):=
 ctX_ok hm hs (λ ds r post h=>by
  unfold fCp at h
  split at h
  . rename_i nl n d a b
    simp only [sI,Prod.mk.injEq] at h
    obtain ⟨h1,rfl,rfl⟩:=h
    have h2:=@goalCpv_ok
    unfold goalCpv at h2
    exact ⟨λ _=>none,1000,@h2 nl n d a b h1⟩
  . cases h)
def lnF (x:Int):Int:=if x=0 then 0 else (Nat.log2 x.toNat:Int) + 1
def lnT:List UInt8:=[0,1,2,2,3,3,3,3,4,4,4,4,4,4,4,4,5,5,5,5,5,5,5,5,5,5,5,5,5,5,5,5,6,6,6,6,6,6,6,6,6,6,6,6,6,6,6,6,6,6,6,6,6,6,6,6,6,6,6,6,6,6,6,6,7,7,7,7,7,7,7,7,7,7,7,7,7,7,7,7,7,7,7,7,7,7,7,7,7,7,7,7,7,7,7,7,7,7,7,7,7,7,7,7,7,7,7,7,7,7,7,7,7,7,7,7,7,7,7,7,7,7,7,7,7,7,7,7,8,8,8,8,8,8,8,8,8,8,8,8,8,8,8,8,8,8,8,8,8,8,8,8,8,8,8,8,8,8,8,8,8,8,8,8,8,8,8,8,8,8,8,8,8,8,8,8,8,8,8,8,8,8,8,8,8,8,8,8,8,8,8,8,8,8,8,8,8,8,8,8,8,8,8,8,8,8,8,8,8,8,8,8,8,8,8,8,8,8,8,8,8,8,8,8,8,8,8,8,8,8,8,8,8,8,8,8,8,8,8,8,8,8,8,8,8,8,8,8,8,8,8,8,8,8,8,8]
def preLn (x:Int):Bool:=decide (0<=x/\x<=255)
def goalLn6:Prop:=∀ (x:Int),preLn x=true->wxH Try.prog noSm (λ _=>none) 66 [.sc] [.v (.y .u64 x)] .sc (.v (.y .i64 (lnF x))) []
theorem lnT_ok:(List.range 256).all (λ k=>decide (yByte lnT k=lnF (k:Nat)))=true:=by kernel_rfl
theorem lnT_at {k:Nat}(h:k < 256):yByte lnT k=lnF k:=of_decide_eq_true (List.all_eq_true.mp lnT_ok k (List.mem_range.mpr h))
theorem ln_in:(List.range 256).all (λ k=>decide (0<=lnF (k:Nat)/\lnF (k:Nat)<=8/\(k=0 ∨ 2 ^ (lnF (k:Nat)).toNat<=2 * k)))=true:=by kernel_rfl
theorem ln_at {x:Int}(h0:0<=x)(h1:x<=255):0<=lnF x/\lnF x<=8/\(x=0 ∨ 2 ^ (lnF x).toNat<=2 * x.toNat):=by
 obtain ⟨k,rfl⟩:=Int.eq_ofNat_of_zero_le h0
 have h2:=of_decide_eq_true (List.all_eq_true.mp ln_in k (List.mem_range.mpr (by omega)))
 exact ⟨h2.1,h2.2.1,h2.2.2.imp (λ h=>by omega) (λ h=>h)⟩
def goalLn6_0 :=yLen lnT
def goalLn6_1 (x:Int):=yShr .u64 (yShr .u64 x 32) 16
def goalLn6V:Prop:=(∀ (x:Int),preLn x=true->(yLe 4294967296 x=true->mst (yLe 0 32) ((yLe 65536 (yShr .u64 x 32)=true->mst (yLe 0 16) ((yLe 256 (goalLn6_1 x)=true->mst (yLe 0 8) (mst (yIn (yWrap .u8 (yShr .u64 (goalLn6_1 x) 8)) (goalLn6_0)) (lnF x=yWrap .i64 (yAdd 56 (yWrap .i64 (yByte lnT (yNat (yWrap .u8 (yShr .u64 (goalLn6_1 x) 8))))))/\true=true)))/\(yLe 256 (goalLn6_1 x)=false->mst (yIn (yWrap .u8 (goalLn6_1 x)) (goalLn6_0)) (lnF x=yWrap .i64 (yAdd 48 (yWrap .i64 (yByte lnT (yNat (yWrap .u8 (goalLn6_1 x))))))/\true=true))))/\(yLe 65536 (yShr .u64 x 32)=false->(yLe 256 (yShr .u64 x 32)=true->mst (yLe 0 8) (mst (yIn (yWrap .u8 (yShr .u64 (yShr .u64 x 32) 8)) (goalLn6_0)) (lnF x=yWrap .i64 (yAdd 40 (yWrap .i64 (yByte lnT (yNat (yWrap .u8 (yShr .u64 (yShr .u64 x 32) 8))))))/\true=true)))/\(yLe 256 (yShr .u64 x 32)=false->mst (yIn (yWrap .u8 (yShr .u64 x 32)) (goalLn6_0)) (lnF x=yWrap .i64 (yAdd 32 (yWrap .i64 (yByte lnT (yNat (yWrap .u8 (yShr .u64 x 32))))))/\true=true)))))/\(yLe 4294967296 x=false->(yLe 65536 x=true->mst (yLe 0 16) ((yLe 256 (yShr .u64 x 16)=true->mst (yLe 0 8) (mst (yIn (yWrap .u8 (yShr .u64 (yShr .u64 x 16) 8)) (goalLn6_0)) (lnF x=yWrap .i64 (yAdd 24 (yWrap .i64 (yByte lnT (yNat (yWrap .u8 (yShr .u64 (yShr .u64 x 16) 8))))))/\true=true)))/\(yLe 256 (yShr .u64 x 16)=false->mst (yIn (yWrap .u8 (yShr .u64 x 16)) (goalLn6_0)) (lnF x=yWrap .i64 (yAdd 16 (yWrap .i64 (yByte lnT (yNat (yWrap .u8 (yShr .u64 x 16))))))/\true=true))))/\(yLe 65536 x=false->(yLe 256 x=true->mst (yLe 0 8) (mst (yIn (yWrap .u8 (yShr .u64 x 8)) (goalLn6_0)) (lnF x=yWrap .i64 (yAdd 8 (yWrap .i64 (yByte lnT (yNat (yWrap .u8 (yShr .u64 x 8))))))/\true=true)))/\(yLe 256 x=false->mst (yIn (yWrap .u8 x) (goalLn6_0)) (lnF x=yWrap .i64 (yAdd 0 (yWrap .i64 (yByte lnT (yNat (yWrap .u8 x)))))/\true=true)))))
theorem goalLn6_eq:goalLn6=goalLn6V:=by kernel_rfl
set_option maxHeartbeats 8000000 in
theorem goalLn6_vc:goalLn6V:=by
 unfold goalLn6V goalLn6_1 goalLn6_0
 intro x hp
 obtain ⟨h0,h1⟩:=of_decide_eq_true hp
 refine ⟨λ h=>absurd (of_decide_eq_true h) (by omega),λ _=>⟨λ h=>absurd (of_decide_eq_true h) (by omega),λ _=>⟨λ h=>absurd (of_decide_eq_true h) (by omega),λ _=>?_⟩⟩⟩
 have w:yWrap .u8 x=x:=wrap_id _ _ (by simp only [negLim];omega) (by simp only [posLim];omega)
 rw [w]
 obtain ⟨k,rfl⟩:=Int.eq_ofNat_of_zero_le h0
 have b:=ln_at h0 h1
 refine mstI (decide_eq_true ⟨h0,show (k:Int) < (256:Nat) by omega⟩) ⟨?_,rfl⟩
 show _=yWrap .i64 (0 + yWrap .i64 (yByte lnT k))
 have e:yWrap .i64 (lnF (k:Nat))=lnF (k:Nat):=wrap64 (by omega) (by omega)
 rw [lnT_at (by omega),e,Int.zero_add,e]
theorem goalLn6_tt:(goalLn6)=True:=goalLn6_eq.trans (eq_true goalLn6_vc)
theorem goalLn6_ok:goalLn6:=@ft' goalLn6 goalLn6_tt
def fLn6 (ds:List Dx):Option (Bool × Dx × List (List Dx)):=
 match ds with
 | [.v (.y .u64 x)]=>some (preLn x,.v (.y .i64 (lnF x)),[])
 | _=>none
def lLn6:List (Nat × Sm):=[(66,.ct (ctX [.sc] .sc fLn6))]
def nxR (r:Int):Int:=
 let r1:=yBits .xor .u64 r (yShl .u64 r 13)
 let r2:=yBits .xor .u64 r1 (yShr .u64 r1 7)
 yBits .xor .u64 r2 (yShl .u64 r2 17)
def bpO (l r:Int):Int:=yBits .and .u64 (nxR r) (2 ^ (lnF l).toNat - 1)
def bpX (l r:Int):Int:=if l<=bpO l r then bpO l r - l else bpO l r
def bpB (a b:Int)(s:QS):Bool:=decide (s.i<=a + (b - a) / 4 * 2 + 1)
def bpF (a b:Int)(s:QS):QS:=⟨s.i + 1,nxR s.j,swI s.d s.i (a + bpX (b - a) s.j)⟩
def bpQ (a b:Int)(d:Nat->Int):QS:=whQ (bpB a b) (bpF a b) 3 ⟨a + (b - a) / 4 * 2 - 1,b - a,d⟩
def bpW (a b:Int)(d:Nat->Int):Nat->Int:=(bpQ a b d).d
def prBp (a b:Int)(d:Nat->Int)(p:QI):Prop:=prQ (λ s=>a + (b - a) / 4 * 2 - 1<=s.i/\s.i<=a + (b - a) / 4 * 2 + 2) (λ s=>(a + (b - a) / 4 * 2 + 2 - s.i).toNat) (bpB a b) (bpF a b) (bpQ a b d) p
def annBp (n:Nat)(a b:Int)(d:Nat->Int)(x:Nat):Option (St->LoopA):=
 match x with
 | 0=>some λ z=>{ ι:=QI,tms:=[9],tmU:=λ p=>[.y .i64 (qI p)],ids:=[0,ptZ z 7],hpU:=λ p=>[.arr false 34 1 n (colF [.int .u64 (qD p)]),.cells [.y .u64 (qJ p)] 174 none],del:=[],ex:=0,pre:=prBp a b d,ms:=mQ }
 | _=>none
def goalBp:Prop:=∀ (nl:Bool) (n:Nat) (d:Nat->Int) (a b:Int),preHt n a b=true →
 wxH Try.prog (smL lLn6) (annBp n a b d) 85 [mU,.sc,.sc] [.rows nl n [.int .u64 d],.v (.y .i64 a),.v (.y .i64 b)] (.tup []) (.l []) [[.rows nl n [.int .u64 (bpW a b d)]]]
theorem preLn_t {x:Int}(h0:0<=x)(h1:x<=255):preLn x=true:=decide_eq_true ⟨h0,h1⟩
theorem wrapUs {x:Int}(h0:0<=x)(h1:x<=9000000):yWrap .u64 x=x:=wrap_id _ _ (by simp only [negLim];omega) (by simp only [posLim];omega)
theorem shl_one {l:Int}(h0:0<=l)(h1:l<=8):yShl .u64 1 l=2 ^ l.toNat:=by
 have e:l.toNat=0 ∨ l.toNat=1 ∨ l.toNat=2 ∨ l.toNat=3 ∨ l.toNat=4 ∨ l.toNat=5 ∨ l.toNat=6 ∨ l.toNat=7 ∨ l.toNat=8:=by omega
 unfold yShl
 rcases e with e | e | e | e | e | e | e | e | e <;> rw [e] <;> rfl
theorem and_in (r:Int){m:Nat}(h:m<=1000):0<=yBits .and .u64 r (m:Nat)/\yBits .and .u64 r (m:Nat)<=m:=by
 have e:yBits .and .u64 r (m:Nat)=IntKind.wrap .u64 (((BitVec.ofInt 64 r &&& BitVec.ofInt 64 (m:Int)).toNat:Nat):Int):=rfl
 have l:(BitVec.ofInt 64 r &&& BitVec.ofInt 64 (m:Int)).toNat<=m:=by
  rw [BitVec.toNat_and]
  refine Nat.le_trans Nat.and_le_right ?_
  rw [BitVec.toNat_ofInt]
  omega
 rw [e,wrap_id _ _ (by simp only [negLim];omega) (by simp only [posLim];omega)]
 omega
theorem nxR_f (r:Int):yBits BinOp.xor .u64 (yBits BinOp.xor .u64 (yBits BinOp.xor .u64 r (yShl .u64 r 13)) (yShr .u64 (yBits BinOp.xor .u64 r (yShl .u64 r 13)) 7)) (yShl .u64 (yBits BinOp.xor .u64 (yBits BinOp.xor .u64 r (yShl .u64 r 13)) (yShr .u64 (yBits BinOp.xor .u64 r (yShl .u64 r 13)) 7)) 17)=nxR r:=rfl
def goalBp_1 (i:QI):=yBits BinOp.xor .u64 (yBits BinOp.xor .u64 (qJ i) (yShl .u64 (qJ i) 13)) (yShr .u64 (yBits BinOp.xor .u64 (qJ i) (yShl .u64 (qJ i) 13)) 7)
def goalBp_0 (i:QI)(b:Int)(a:Int):=yWrap .i64 (yBits BinOp.and .u64 (yBits BinOp.xor .u64 (goalBp_1 i) (yShl .u64 (goalBp_1 i) 17)) (yWrap .u64 (ySub (yShl .u64 1 (lnF (yWrap .u64 (yWrap .i64 (ySub b a))))) 1)))
def goalBp_2 (a:Int)(i:QI)(b:Int):=yWrap .i64 (yAdd a (yWrap .i64 (ySub (goalBp_0 i b a) (yWrap .i64 (ySub b a)))))
def goalBp_3 (a:Int)(b:Int):=yWrap .i64 (yAdd a (yWrap .i64 (yMul (yQuo .i64 (yWrap .i64 (ySub b a)) 4) 2)))
def goalBpV:Prop:=(∀ (nl:Bool) (n:Nat) (d:Nat->Int) (a b:Int),preHt n a b=true->(yLe 8 (yWrap .i64 (ySub b a))=true->mst (preLn (yWrap .u64 (yWrap .i64 (ySub b a)))) (mst (yLe 0 (lnF (yWrap .u64 (yWrap .i64 (ySub b a))))) ((yEq 4 (0:Int)=true->False)/\(yEq 4 (0:Int)=false->true=true/\(∃ (i0:QI),prBp a b d i0/\true=true/\qI i0=yWrap .i64 (ySub (goalBp_3 a b) 1)/\n=n/\(∀ (i:Nat),Nat.succ i<=n->qD i0 i=d i/\True)/\qJ i0=yWrap .u64 (yWrap .i64 (ySub b a))/\true=true)/\∀ (g:Nat->AV) (i:QI),prBp a b d i->(yEq 4 (0:Int)=true->False)/\(yEq 4 (0:Int)=false->(yLe (qI i) (yWrap .i64 (yAdd (goalBp_3 a b) 1))=true->mst (yLe 0 13) (mst (yLe 0 7) (mst (yLe 0 17) ((yLe (yWrap .i64 (ySub b a)) (goalBp_0 i b a)=true->mst (yIn (goalBp_2 a i b) n) (mst (yNlt (yNadd 0 (yNat (goalBp_2 a i b))) n) (mst (yIn (qI i) n) (mst (yNlt (yNadd 0 (yNat (qI i))) n) (mst (yIn (qI i) n) (mst (yNlt (yNadd 0 (yNat (qI i))) n) (mst (yIn (goalBp_2 a i b) n) (mst (yNlt (yNadd 0 (yNat (goalBp_2 a i b))) n) (true=true/\∃ (i':QI),prBp a b d i'/\Nat.succ (mQ i')<=mQ i/\true=true/\qI i'=yWrap .i64 (yAdd (qI i) 1)/\n=n/\(∀ (i_1:Nat),Nat.succ i_1<=n->qD i' i_1=ySel (yNeq i_1 (yNadd 0 (yNat (goalBp_2 a i b)))) (qD i (yNadd 0 (yNat (qI i)))) (ySel (yNeq i_1 (yNadd 0 (yNat (qI i)))) (qD i (yNadd 0 (yNat (goalBp_2 a i b)))) (qD i i_1))/\True)/\qJ i'=yBits BinOp.xor .u64 (goalBp_1 i) (yShl .u64 (goalBp_1 i) 17)/\true=true)))))))))/\(yLe (yWrap .i64 (ySub b a)) (goalBp_0 i b a)=false->mst (yIn (yWrap .i64 (yAdd a (goalBp_0 i b a))) n) (mst (yNlt (yNadd 0 (yNat (yWrap .i64 (yAdd a (goalBp_0 i b a))))) n) (mst (yIn (qI i) n) (mst (yNlt (yNadd 0 (yNat (qI i))) n) (mst (yIn (qI i) n) (mst (yNlt (yNadd 0 (yNat (qI i))) n) (mst (yIn (yWrap .i64 (yAdd a (goalBp_0 i b a))) n) (mst (yNlt (yNadd 0 (yNat (yWrap .i64 (yAdd a (goalBp_0 i b a))))) n) (true=true/\∃ (i':QI),prBp a b d i'/\Nat.succ (mQ i')<=mQ i/\true=true/\qI i'=yWrap .i64 (yAdd (qI i) 1)/\n=n/\(∀ (i_1:Nat),Nat.succ i_1<=n->qD i' i_1=ySel (yNeq i_1 (yNadd 0 (yNat (yWrap .i64 (yAdd a (goalBp_0 i b a)))))) (qD i (yNadd 0 (yNat (qI i)))) (ySel (yNeq i_1 (yNadd 0 (yNat (qI i)))) (qD i (yNadd 0 (yNat (yWrap .i64 (yAdd a (goalBp_0 i b a)))))) (qD i i_1))/\True)/\qJ i'=yBits BinOp.xor .u64 (goalBp_1 i) (yShl .u64 (goalBp_1 i) 17)/\true=true)))))))))))))/\(yLe (qI i) (yWrap .i64 (yAdd (goalBp_3 a b) 1))=false->n=n/\(∀ (i_1:Nat),Nat.succ i_1<=n->bpW a b d i_1=qD i i_1/\True)/\true=true))))))/\(yLe 8 (yWrap .i64 (ySub b a))=false->n=n/\(∀ (i:Nat),Nat.succ i<=n->bpW a b d i=d i/\True)/\true=true))
theorem goalBp_eq:goalBp=goalBpV:=by kernel_rfl
set_option maxHeartbeats 8000000 in
theorem goalBp_vc:goalBpV:=by
 unfold goalBpV goalBp_3 goalBp_2 goalBp_0 goalBp_1
 intro nl n d a b hp
 obtain ⟨p1,p2,p3,p4⟩:=of_decide_eq_true hp
 obtain ⟨e1,e2⟩:3<=(b - a) / 4/\4 * ((b - a) / 4)<=b - a:=by omega
 obtain ⟨l1,l2,l3⟩:=ln_at (x:=b - a) (by omega) (by omega)
 obtain ⟨m,hm,m1⟩:∃ m:Nat,(2:Int) ^ (lnF (b - a)).toNat - 1=(m:Nat)/\(m:Int) + 1<=2 * (b - a):=by
  refine ⟨2 ^ (lnF (b - a)).toNat - 1,?_,?_⟩ <;> (have h9:=Nat.two_pow_pos (lnF (b - a)).toNat;have h8:(2:Int) ^ (lnF (b - a)).toNat=((2 ^ (lnF (b - a)).toNat:Nat):Int):=by simp)
  . rw [h8];omega
  . omega
 simp (config:={contextual:=true}) (disch:=omega) only [qS,goalBp_0,goalBp_1,goalBp_2,goalBp_3,preLn_t,wrapUs,shl_one,nxR_f,hm]
 refine ⟨λ _=>⟨⟨⟨⟨a + (b - a) / 4 * 2 - 1,b - a,d⟩,3⟩,prQ_in ⟨Int.le_refl _,by show a + (b - a) / 4 * 2 - 1<=_;omega⟩ (by show (a + (b - a) / 4 * 2 + 2 - (a + (b - a) / 4 * 2 - 1)).toNat<=3;omega),rfl,λ q _=>rfl,rfl⟩,λ g p hq=>?_⟩,λ h=>absurd (show 8<=b - a by omega) h⟩
 obtain ⟨i1,i2⟩:=hq.1
 have hx:=and_in (nxR p.s.j) (m:=m) (by omega)
 have hb:bpO (b - a) p.s.j=yBits .and .u64 (nxR p.s.j) m:=by unfold bpO;rw [hm]
 generalize yBits .and .u64 (nxR p.s.j) m=x at hx hb ⊢
 simp (config:={contextual:=true}) (disch:=omega) only [qS]
 have go:∀ c:Int,bpX (b - a) p.s.j=c->p.s.i<=a + (b - a) / 4 * 2 + 1->∃ i',prBp a b d i'/\mQ i' < mQ p/\i'.s.i=p.s.i + 1/\(∀ q:Nat,q < n->i'.s.d q=if q=(a + c).toNat then p.s.d p.s.i.toNat else if q=p.s.i.toNat then p.s.d (a + c).toNat else p.s.d q)/\i'.s.j=nxR p.s.j:=λ c e h=>by
  have h9:=prQ_go hq (decide_eq_true h) ⟨show a + (b - a) / 4 * 2 - 1<=p.s.i + 1 by omega,show p.s.i + 1<=a + (b - a) / 4 * 2 + 2 by omega⟩ (by show (a + (b - a) / 4 * 2 + 2 - (p.s.i + 1)).toNat < (a + (b - a) / 4 * 2 + 2 - p.s.i).toNat;omega)
  refine ⟨_,h9.1,h9.2,rfl,λ q _=>?_,rfl⟩
  show swI p.s.d p.s.i (a + bpX (b - a) p.s.j) q=_
  rw [e];rfl
 refine ⟨λ h=>⟨λ h1=>go (x - (b - a)) ?_ h,λ h1=>go x ?_ h⟩,λ h q _=>?_⟩
 . unfold bpX;rw [hb];exact if_pos h1
 . unfold bpX;rw [hb];exact if_neg h1
 . show (bpQ a b d).d q=_
   rw [show bpQ a b d=p.s from prQ_out hq (decide_eq_false h)]
theorem goalBp_tt:(goalBp)=True:=goalBp_eq.trans (eq_true goalBp_vc)
theorem goalBp_ok:goalBp:=@ft' goalBp goalBp_tt
def fBp (ds:List Dx):Option (Bool × Dx × List (List Dx)):=
 match ds with
 | [.rows nl n [.int .u64 d],.v (.y .i64 a),.v (.y .i64 b)]=>some (preHt n a b,.l [],[[.rows nl n [.int .u64 (bpW a b d)]]])
 | _=>none
theorem smLn6 (hm:Try.prog.follows .mixedOrders=true):SmCall Try.prog 66 (λ args h=>(ctX [.sc] .sc fLn6 args h).sel):=
 ctX_ok hm noSm_ok (λ ds r post h=>by
  unfold fLn6 at h
  split at h
  . rename_i x
    simp only [sI,Prod.mk.injEq] at h
    obtain ⟨h1,rfl,rfl⟩:=h
    have h2:=@goalLn6_ok
    unfold goalLn6 at h2
    exact ⟨λ _=>none,1000,@h2 x h1⟩
  . cases h)
theorem smBp (hm:Try.prog.follows .mixedOrders=true)(hs:SmOK Try.prog (smL lLn6)):SmCall Try.prog 85 (λ args h=>(ctX [mU,.sc,.sc] (.tup []) fBp args h).sel):=
 ctX_ok hm hs (λ ds r post h=>by
  unfold fBp at h
  split at h
  . rename_i nl n d a b
    simp only [sI,Prod.mk.injEq] at h
    obtain ⟨h1,rfl,rfl⟩:=h
    have h2:=@goalBp_ok
    unfold goalBp at h2
    exact ⟨annBp n a b d,1000,@h2 nl n d a b h1⟩
  . cases h)
def gLt (d:Nat->Int)(a i:Int):Bool:=decide (d i.toNat < d a.toNat)
def gGe (d:Nat->Int)(a i:Int):Bool:=!decide (d i.toNat < d a.toNat)
def gNl (d:Nat->Int)(a i:Int):Bool:=!decide (d a.toNat < d i.toNat)
def gAl (d:Nat->Int)(a i:Int):Bool:=decide (d a.toNat < d i.toNat)
def suB (g:Int->Bool)(s:QS):Bool:=decide (s.i<=s.j) && g s.i
def suF (s:QS):QS:=⟨s.i + 1,s.j,s.d⟩
def sdnB (g:Int->Bool)(s:QS):Bool:=decide (s.i<=s.j) && g s.j
def sdnF (s:QS):QS:=⟨s.i,s.j - 1,s.d⟩
def suQ (g:Int->Bool)(i j:Int):QS:=whQ (suB g) suF (j + 1 - i).toNat ⟨i,j,λ _=>0⟩
def snQ (g:Int->Bool)(i j:Int):QS:=whQ (sdnB g) sdnF (j + 1 - i).toNat ⟨i,j,λ _=>0⟩
def prU (g:Int->Bool)(i j:Int)(p:QI):Prop:=prQ (λ s=>i<=s.i/\(s.i<=j + 1 ∨ s.i<=i)/\s.j=j) (λ s=>(j + 1 - s.i).toNat) (suB g) suF (suQ g i j) p
def prDn (g:Int->Bool)(i j:Int)(p:QI):Prop:=prQ (λ s=>s.j<=j/\(i<=s.j + 1 ∨ j<=s.j)/\s.i=i) (λ s=>(s.j + 1 - i).toNat) (sdnB g) sdnF (snQ g i j) p
theorem prU_in (g:Int->Bool)(i j:Int):∃ p,prU g i j p/\p.s.i=i:=⟨⟨⟨i,j,λ _=>0⟩,_⟩,prQ_in ⟨Int.le_refl _,Or.inr (Int.le_refl _),rfl⟩ (Nat.le_refl _),rfl⟩
theorem prU_go {g:Int->Bool}{i j:Int}{p:QI}(h:prU g i j p)(h1:p.s.i<=j)(h2:g p.s.i=true):∃ p',prU g i j p'/\mQ p' < mQ p/\p'.s.i=p.s.i + 1:=by
 obtain ⟨a1,a2,a3⟩:=h.1
 have h9:=prQ_go h (by show (decide (p.s.i<=p.s.j) && g p.s.i)=true;rw [a3,h2,decide_eq_true h1];rfl) ⟨show i<=p.s.i + 1 by omega,Or.inl (show p.s.i + 1<=j + 1 by omega),a3⟩ (by show (j + 1 - (p.s.i + 1)).toNat < (j + 1 - p.s.i).toNat;omega)
 exact ⟨_,h9.1,h9.2,rfl⟩
theorem prU_out {g:Int->Bool}{i j:Int}{p:QI}(h:prU g i j p)(h1:¬ p.s.i<=j ∨ g p.s.i=false):(suQ g i j).i=p.s.i/\i<=p.s.i/\(p.s.i<=j + 1 ∨ p.s.i<=i):=by
 obtain ⟨a1,a2,a3⟩:=h.1
 refine ⟨by rw [prQ_out h];show (decide (p.s.i<=p.s.j) && g p.s.i)=false;rw [a3];rcases h1 with h1 | h1 <;> simp [h1],a1,a2⟩
theorem prDn_in (g:Int->Bool)(i j:Int):∃ p,prDn g i j p/\p.s.j=j:=⟨⟨⟨i,j,λ _=>0⟩,_⟩,prQ_in ⟨Int.le_refl _,Or.inr (Int.le_refl _),rfl⟩ (Nat.le_refl _),rfl⟩
theorem prDn_go {g:Int->Bool}{i j:Int}{p:QI}(h:prDn g i j p)(h1:i<=p.s.j)(h2:g p.s.j=true):∃ p',prDn g i j p'/\mQ p' < mQ p/\p'.s.j=p.s.j - 1:=by
 obtain ⟨a1,a2,a3⟩:=h.1
 have h9:=prQ_go h (by show (decide (p.s.i<=p.s.j) && g p.s.j)=true;rw [a3,h2,decide_eq_true h1];rfl) ⟨show p.s.j - 1<=j by omega,Or.inl (show i<=p.s.j - 1 + 1 by omega),a3⟩ (by show (p.s.j - 1 + 1 - i).toNat < (p.s.j + 1 - i).toNat;omega)
 exact ⟨_,h9.1,h9.2,rfl⟩
theorem prDn_out {g:Int->Bool}{i j:Int}{p:QI}(h:prDn g i j p)(h1:¬ i<=p.s.j ∨ g p.s.j=false):(snQ g i j).j=p.s.j/\p.s.j<=j/\(i<=p.s.j + 1 ∨ j<=p.s.j):=by
 obtain ⟨a1,a2,a3⟩:=h.1
 refine ⟨by rw [prQ_out h];show (decide (p.s.i<=p.s.j) && g p.s.j)=false;rw [a3];rcases h1 with h1 | h1 <;> simp [h1],a1,a2⟩
def prePq (n:Nat)(a b p:Int):Bool:=decide (n<=1000000/\0<=a/\a < b/\b<=n/\a<=p/\p < b)
/- numbers that are like the pivot -/
def peI (a:Int)(s:QS):Int:=(suQ (gNl s.d a) s.i s.j).i
def peJ (a:Int)(s:QS):Int:=(snQ (gAl s.d a) (peI a s) s.j).j
def peB (a:Int)(s:QS):Bool:=decide (peI a s<=peJ a s)
def peF (a:Int)(s:QS):QS:=⟨peI a s + 1,peJ a s - 1,swI s.d (peI a s) (peJ a s)⟩
def peW (a b p:Int)(d:Nat->Int):QS:=whQ (peB a) (peF a) (b - a).toNat ⟨a + 1,b - 1,swI d a p⟩
def peM (a b p:Int)(d:Nat->Int):Int:=clI (a + 1) b (peI a (peW a b p d))
def peC (a b p:Int)(d:Nat->Int):Nat->Int:=(peW a b p d).d
def prPe (a b p:Int)(d:Nat->Int)(x:QI):Prop:=prQ (λ s=>a + 1<=s.i/\s.i<=b/\a<=s.j/\s.j<=b - 1) (λ s=>(s.j + 2 - s.i).toNat) (peB a) (peF a) (peW a b p d) x
def annPe (n:Nat)(a b p:Int)(d:Nat->Int)(x:Nat):Option (St->LoopA):=
 match x with
 | 0=>some λ _=>{ ι:=QI,tms:=[9,10],tmU:=λ p=>[.y .i64 (qI p),.y .i64 (qJ p)],ids:=[0],hpU:=λ p=>[.arr false 34 1 n (colF [.int .u64 (qD p)])],del:=[],ex:=0,pre:=prPe a b p d,ms:=mQ }
 | 1=>some λ z=>{ ι:=QI,tms:=[9],tmU:=λ p=>[.y .i64 (qI p)],ids:=[],hpU:=λ _=>[],del:=[],ex:=2,pre:=prU (gNl (hpD z 0) a) (tmZ z 9) (tmZ z 10),ms:=mQ }
 | 2=>some λ z=>{ ι:=QI,tms:=[10],tmU:=λ p=>[.y .i64 (qJ p)],ids:=[],hpU:=λ _=>[],del:=[],ex:=4,pre:=prDn (gAl (hpD z 0) a) (tmZ z 9) (tmZ z 10),ms:=mQ }
 | _=>none
def goalPe:Prop:=∀ (nl:Bool) (n:Nat) (d:Nat->Int) (a b p:Int),prePq n a b p=true →
 wxH Try.prog (smL lLs) (annPe n a b p d) 90 [mU,.sc,.sc,.sc] [.rows nl n [.int .u64 d],.v (.y .i64 a),.v (.y .i64 b),.v (.y .i64 p)] .sc (.v (.y .i64 (peM a b p d))) [[.rows nl n [.int .u64 (peC a b p d)]]]
def goalPe_0 (i_2:QI)(i_1:QI)(n:Nat)(a:Int)(b:Int)(p:Int)(d:Nat->Int)(i:QI):=yLt (qJ i_2) (qI i_1)=false->mst (yIn (qJ i_2) n) (mst (yNlt (yNadd 0 (yNat (qJ i_2))) n) (mst (yIn (qI i_1) n) (mst (yNlt (yNadd 0 (yNat (qI i_1))) n) (mst (yIn (qI i_1) n) (mst (yNlt (yNadd 0 (yNat (qI i_1))) n) (mst (yIn (qJ i_2) n) (mst (yNlt (yNadd 0 (yNat (qJ i_2))) n) (true=true/\∃ (i':QI),prPe a b p d i'/\Nat.succ (mQ i')<=mQ i/\true=true/\qI i'=yWrap .i64 (yAdd (qI i_1) 1)/\qJ i'=yWrap .i64 (ySub (qJ i_2) 1)/\n=n/\(∀ (i_3:Nat),Nat.succ i_3<=n->qD i' i_3=ySel (yNeq i_3 (yNadd 0 (yNat (qJ i_2)))) (qD i (yNadd 0 (yNat (qI i_1)))) (ySel (yNeq i_3 (yNadd 0 (yNat (qI i_1)))) (qD i (yNadd 0 (yNat (qJ i_2)))) (qD i i_3))/\True)/\true=true))))))))
def goalPe_1 (i_1:QI)(i_2:QI)(a:Int)(n:Nat)(i:QI)(b:Int)(p:Int)(d:Nat->Int):=yLe (qI i_1) (qJ i_2)=true->mst (yIn a n) (mst (yNlt (yNadd 0 (yNat a)) n) (mst (yIn (qJ i_2) n) (mst (yNlt (yNadd 0 (yNat (qJ i_2))) n) (mst (true) ((yLt (qD i (yNadd 0 (yNat a))) (qD i (yNadd 0 (yNat (qJ i_2))))=true->true=true/\∃ (i':QI),prDn (gAl (qD i) a) (qI i_1) (qJ i) i'/\Nat.succ (mQ i')<=mQ i_2/\true=true/\qJ i'=yWrap .i64 (ySub (qJ i_2) 1)/\true=true)/\(yLt (qD i (yNadd 0 (yNat a))) (qD i (yNadd 0 (yNat (qJ i_2))))=false->(yLt (qJ i_2) (qI i_1)=true->peM a b p d=qI i_1/\n=n/\(∀ (i_3:Nat),Nat.succ i_3<=n->peC a b p d i_3=qD i i_3/\True)/\true=true)/\(goalPe_0 i_2 i_1 n a b p d i)))))))
def goalPeV:Prop:=(∀ (nl:Bool) (n:Nat) (d:Nat->Int) (a b p:Int),prePq n a b p=true->mst (yIn p n) (mst (yNlt (yNadd 0 (yNat p)) n) (mst (yIn a n) (mst (yNlt (yNadd 0 (yNat a)) n) (mst (yIn a n) (mst (yNlt (yNadd 0 (yNat a)) n) (mst (yIn p n) (mst (yNlt (yNadd 0 (yNat p)) n) (true=true/\(∃ (i0:QI),prPe a b p d i0/\true=true/\qI i0=yWrap .i64 (yAdd a 1)/\qJ i0=yWrap .i64 (ySub b 1)/\n=n/\(∀ (i:Nat),Nat.succ i<=n->qD i0 i=ySel (yNeq i (yNadd 0 (yNat p))) (d (yNadd 0 (yNat a))) (ySel (yNeq i (yNadd 0 (yNat a))) (d (yNadd 0 (yNat p))) (d i))/\True)/\true=true)/\∀ (g:Nat->AV) (i:QI),prPe a b p d i->true=true/\(∃ (i0:QI),prU (gNl (qD i) a) (qI i) (qJ i) i0/\true=true/\qI i0=qI i/\true=true)/\∀ (g:Nat->AV) (i_1:QI),prU (gNl (qD i) a) (qI i) (qJ i) i_1->(yLe (qI i_1) (qJ i)=true->mst (yIn a n) (mst (yNlt (yNadd 0 (yNat a)) n) (mst (yIn (qI i_1) n) (mst (yNlt (yNadd 0 (yNat (qI i_1))) n) (mst (true) ((yNot (yLt (qD i (yNadd 0 (yNat a))) (qD i (yNadd 0 (yNat (qI i_1)))))=true->true=true/\∃ (i':QI),prU (gNl (qD i) a) (qI i) (qJ i) i'/\Nat.succ (mQ i')<=mQ i_1/\true=true/\qI i'=yWrap .i64 (yAdd (qI i_1) 1)/\true=true)/\(yNot (yLt (qD i (yNadd 0 (yNat a))) (qD i (yNadd 0 (yNat (qI i_1)))))=false->true=true/\(∃ (i0:QI),prDn (gAl (qD i) a) (qI i_1) (qJ i) i0/\true=true/\qJ i0=qJ i/\true=true)/\∀ (g:Nat->AV) (i_2:QI),prDn (gAl (qD i) a) (qI i_1) (qJ i) i_2->(goalPe_1 i_1 i_2 a n i b p d)/\(yLe (qI i_1) (qJ i_2)=false->(yLt (qJ i_2) (qI i_1)=true->peM a b p d=qI i_1/\n=n/\(∀ (i_3:Nat),Nat.succ i_3<=n->peC a b p d i_3=qD i i_3/\True)/\true=true)/\(goalPe_0 i_2 i_1 n a b p d i)))))))))/\(yLe (qI i_1) (qJ i)=false->true=true/\(∃ (i0:QI),prDn (gAl (qD i) a) (qI i_1) (qJ i) i0/\true=true/\qJ i0=qJ i/\true=true)/\∀ (g:Nat->AV) (i_2:QI),prDn (gAl (qD i) a) (qI i_1) (qJ i) i_2->(goalPe_1 i_1 i_2 a n i b p d)/\(yLe (qI i_1) (qJ i_2)=false->(yLt (qJ i_2) (qI i_1)=true->peM a b p d=qI i_1/\n=n/\(∀ (i_3:Nat),Nat.succ i_3<=n->peC a b p d i_3=qD i i_3/\True)/\true=true)/\(goalPe_0 i_2 i_1 n a b p d i))))))))))))
theorem goalPe_eq:goalPe=goalPeV:=by kernel_rfl
set_option maxHeartbeats 8000000 in
theorem goalPe_vc:goalPeV:=by
 unfold goalPeV goalPe_1 goalPe_0
 intro nl n d a b p hp
 obtain ⟨p1,p2,p3,p4,p5,p6⟩:=of_decide_eq_true hp
 simp (config:={contextual:=true}) (disch:=omega) only [qS,goalPe_0,goalPe_1]
 refine ⟨⟨⟨⟨a + 1,b - 1,swI d a p⟩,(b - a).toNat⟩,prQ_in ⟨Int.le_refl _,show a + 1<=b by omega,show a<=b - 1 by omega,Int.le_refl _⟩ (by show (b - 1 + 2 - (a + 1)).toNat<=(b - a).toNat;omega),rfl,rfl,λ q _=>rfl⟩,λ g s hq=>⟨prU_in _ _ _,λ g1 u hu=>?_⟩⟩
 obtain ⟨i1,i2,i3,i4⟩:=hq.1
 obtain ⟨j1,j2,j3⟩:=hu.1
 simp (config:={contextual:=true}) (disch:=omega) only [qS]
 have fin:∀ v:QI,peI a s.s=u.s.i->peJ a s.s=v.s.j->v.s.j<=s.s.j->(u.s.i<=v.s.j + 1 ∨ s.s.j<=v.s.j) →
  (v.s.j < u.s.i->peM a b p d=u.s.i/\∀ q:Nat,q < n->peC a b p d q=s.s.d q)/\(¬ v.s.j < u.s.i->∃ i',prPe a b p d i'/\mQ i' < mQ s/\i'.s.i=u.s.i + 1/\i'.s.j=v.s.j - 1/\∀ q:Nat,q < n->i'.s.d q=if q=v.s.j.toNat then s.s.d u.s.i.toNat else if q=u.s.i.toNat then s.s.d v.s.j.toNat else s.s.d q):=λ v e1 e2 k1 k2=>by
  refine ⟨λ h=>?_,λ h=>?_⟩
  . have h9:peW a b p d=s.s:=prQ_out hq (decide_eq_false (by rw [e1,e2];omega))
    unfold peM peC
    rw [h9,e1]
    exact ⟨clI_id (by omega) (by omega),λ q _=>rfl⟩
  . have e3:peF a s.s=⟨u.s.i + 1,v.s.j - 1,swI s.s.d u.s.i v.s.j⟩:=by unfold peF;rw [e1,e2]
    have h9:=prQ_go hq (decide_eq_true (by rw [e1,e2];omega)) (by rw [e3];exact ⟨show a + 1<=u.s.i + 1 by omega,show u.s.i + 1<=b by omega,show a<=v.s.j - 1 by omega,show v.s.j - 1<=b - 1 by omega⟩) (by rw [e3];show (v.s.j - 1 + 2 - (u.s.i + 1)).toNat < (s.s.j + 2 - s.s.i).toNat;omega)
    rw [e3] at h9
    exact ⟨_,h9.1,h9.2,rfl,rfl,λ q _=>rfl⟩
 refine ⟨λ h1=>⟨λ h2=>prU_go hu h1 (by show (!decide _)=true;rw [decide_eq_false h2];rfl),λ h2=>⟨prDn_in _ _ _,λ g2 v hv=>?_⟩⟩,λ h1=>⟨prDn_in _ _ _,λ g2 v hv=>?_⟩⟩
 . have e:peI a s.s=u.s.i:=(prU_out hu (Or.inr (by show (!decide _)=false;rw [decide_eq_true h2];rfl))).1
   obtain ⟨k1,k2,k3⟩:=hv.1
   simp (config:={contextual:=true}) (disch:=omega) only [qS]
   have J:¬ u.s.i<=v.s.j ∨ gAl s.s.d a v.s.j=false->peJ a s.s=v.s.j:=λ h=>by show (snQ (gAl s.s.d a) (peI a s.s) s.s.j).j=_;rw [e];exact (prDn_out hv h).1
   exact ⟨λ h3=>⟨λ h4=>prDn_go hv h3 (decide_eq_true h4),λ h4=>fin v e (J (Or.inr (decide_eq_false h4))) k1 k2⟩,λ h3=>fin v e (J (Or.inl h3)) k1 k2⟩
 . have e:peI a s.s=u.s.i:=(prU_out hu (Or.inl h1)).1
   obtain ⟨k1,k2,k3⟩:=hv.1
   simp (config:={contextual:=true}) (disch:=omega) only [qS]
   have J:¬ u.s.i<=v.s.j ∨ gAl s.s.d a v.s.j=false->peJ a s.s=v.s.j:=λ h=>by show (snQ (gAl s.s.d a) (peI a s.s) s.s.j).j=_;rw [e];exact (prDn_out hv h).1
   exact ⟨λ h3=>⟨λ h4=>prDn_go hv h3 (decide_eq_true h4),λ h4=>fin v e (J (Or.inr (decide_eq_false h4))) k1 k2⟩,λ h3=>fin v e (J (Or.inl h3)) k1 k2⟩
theorem goalPe_tt:(goalPe)=True:=goalPe_eq.trans (eq_true goalPe_vc)
theorem goalPe_ok:goalPe:=@ft' goalPe goalPe_tt
/- numbers below the pivot, and the others -/
def pqI (a b p:Int)(d:Nat->Int):Int:=(suQ (gLt (swI d a p) a) (a + 1) (b - 1)).i
def pqJ (a b p:Int)(d:Nat->Int):Int:=(snQ (gGe (swI d a p) a) (pqI a b p d) (b - 1)).j
def pvI (a:Int)(s:QS):Int:=(suQ (gLt s.d a) s.i s.j).i
def pvJ (a:Int)(s:QS):Int:=(snQ (gGe s.d a) (pvI a s) s.j).j
def pqB (a:Int)(s:QS):Bool:=decide (pvI a s<=pvJ a s)
def pqF (a:Int)(s:QS):QS:=⟨pvI a s + 1,pvJ a s - 1,swI s.d (pvI a s) (pvJ a s)⟩
def ptW (a b p:Int)(d:Nat->Int):QS:=whQ (pqB a) (pqF a) (b - a).toNat ⟨pqI a b p d + 1,pqJ a b p d - 1,swI (swI d a p) (pqI a b p d) (pqJ a b p d)⟩
def ptA (a b p:Int)(d:Nat->Int):Bool:=decide (pqJ a b p d < pqI a b p d)
def ptM (a b p:Int)(d:Nat->Int):Int:=clI a (b - 1) (if pqJ a b p d < pqI a b p d then pqJ a b p d else pvJ a (ptW a b p d))
def ptC (a b p:Int)(d:Nat->Int):Nat->Int:=if pqJ a b p d < pqI a b p d then swI (swI d a p) (pqJ a b p d) a else swI (ptW a b p d).d (pvJ a (ptW a b p d)) a
def prPt (a b p:Int)(d:Nat->Int)(x:QI):Prop:=prQ (λ s=>a + 1<=s.i/\s.i<=b/\a<=s.j/\s.j<=b - 1) (λ s=>(s.j + 2 - s.i).toNat) (pqB a) (pqF a) (ptW a b p d) x
def annPtn (n:Nat)(a b p:Int)(d:Nat->Int)(x:Nat):Option (St->LoopA):=
 match x with
 | 0=>some λ z=>{ ι:=QI,tms:=[10],tmU:=λ p=>[.y .i64 (qI p)],ids:=[],hpU:=λ _=>[],del:=[],ex:=0,pre:=prU (gLt (swI d a p) a) (tmZ z 10) (tmZ z 11),ms:=mQ }
 | 1=>some λ z=>{ ι:=QI,tms:=[11],tmU:=λ p=>[.y .i64 (qJ p)],ids:=[],hpU:=λ _=>[],del:=[],ex:=2,pre:=prDn (gGe (swI d a p) a) (tmZ z 10) (tmZ z 11),ms:=mQ }
 | 2=>some λ _=>{ ι:=QI,tms:=[10,11],tmU:=λ p=>[.y .i64 (qI p),.y .i64 (qJ p)],ids:=[0],hpU:=λ p=>[.arr false 34 1 n (colF [.int .u64 (qD p)])],del:=[],ex:=4,pre:=prPt a b p d,ms:=mQ }
 | 3=>some λ z=>{ ι:=QI,tms:=[10],tmU:=λ p=>[.y .i64 (qI p)],ids:=[],hpU:=λ _=>[],del:=[],ex:=6,pre:=prU (gLt (hpD z 0) a) (tmZ z 10) (tmZ z 11),ms:=mQ }
 | 4=>some λ z=>{ ι:=QI,tms:=[11],tmU:=λ p=>[.y .i64 (qJ p)],ids:=[],hpU:=λ _=>[],del:=[],ex:=8,pre:=prDn (gGe (hpD z 0) a) (tmZ z 10) (tmZ z 11),ms:=mQ }
 | _=>none
def goalPtn:Prop:=∀ (nl:Bool) (n:Nat) (d:Nat->Int) (a b p:Int),prePq n a b p=true →
 wxH Try.prog (smL lLs) (annPtn n a b p d) 91 [mU,.sc,.sc,.sc] [.rows nl n [.int .u64 d],.v (.y .i64 a),.v (.y .i64 b),.v (.y .i64 p)] (.tup [.sc,.sc]) (.l [.v (.y .i64 (ptM a b p d)),.v (.yb (ptA a b p d))]) [[.rows nl n [.int .u64 (ptC a b p d)]]]
def goalPtn_2 (i_3:QI)(i_2:QI)(n:Nat)(a:Int)(b:Int)(p:Int)(d:Nat->Int)(i:QI):=yLt (qJ i_3) (qI i_2)=false->mst (yIn (qJ i_3) n) (mst (yNlt (yNadd 0 (yNat (qJ i_3))) n) (mst (yIn (qI i_2) n) (mst (yNlt (yNadd 0 (yNat (qI i_2))) n) (mst (yIn (qI i_2) n) (mst (yNlt (yNadd 0 (yNat (qI i_2))) n) (mst (yIn (qJ i_3) n) (mst (yNlt (yNadd 0 (yNat (qJ i_3))) n) (true=true/\∃ (i':QI),prPt a b p d i'/\Nat.succ (mQ i')<=mQ i/\true=true/\qI i'=yWrap .i64 (yAdd (qI i_2) 1)/\qJ i'=yWrap .i64 (ySub (qJ i_3) 1)/\n=n/\(∀ (i_4:Nat),Nat.succ i_4<=n->qD i' i_4=ySel (yNeq i_4 (yNadd 0 (yNat (qJ i_3)))) (qD i (yNadd 0 (yNat (qI i_2)))) (ySel (yNeq i_4 (yNadd 0 (yNat (qI i_2)))) (qD i (yNadd 0 (yNat (qJ i_3)))) (qD i i_4))/\True)/\true=true))))))))
def goalPtn_3 (i_3:QI)(i_2:QI)(a:Int)(n:Nat)(b:Int)(p:Int)(d:Nat->Int)(i:QI):=yLt (qJ i_3) (qI i_2)=true->mst (yIn a n) (mst (yNlt (yNadd 0 (yNat a)) n) (mst (yIn (qJ i_3) n) (mst (yNlt (yNadd 0 (yNat (qJ i_3))) n) (mst (yIn (qJ i_3) n) (mst (yNlt (yNadd 0 (yNat (qJ i_3))) n) (mst (yIn a n) (mst (yNlt (yNadd 0 (yNat a)) n) (ptM a b p d=qJ i_3/\ptA a b p d=false/\n=n/\(∀ (i_4:Nat),Nat.succ i_4<=n->ptC a b p d i_4=ySel (yNeq i_4 (yNadd 0 (yNat a))) (qD i (yNadd 0 (yNat (qJ i_3)))) (ySel (yNeq i_4 (yNadd 0 (yNat (qJ i_3)))) (qD i (yNadd 0 (yNat a))) (qD i i_4))/\True)/\true=true))))))))
def goalPtn_6 (i_2:QI)(i_3:QI)(n:Nat)(a:Int)(i:QI)(b:Int)(p:Int)(d:Nat->Int):=yLe (qI i_2) (qJ i_3)=true->mst (yIn (qJ i_3) n) (mst (yNlt (yNadd 0 (yNat (qJ i_3))) n) (mst (yIn a n) (mst (yNlt (yNadd 0 (yNat a)) n) (mst (true) ((yNot (yLt (qD i (yNadd 0 (yNat (qJ i_3)))) (qD i (yNadd 0 (yNat a))))=true->true=true/\∃ (i':QI),prDn (gGe (qD i) a) (qI i_2) (qJ i) i'/\Nat.succ (mQ i')<=mQ i_3/\true=true/\qJ i'=yWrap .i64 (ySub (qJ i_3) 1)/\true=true)/\(yNot (yLt (qD i (yNadd 0 (yNat (qJ i_3)))) (qD i (yNadd 0 (yNat a))))=false->(goalPtn_3 i_3 i_2 a n b p d i)/\(goalPtn_2 i_3 i_2 n a b p d i)))))))
def goalPtn_7 (i_1:QI)(p:Int)(d:Nat->Int)(a:Int):=ySel (yNeq (yNadd 0 (yNat (qJ i_1))) (yNadd 0 (yNat p))) (d (yNadd 0 (yNat a))) (ySel (yNeq (yNadd 0 (yNat (qJ i_1))) (yNadd 0 (yNat a))) (d (yNadd 0 (yNat p))) (d (yNadd 0 (yNat (qJ i_1)))))
def goalPtn_8 (i:QI)(p:Int)(d:Nat->Int)(a:Int):=ySel (yNeq (yNadd 0 (yNat (qI i))) (yNadd 0 (yNat p))) (d (yNadd 0 (yNat a))) (ySel (yNeq (yNadd 0 (yNat (qI i))) (yNadd 0 (yNat a))) (d (yNadd 0 (yNat p))) (d (yNadd 0 (yNat (qI i)))))
def goalPtn_0 (i_1:QI)(i:QI)(n:Nat)(a:Int)(b:Int)(p:Int)(d:Nat->Int):=yLt (qJ i_1) (qI i)=false->mst (yIn (qJ i_1) n) (mst (yNlt (yNadd 0 (yNat (qJ i_1))) n) (mst (yIn (qI i) n) (mst (yNlt (yNadd 0 (yNat (qI i))) n) (mst (yIn (qI i) n) (mst (yNlt (yNadd 0 (yNat (qI i))) n) (mst (yIn (qJ i_1) n) (mst (yNlt (yNadd 0 (yNat (qJ i_1))) n) (true=true/\(∃ (i0:QI),prPt a b p d i0/\true=true/\qI i0=yWrap .i64 (yAdd (qI i) 1)/\qJ i0=yWrap .i64 (ySub (qJ i_1) 1)/\n=n/\(∀ (i_2:Nat),Nat.succ i_2<=n->qD i0 i_2=ySel (yNeq i_2 (yNadd 0 (yNat (qJ i_1)))) (goalPtn_8 i p d a) (ySel (yNeq i_2 (yNadd 0 (yNat (qI i)))) (goalPtn_7 i_1 p d a) (ySel (yNeq i_2 (yNadd 0 (yNat p))) (d (yNadd 0 (yNat a))) (ySel (yNeq i_2 (yNadd 0 (yNat a))) (d (yNadd 0 (yNat p))) (d i_2))))/\True)/\true=true)/\∀ (g:Nat->AV) (i:QI),prPt a b p d i->true=true/\(∃ (i0:QI),prU (gLt (qD i) a) (qI i) (qJ i) i0/\true=true/\qI i0=qI i/\true=true)/\∀ (g:Nat->AV) (i_2:QI),prU (gLt (qD i) a) (qI i) (qJ i) i_2->(yLe (qI i_2) (qJ i)=true->mst (yIn (qI i_2) n) (mst (yNlt (yNadd 0 (yNat (qI i_2))) n) (mst (yIn a n) (mst (yNlt (yNadd 0 (yNat a)) n) (mst (true) ((yLt (qD i (yNadd 0 (yNat (qI i_2)))) (qD i (yNadd 0 (yNat a)))=true->true=true/\∃ (i':QI),prU (gLt (qD i) a) (qI i) (qJ i) i'/\Nat.succ (mQ i')<=mQ i_2/\true=true/\qI i'=yWrap .i64 (yAdd (qI i_2) 1)/\true=true)/\(yLt (qD i (yNadd 0 (yNat (qI i_2)))) (qD i (yNadd 0 (yNat a)))=false->true=true/\(∃ (i0:QI),prDn (gGe (qD i) a) (qI i_2) (qJ i) i0/\true=true/\qJ i0=qJ i/\true=true)/\∀ (g:Nat->AV) (i_3:QI),prDn (gGe (qD i) a) (qI i_2) (qJ i) i_3->(goalPtn_6 i_2 i_3 n a i b p d)/\(yLe (qI i_2) (qJ i_3)=false->(goalPtn_3 i_3 i_2 a n b p d i)/\(goalPtn_2 i_3 i_2 n a b p d i)))))))))/\(yLe (qI i_2) (qJ i)=false->true=true/\(∃ (i0:QI),prDn (gGe (qD i) a) (qI i_2) (qJ i) i0/\true=true/\qJ i0=qJ i/\true=true)/\∀ (g:Nat->AV) (i_3:QI),prDn (gGe (qD i) a) (qI i_2) (qJ i) i_3->(goalPtn_6 i_2 i_3 n a i b p d)/\(yLe (qI i_2) (qJ i_3)=false->(goalPtn_3 i_3 i_2 a n b p d i)/\(goalPtn_2 i_3 i_2 n a b p d i)))))))))))
def goalPtn_5 (a:Int)(p:Int)(d:Nat->Int):=ySel (yNeq (yNadd 0 (yNat a)) (yNadd 0 (yNat p))) (d (yNadd 0 (yNat a))) (ySel (yNeq (yNadd 0 (yNat a)) (yNadd 0 (yNat a))) (d (yNadd 0 (yNat p))) (d (yNadd 0 (yNat a))))
def goalPtn_1 (i_1:QI)(i:QI)(a:Int)(n:Nat)(b:Int)(p:Int)(d:Nat->Int):=yLt (qJ i_1) (qI i)=true->mst (yIn a n) (mst (yNlt (yNadd 0 (yNat a)) n) (mst (yIn (qJ i_1) n) (mst (yNlt (yNadd 0 (yNat (qJ i_1))) n) (mst (yIn (qJ i_1) n) (mst (yNlt (yNadd 0 (yNat (qJ i_1))) n) (mst (yIn a n) (mst (yNlt (yNadd 0 (yNat a)) n) (ptM a b p d=qJ i_1/\ptA a b p d=true/\n=n/\(∀ (i:Nat),Nat.succ i<=n->ptC a b p d i=ySel (yNeq i (yNadd 0 (yNat a))) (goalPtn_7 i_1 p d a) (ySel (yNeq i (yNadd 0 (yNat (qJ i_1)))) (goalPtn_5 a p d) (ySel (yNeq i (yNadd 0 (yNat p))) (d (yNadd 0 (yNat a))) (ySel (yNeq i (yNadd 0 (yNat a))) (d (yNadd 0 (yNat p))) (d i))))/\True)/\true=true))))))))
def goalPtn_4 (i_1:QI)(p:Int)(d:Nat->Int)(a:Int):=yLt (goalPtn_7 i_1 p d a) (goalPtn_5 a p d)
def goalPtn_9 (i:QI)(i_1:QI)(n:Nat)(a:Int)(p:Int)(d:Nat->Int)(b:Int):=yLe (qI i) (qJ i_1)=true->mst (yIn (qJ i_1) n) (mst (yNlt (yNadd 0 (yNat (qJ i_1))) n) (mst (yIn a n) (mst (yNlt (yNadd 0 (yNat a)) n) (mst (true) ((yNot (goalPtn_4 i_1 p d a)=true->true=true/\∃ (i':QI),prDn (gGe (swI d a p) a) (qI i) (yWrap .i64 (ySub b 1)) i'/\Nat.succ (mQ i')<=mQ i_1/\true=true/\qJ i'=yWrap .i64 (ySub (qJ i_1) 1)/\true=true)/\(yNot (goalPtn_4 i_1 p d a)=false->(goalPtn_1 i_1 i a n b p d)/\(goalPtn_0 i_1 i n a b p d)))))))
def goalPtnV:Prop:=(∀ (nl:Bool) (n:Nat) (d:Nat->Int) (a b p:Int),prePq n a b p=true->mst (yIn p n) (mst (yNlt (yNadd 0 (yNat p)) n) (mst (yIn a n) (mst (yNlt (yNadd 0 (yNat a)) n) (mst (yIn a n) (mst (yNlt (yNadd 0 (yNat a)) n) (mst (yIn p n) (mst (yNlt (yNadd 0 (yNat p)) n) (true=true/\(∃ (i0:QI),prU (gLt (swI d a p) a) (yWrap .i64 (yAdd a 1)) (yWrap .i64 (ySub b 1)) i0/\true=true/\qI i0=yWrap .i64 (yAdd a 1)/\true=true)/\∀ (g:Nat->AV) (i:QI),prU (gLt (swI d a p) a) (yWrap .i64 (yAdd a 1)) (yWrap .i64 (ySub b 1)) i->(yLe (qI i) (yWrap .i64 (ySub b 1))=true->mst (yIn (qI i) n) (mst (yNlt (yNadd 0 (yNat (qI i))) n) (mst (yIn a n) (mst (yNlt (yNadd 0 (yNat a)) n) (mst (true) ((yLt (goalPtn_8 i p d a) (goalPtn_5 a p d)=true->true=true/\∃ (i':QI),prU (gLt (swI d a p) a) (yWrap .i64 (yAdd a 1)) (yWrap .i64 (ySub b 1)) i'/\Nat.succ (mQ i')<=mQ i/\true=true/\qI i'=yWrap .i64 (yAdd (qI i) 1)/\true=true)/\(yLt (goalPtn_8 i p d a) (goalPtn_5 a p d)=false->true=true/\(∃ (i0:QI),prDn (gGe (swI d a p) a) (qI i) (yWrap .i64 (ySub b 1)) i0/\true=true/\qJ i0=yWrap .i64 (ySub b 1)/\true=true)/\∀ (g:Nat->AV) (i_1:QI),prDn (gGe (swI d a p) a) (qI i) (yWrap .i64 (ySub b 1)) i_1->(goalPtn_9 i i_1 n a p d b)/\(yLe (qI i) (qJ i_1)=false->(goalPtn_1 i_1 i a n b p d)/\(goalPtn_0 i_1 i n a b p d)))))))))/\(yLe (qI i) (yWrap .i64 (ySub b 1))=false->true=true/\(∃ (i0:QI),prDn (gGe (swI d a p) a) (qI i) (yWrap .i64 (ySub b 1)) i0/\true=true/\qJ i0=yWrap .i64 (ySub b 1)/\true=true)/\∀ (g:Nat->AV) (i_1:QI),prDn (gGe (swI d a p) a) (qI i) (yWrap .i64 (ySub b 1)) i_1->(goalPtn_9 i i_1 n a p d b)/\(yLe (qI i) (qJ i_1)=false->(goalPtn_1 i_1 i a n b p d)/\(goalPtn_0 i_1 i n a b p d))))))))))))
theorem goalPtn_eq:goalPtn=goalPtnV:=by kernel_rfl
set_option maxHeartbeats 8000000 in
theorem goalPtn_vc:goalPtnV:=by
 delta goalPtnV
 intro nl n d a b p hp
 obtain ⟨p1,p2,p3,p4,p5,p6⟩:=of_decide_eq_true hp
 have e5:goalPtn_5 a p d=swI d a p a.toNat:=by simp only [qS,goalPtn_5];unfold swI;simp
 have e7:∀ v:QI,goalPtn_7 v p d a=swI d a p v.s.j.toNat:=λ v=>by simp only [qS,goalPtn_7];rfl
 have e8:∀ u:QI,goalPtn_8 u p d a=swI d a p u.s.i.toNat:=λ u=>by simp only [qS,goalPtn_8];rfl
 simp (disch:=omega) only [qS,e5,e8]
 refine ⟨prU_in _ _ _,λ g u hu=>?_⟩
 obtain ⟨j1,j2,j3⟩:=hu.1
 have fin:∀ v:QI,pqI a b p d=u.s.i->pqJ a b p d=v.s.j->v.s.j<=b - 1->(u.s.i<=v.s.j + 1 ∨ b - 1<=v.s.j)->goalPtn_1 v u a n b p d/\goalPtn_0 v u n a b p d:=λ v f1 f2 k1 k2=>by
  constructor
  . unfold goalPtn_1
    intro h1
    have h1:v.s.j < u.s.i:=of_decide_eq_true h1
    simp (disch:=omega) only [qS,e5,e7]
    have h9:pqJ a b p d < pqI a b p d:=by rw [f1,f2];exact h1
    refine ⟨?_,decide_eq_true h9,λ q _=>?_⟩
    . unfold ptM
      rw [if_pos h9,f2]
      exact clI_id (by omega) (by omega)
    . unfold ptC
      rw [if_pos h9,f2]
      rfl
  . unfold goalPtn_0
    intro h1
    have h1:¬ v.s.j < u.s.i:=of_decide_eq_false h1
    simp (disch:=omega) only [qS,e7,e8]
    have h9:¬ pqJ a b p d < pqI a b p d:=by rw [f1,f2];exact h1
    refine ⟨⟨⟨⟨u.s.i + 1,v.s.j - 1,swI (swI d a p) u.s.i v.s.j⟩,(b - a).toNat⟩,?_,rfl,rfl,λ q _=>rfl⟩,λ g s hq=>⟨prU_in _ _ _,λ g1 u' hu'=>?_⟩⟩
    . show prQ _ _ _ _ (whQ (pqB a) (pqF a) (b - a).toNat ⟨pqI a b p d + 1,pqJ a b p d - 1,swI (swI d a p) (pqI a b p d) (pqJ a b p d)⟩) _
      rw [f1,f2]
      exact prQ_in ⟨show a + 1<=u.s.i + 1 by omega,show u.s.i + 1<=b by omega,show a<=v.s.j - 1 by omega,show v.s.j - 1<=b - 1 by omega⟩ (by show (v.s.j - 1 + 2 - (u.s.i + 1)).toNat<=(b - a).toNat;omega)
    obtain ⟨i1,i2,i3,i4⟩:=hq.1
    obtain ⟨j1,j2,j3⟩:=hu'.1
    have fin2:∀ v':QI,pvI a s.s=u'.s.i->pvJ a s.s=v'.s.j->v'.s.j<=s.s.j->(u'.s.i<=v'.s.j + 1 ∨ s.s.j<=v'.s.j)->goalPtn_3 v' u' a n b p d s/\goalPtn_2 v' u' n a b p d s:=λ v' f1' f2' k1' k2'=>by
     constructor
     . unfold goalPtn_3
       intro h1
       have h1:v'.s.j < u'.s.i:=of_decide_eq_true h1
       simp (disch:=omega) only [qS]
       have hW:ptW a b p d=s.s:=prQ_out hq (decide_eq_false (by rw [f1',f2'];omega))
       refine ⟨?_,decide_eq_false h9,λ q _=>?_⟩
       . unfold ptM
         rw [if_neg h9,hW,f2']
         exact clI_id (by omega) (by omega)
       . unfold ptC
         rw [if_neg h9,hW,f2']
         rfl
     . unfold goalPtn_2
       intro h1
       have h1:¬ v'.s.j < u'.s.i:=of_decide_eq_false h1
       simp (disch:=omega) only [qS]
       have e3:pqF a s.s=⟨u'.s.i + 1,v'.s.j - 1,swI s.s.d u'.s.i v'.s.j⟩:=by unfold pqF;rw [f1',f2']
       have h9:=prQ_go hq (decide_eq_true (by rw [f1',f2'];omega)) (by rw [e3];exact ⟨show a + 1<=u'.s.i + 1 by omega,show u'.s.i + 1<=b by omega,show a<=v'.s.j - 1 by omega,show v'.s.j - 1<=b - 1 by omega⟩) (by rw [e3];show (v'.s.j - 1 + 2 - (u'.s.i + 1)).toNat < (s.s.j + 2 - s.s.i).toNat;omega)
       rw [e3] at h9
       exact ⟨_,h9.1,h9.2,rfl,rfl,λ q _=>rfl⟩
    have lv:∀ v':QI,prDn (gGe s.s.d a) u'.s.i s.s.j v'->pvI a s.s=u'.s.i->goalPtn_6 u' v' n a s b p d/\(¬ u'.s.i<=v'.s.j->goalPtn_3 v' u' a n b p d s/\goalPtn_2 v' u' n a b p d s):=λ v' hv e=>by
     obtain ⟨k1',k2',k3'⟩:=hv.1
     have J:¬ u'.s.i<=v'.s.j ∨ gGe s.s.d a v'.s.j=false->pvJ a s.s=v'.s.j:=λ h=>by show (snQ (gGe s.s.d a) (pvI a s.s) s.s.j).j=_;rw [e];exact (prDn_out hv h).1
     refine ⟨?_,λ h=>fin2 v' e (J (Or.inl h)) k1' k2'⟩
     unfold goalPtn_6
     intro h
     have h:u'.s.i<=v'.s.j:=of_decide_eq_true h
     simp (disch:=omega) only [qS]
     exact ⟨λ h4=>prDn_go hv h (by show (!decide _)=true;rw [decide_eq_false h4];rfl),λ h4=>fin2 v' e (J (Or.inr (by show (!decide _)=false;rw [decide_eq_true h4];rfl))) k1' k2'⟩
    refine ⟨λ h1=>?_,λ h1=>⟨prDn_in _ _ _,λ g2 v hv=>lv v hv (prU_out hu' (Or.inl h1)).1⟩⟩
    simp (disch:=omega) only [qS]
    exact ⟨λ h2=>prU_go hu' h1 (decide_eq_true h2),λ h2=>⟨prDn_in _ _ _,λ g2 v hv=>lv v hv (prU_out hu' (Or.inr (decide_eq_false h2))).1⟩⟩
 have lv:∀ v:QI,prDn (gGe (swI d a p) a) u.s.i (b - 1) v->pqI a b p d=u.s.i->goalPtn_9 u v n a p d b/\(¬ u.s.i<=v.s.j->goalPtn_1 v u a n b p d/\goalPtn_0 v u n a b p d):=λ v hv e=>by
  obtain ⟨k1,k2,k3⟩:=hv.1
  have J:¬ u.s.i<=v.s.j ∨ gGe (swI d a p) a v.s.j=false->pqJ a b p d=v.s.j:=λ h=>by show (snQ (gGe (swI d a p) a) (pqI a b p d) (b - 1)).j=_;rw [e];exact (prDn_out hv h).1
  refine ⟨?_,λ h=>fin v e (J (Or.inl h)) k1 k2⟩
  unfold goalPtn_9 goalPtn_4
  intro h
  have h:u.s.i<=v.s.j:=of_decide_eq_true h
  simp (disch:=omega) only [qS,e5,e7]
  exact ⟨λ h4=>prDn_go hv h (by show (!decide _)=true;rw [decide_eq_false h4];rfl),λ h4=>fin v e (J (Or.inr (by show (!decide _)=false;rw [decide_eq_true h4];rfl))) k1 k2⟩
 refine ⟨λ h1=>?_,λ h1=>⟨prDn_in _ _ _,λ g2 v hv=>lv v hv (prU_out hu (Or.inl h1)).1⟩⟩
 simp (disch:=omega) only [qS,e5,e8]
 exact ⟨λ h2=>prU_go hu h1 (decide_eq_true h2),λ h2=>⟨prDn_in _ _ _,λ g2 v hv=>lv v hv (prU_out hu (Or.inr (decide_eq_false h2))).1⟩⟩
theorem goalPtn_tt:(goalPtn)=True:=goalPtn_eq.trans (eq_true goalPtn_vc)
theorem goalPtn_ok:goalPtn:=@ft' goalPtn goalPtn_tt
def fPe (ds:List Dx):Option (Bool × Dx × List (List Dx)):=
 match ds with
 | [.rows nl n [.int .u64 d],.v (.y .i64 a),.v (.y .i64 b),.v (.y .i64 p)]=>some (prePq n a b p,.v (.y .i64 (peM a b p d)),[[.rows nl n [.int .u64 (peC a b p d)]]])
 | _=>none
def fPtn (ds:List Dx):Option (Bool × Dx × List (List Dx)):=
 match ds with
 | [.rows nl n [.int .u64 d],.v (.y .i64 a),.v (.y .i64 b),.v (.y .i64 p)]=>some (prePq n a b p,.l [.v (.y .i64 (ptM a b p d)),.v (.yb (ptA a b p d))],[[.rows nl n [.int .u64 (ptC a b p d)]]])
 | _=>none
theorem smPe (hm:Try.prog.follows .mixedOrders=true)(hs:SmOK Try.prog (smL lLs)):SmCall Try.prog 90 (λ args h=>(ctX [mU,.sc,.sc,.sc] .sc fPe args h).sel):=
 ctX_ok hm hs (λ ds r post h=>by
  unfold fPe at h
  split at h
  . rename_i nl n d a b p
    simp only [sI,Prod.mk.injEq] at h
    obtain ⟨h1,rfl,rfl⟩:=h
    have h2:=@goalPe_ok
    unfold goalPe at h2
    exact ⟨annPe n a b p d,1000,@h2 nl n d a b p h1⟩
  . cases h)
theorem smPtn (hm:Try.prog.follows .mixedOrders=true)(hs:SmOK Try.prog (smL lLs)):SmCall Try.prog 91 (λ args h=>(ctX [mU,.sc,.sc,.sc] (.tup [.sc,.sc]) fPtn args h).sel):=
 ctX_ok hm hs (λ ds r post h=>by
  unfold fPtn at h
  split at h
  . rename_i nl n d a b p
    simp only [sI,Prod.mk.injEq] at h
    obtain ⟨h1,rfl,rfl⟩:=h
    have h2:=@goalPtn_ok
    unfold goalPtn at h2
    exact ⟨annPtn n a b p d,1000,@h2 nl n d a b p h1⟩
  . cases h)
def gNdp (d:Nat->Int)(i:Int):Bool:=!decide (d i.toNat < d (i - 1).toNat)
def shB (s:QS):Bool:=decide (1<=s.i/\s.d s.i.toNat < s.d (s.i - 1).toNat)
def shF (s:QS):QS:=⟨s.i - 1,0,swI s.d s.i (s.i - 1)⟩
def shQ (i:Int)(d:Nat->Int):QS:=whQ shB shF i.toNat ⟨i,0,d⟩
def prL (i:Int)(d:Nat->Int)(p:QI):Prop:=prQ (λ s=>0<=s.i/\s.i<=i) (λ s=>s.i.toNat) shB shF (shQ i d) p
def srxB (b:Int)(s:QS):Bool:=decide (s.i < b/\s.d s.i.toNat < s.d (s.i - 1).toNat)
def srxF (s:QS):QS:=⟨s.i + 1,0,swI s.d s.i (s.i - 1)⟩
def srxQ (b i:Int)(d:Nat->Int):QS:=whQ (srxB b) srxF (b - i).toNat ⟨i,0,d⟩
def prR (b i:Int)(d:Nat->Int)(p:QI):Prop:=prQ (λ s=>i<=s.i/\s.i<=b) (λ s=>(b - s.i).toNat) (srxB b) srxF (srxQ b i d) p
def piI (b:Int)(s:QS):Int:=(suQ (gNdp s.d) s.i (b - 1)).i
def pi2 (a i:Int)(d:Nat->Int):Nat->Int:=if 2<=i - a then (shQ (i - 1) d).d else d
def pi3 (b i:Int)(d:Nat->Int):Nat->Int:=if 2<=b - i then (srxQ b (i + 1) d).d else d
def piB (a b:Int)(s:QS):Bool:=decide (s.j < 5/\piI b s ≠ b/\50<=b - a)
def piF (a b:Int)(s:QS):QS:=⟨piI b s,s.j + 1,pi3 b (piI b s) (pi2 a (piI b s) (swI s.d (piI b s) (piI b s - 1)))⟩
def piQ (a b:Int)(d:Nat->Int):QS:=whQ (piB a b) (piF a b) 5 ⟨a + 1,0,d⟩
def piR (a b:Int)(d:Nat->Int):Bool:=decide ((piQ a b d).j < 5/\piI b (piQ a b d)=b)
def piC (a b:Int)(d:Nat->Int):Nat->Int:=(piQ a b d).d
def prPi (a b:Int)(d:Nat->Int)(p:QI):Prop:=prQ (λ s=>a + 1<=s.i/\s.i<=b/\0<=s.j/\s.j<=5) (λ s=>(5 - s.j).toNat) (piB a b) (piF a b) (piQ a b d) p
theorem prL_in (n:Nat){i:Int}(h:0<=i)(d:Nat->Int):∃ p,prL i d p/\p.s.i=i/\∀ q:Nat,q < n->p.s.d q=d q:=⟨⟨⟨i,0,d⟩,i.toNat⟩,prQ_in ⟨h,Int.le_refl _⟩ (Nat.le_refl _),rfl,λ _ _=>rfl⟩
theorem prL_go (n:Nat){i:Int}{d:Nat->Int}{p:QI}(h:prL i d p)(h1:1<=p.s.i)(h2:p.s.d p.s.i.toNat < p.s.d (p.s.i - 1).toNat):∃ p',prL i d p'/\mQ p' < mQ p/\p'.s.i=p.s.i - 1/\∀ q:Nat,q < n->p'.s.d q=if q=(p.s.i - 1).toNat then p.s.d p.s.i.toNat else if q=p.s.i.toNat then p.s.d (p.s.i - 1).toNat else p.s.d q:=by
 obtain ⟨a1,a2⟩:=h.1
 have h9:=prQ_go h (decide_eq_true ⟨h1,h2⟩) ⟨show 0<=p.s.i - 1 by omega,show p.s.i - 1<=i by omega⟩ (by show (p.s.i - 1).toNat < p.s.i.toNat;omega)
 exact ⟨_,h9.1,h9.2,rfl,λ _ _=>rfl⟩
theorem prL_out {i:Int}{d:Nat->Int}{p:QI}(h:prL i d p)(h1:¬ (1<=p.s.i/\p.s.d p.s.i.toNat < p.s.d (p.s.i - 1).toNat)):(shQ i d).d=p.s.d:=by rw [prQ_out h (decide_eq_false h1)]
theorem prR_in (n:Nat){b i:Int}(h:i<=b)(d:Nat->Int):∃ p,prR b i d p/\p.s.i=i/\∀ q:Nat,q < n->p.s.d q=d q:=⟨⟨⟨i,0,d⟩,(b - i).toNat⟩,prQ_in ⟨Int.le_refl _,h⟩ (Nat.le_refl _),rfl,λ _ _=>rfl⟩
theorem prR_go (n:Nat){b i:Int}{d:Nat->Int}{p:QI}(h:prR b i d p)(h1:p.s.i < b)(h2:p.s.d p.s.i.toNat < p.s.d (p.s.i - 1).toNat):∃ p',prR b i d p'/\mQ p' < mQ p/\p'.s.i=p.s.i + 1/\∀ q:Nat,q < n->p'.s.d q=if q=(p.s.i - 1).toNat then p.s.d p.s.i.toNat else if q=p.s.i.toNat then p.s.d (p.s.i - 1).toNat else p.s.d q:=by
 obtain ⟨a1,a2⟩:=h.1
 have h9:=prQ_go h (decide_eq_true ⟨h1,h2⟩) ⟨show i<=p.s.i + 1 by omega,show p.s.i + 1<=b by omega⟩ (by show (b - (p.s.i + 1)).toNat < (b - p.s.i).toNat;omega)
 exact ⟨_,h9.1,h9.2,rfl,λ _ _=>rfl⟩
theorem prR_out {b i:Int}{d:Nat->Int}{p:QI}(h:prR b i d p)(h1:¬ (p.s.i < b/\p.s.d p.s.i.toNat < p.s.d (p.s.i - 1).toNat)):(srxQ b i d).d=p.s.d:=by rw [prQ_out h (decide_eq_false h1)]
def annPi (n:Nat)(a b:Int)(d:Nat->Int)(x:Nat):Option (St->LoopA):=
 match x with
 | 0=>some λ _=>{ ι:=QI,tms:=[7,8],tmU:=λ p=>[.y .i64 (qI p),.y .i64 (qJ p)],ids:=[0],hpU:=λ p=>[.arr false 34 1 n (colF [.int .u64 (qD p)])],del:=[],ex:=0,pre:=prPi a b d,ms:=mQ }
 | 1=>some λ z=>{ ι:=QI,tms:=[7],tmU:=λ p=>[.y .i64 (qI p)],ids:=[],hpU:=λ _=>[],del:=[],ex:=2,pre:=prU (gNdp (hpD z 0)) (tmZ z 7) (ySub b 1),ms:=mQ }
 | 2=>some λ z=>{ ι:=QI,tms:=[9],tmU:=λ p=>[.y .i64 (qI p)],ids:=[0],hpU:=λ p=>[.arr false 34 1 n (colF [.int .u64 (qD p)])],del:=[],ex:=4,pre:=prL (tmZ z 9) (hpD z 0),ms:=mQ }
 | 3=>some λ z=>{ ι:=QI,tms:=[10],tmU:=λ p=>[.y .i64 (qI p)],ids:=[0],hpU:=λ p=>[.arr false 34 1 n (colF [.int .u64 (qD p)])],del:=[],ex:=6,pre:=prR b (tmZ z 10) (hpD z 0),ms:=mQ }
 | _=>none
def goalPi:Prop:=∀ (nl:Bool) (n:Nat) (d:Nat->Int) (a b:Int),preHsp n a b=true →
 wxH Try.prog (smL lLs) (annPi n a b d) 88 [mU,.sc,.sc] [.rows nl n [.int .u64 d],.v (.y .i64 a),.v (.y .i64 b)] .sc (.v (.yb (piR a b d))) [[.rows nl n [.int .u64 (piC a b d)]]]
def goalPi_5 (i_3:QI):=yNadd 0 (yNat (yWrap .i64 (ySub (qI i_3) 1)))
def goalPi_1 (b:Int)(i_1:QI)(i_2:QI)(n:Nat)(a:Int)(d:Nat->Int)(i:QI):=yLe 2 (yWrap .i64 (ySub b (qI i_1)))=true->true=true/\(∃ (i0:QI),prR b (yWrap .i64 (yAdd (qI i_1) 1)) (qD i_2) i0/\true=true/\qI i0=yWrap .i64 (yAdd (qI i_1) 1)/\n=n/\(∀ (i:Nat),Nat.succ i<=n->qD i0 i=qD i_2 i/\True)/\true=true)/\∀ (g:Nat->AV) (i_3:QI),prR b (yWrap .i64 (yAdd (qI i_1) 1)) (qD i_2) i_3->(yLt (qI i_3) b=true->mst (yIn (qI i_3) n) (mst (yNlt (yNadd 0 (yNat (qI i_3))) n) (mst (yIn (yWrap .i64 (ySub (qI i_3) 1)) n) (mst (yNlt (goalPi_5 i_3) n) (mst (true) ((yNot (yLt (qD i_3 (yNadd 0 (yNat (qI i_3)))) (qD i_3 (goalPi_5 i_3)))=true->true=true/\∃ (i':QI),prPi a b d i'/\Nat.succ (mQ i')<=mQ i/\true=true/\qI i'=qI i_1/\qJ i'=yWrap .i64 (yAdd (qJ i) 1)/\n=n/\(∀ (i:Nat),Nat.succ i<=n->qD i' i=qD i_3 i/\True)/\true=true)/\(yNot (yLt (qD i_3 (yNadd 0 (yNat (qI i_3)))) (qD i_3 (goalPi_5 i_3)))=false->mst (yIn (yWrap .i64 (ySub (qI i_3) 1)) n) (mst (yNlt (goalPi_5 i_3) n) (mst (yIn (qI i_3) n) (mst (yNlt (yNadd 0 (yNat (qI i_3))) n) (mst (yIn (qI i_3) n) (mst (yNlt (yNadd 0 (yNat (qI i_3))) n) (mst (yIn (yWrap .i64 (ySub (qI i_3) 1)) n) (mst (yNlt (goalPi_5 i_3) n) (true=true/\∃ (i':QI),prR b (yWrap .i64 (yAdd (qI i_1) 1)) (qD i_2) i'/\Nat.succ (mQ i')<=mQ i_3/\true=true/\qI i'=yWrap .i64 (yAdd (qI i_3) 1)/\n=n/\(∀ (i:Nat),Nat.succ i<=n->qD i' i=ySel (yNeq i (goalPi_5 i_3)) (qD i_3 (yNadd 0 (yNat (qI i_3)))) (ySel (yNeq i (yNadd 0 (yNat (qI i_3)))) (qD i_3 (goalPi_5 i_3)) (qD i_3 i))/\True)/\true=true)))))))))))))))/\(yLt (qI i_3) b=false->true=true/\∃ (i':QI),prPi a b d i'/\Nat.succ (mQ i')<=mQ i/\true=true/\qI i'=qI i_1/\qJ i'=yWrap .i64 (yAdd (qJ i) 1)/\n=n/\(∀ (i:Nat),Nat.succ i<=n->qD i' i=qD i_3 i/\True)/\true=true)
def goalPi_4 (i_1:QI):=yNadd 0 (yNat (yWrap .i64 (ySub (qI i_1) 1)))
def goalPi_2 (i_1:QI)(i:QI):=λ (q:Nat)=>ySel (yNeq q (goalPi_4 i_1)) (qD i (yNadd 0 (yNat (qI i_1)))) (ySel (yNeq q (yNadd 0 (yNat (qI i_1)))) (qD i (goalPi_4 i_1)) (qD i q))
def goalPi_3 (i_2:QI):=yNadd 0 (yNat (yWrap .i64 (ySub (qI i_2) 1)))
def goalPi_6 (i_2:QI):=yLt (qD i_2 (yNadd 0 (yNat (qI i_2)))) (qD i_2 (goalPi_3 i_2))
def goalPi_0 (i_1:QI)(b:Int)(a:Int)(d:Nat->Int)(n:Nat)(i:QI):=yEq (qI i_1) b=false->(yLt (yWrap .i64 (ySub b a)) (50:Int)=true->piR a b d=false/\n=n/\(∀ (i_2:Nat),Nat.succ i_2<=n->piC a b d i_2=qD i i_2/\True)/\true=true)/\(yLt (yWrap .i64 (ySub b a)) (50:Int)=false->mst (yIn (yWrap .i64 (ySub (qI i_1) 1)) n) (mst (yNlt (goalPi_4 i_1) n) (mst (yIn (qI i_1) n) (mst (yNlt (yNadd 0 (yNat (qI i_1))) n) (mst (yIn (qI i_1) n) (mst (yNlt (yNadd 0 (yNat (qI i_1))) n) (mst (yIn (yWrap .i64 (ySub (qI i_1) 1)) n) (mst (yNlt (goalPi_4 i_1) n) ((yLe 2 (yWrap .i64 (ySub (qI i_1) a))=true->true=true/\(∃ (i0:QI),prL (yWrap .i64 (ySub (qI i_1) 1)) (goalPi_2 i_1 i) i0/\true=true/\qI i0=yWrap .i64 (ySub (qI i_1) 1)/\n=n/\(∀ (i_2:Nat),Nat.succ i_2<=n->qD i0 i_2=ySel (yNeq i_2 (goalPi_4 i_1)) (qD i (yNadd 0 (yNat (qI i_1)))) (ySel (yNeq i_2 (yNadd 0 (yNat (qI i_1)))) (qD i (goalPi_4 i_1)) (qD i i_2))/\True)/\true=true)/\∀ (g:Nat->AV) (i_2:QI),prL (yWrap .i64 (ySub (qI i_1) 1)) (goalPi_2 i_1 i) i_2->(yLe 1 (qI i_2)=true->mst (yIn (qI i_2) n) (mst (yNlt (yNadd 0 (yNat (qI i_2))) n) (mst (yIn (yWrap .i64 (ySub (qI i_2) 1)) n) (mst (yNlt (goalPi_3 i_2) n) (mst (true) ((yNot (goalPi_6 i_2)=true->(goalPi_1 b i_1 i_2 n a d i)/\(yLe 2 (yWrap .i64 (ySub b (qI i_1)))=false->true=true/\∃ (i':QI),prPi a b d i'/\Nat.succ (mQ i')<=mQ i/\true=true/\qI i'=qI i_1/\qJ i'=yWrap .i64 (yAdd (qJ i) 1)/\n=n/\(∀ (i:Nat),Nat.succ i<=n->qD i' i=qD i_2 i/\True)/\true=true))/\(yNot (goalPi_6 i_2)=false->mst (yIn (yWrap .i64 (ySub (qI i_2) 1)) n) (mst (yNlt (goalPi_3 i_2) n) (mst (yIn (qI i_2) n) (mst (yNlt (yNadd 0 (yNat (qI i_2))) n) (mst (yIn (qI i_2) n) (mst (yNlt (yNadd 0 (yNat (qI i_2))) n) (mst (yIn (yWrap .i64 (ySub (qI i_2) 1)) n) (mst (yNlt (goalPi_3 i_2) n) (true=true/\∃ (i':QI),prL (yWrap .i64 (ySub (qI i_1) 1)) (goalPi_2 i_1 i) i'/\Nat.succ (mQ i')<=mQ i_2/\true=true/\qI i'=yWrap .i64 (ySub (qI i_2) 1)/\n=n/\(∀ (i:Nat),Nat.succ i<=n->qD i' i=ySel (yNeq i (goalPi_3 i_2)) (qD i_2 (yNadd 0 (yNat (qI i_2)))) (ySel (yNeq i (yNadd 0 (yNat (qI i_2)))) (qD i_2 (goalPi_3 i_2)) (qD i_2 i))/\True)/\true=true)))))))))))))))/\(yLe 1 (qI i_2)=false->(goalPi_1 b i_1 i_2 n a d i)/\(yLe 2 (yWrap .i64 (ySub b (qI i_1)))=false->true=true/\∃ (i':QI),prPi a b d i'/\Nat.succ (mQ i')<=mQ i/\true=true/\qI i'=qI i_1/\qJ i'=yWrap .i64 (yAdd (qJ i) 1)/\n=n/\(∀ (i:Nat),Nat.succ i<=n->qD i' i=qD i_2 i/\True)/\true=true)))/\(yLe 2 (yWrap .i64 (ySub (qI i_1) a))=false->(yLe 2 (yWrap .i64 (ySub b (qI i_1)))=true->true=true/\(∃ (i0:QI),prR b (yWrap .i64 (yAdd (qI i_1) 1)) (goalPi_2 i_1 i) i0/\true=true/\qI i0=yWrap .i64 (yAdd (qI i_1) 1)/\n=n/\(∀ (i_2:Nat),Nat.succ i_2<=n->qD i0 i_2=ySel (yNeq i_2 (goalPi_4 i_1)) (qD i (yNadd 0 (yNat (qI i_1)))) (ySel (yNeq i_2 (yNadd 0 (yNat (qI i_1)))) (qD i (goalPi_4 i_1)) (qD i i_2))/\True)/\true=true)/\∀ (g:Nat->AV) (i_2:QI),prR b (yWrap .i64 (yAdd (qI i_1) 1)) (goalPi_2 i_1 i) i_2->(yLt (qI i_2) b=true->mst (yIn (qI i_2) n) (mst (yNlt (yNadd 0 (yNat (qI i_2))) n) (mst (yIn (yWrap .i64 (ySub (qI i_2) 1)) n) (mst (yNlt (goalPi_3 i_2) n) (mst (true) ((yNot (goalPi_6 i_2)=true->true=true/\∃ (i':QI),prPi a b d i'/\Nat.succ (mQ i')<=mQ i/\true=true/\qI i'=qI i_1/\qJ i'=yWrap .i64 (yAdd (qJ i) 1)/\n=n/\(∀ (i:Nat),Nat.succ i<=n->qD i' i=qD i_2 i/\True)/\true=true)/\(yNot (goalPi_6 i_2)=false->mst (yIn (yWrap .i64 (ySub (qI i_2) 1)) n) (mst (yNlt (goalPi_3 i_2) n) (mst (yIn (qI i_2) n) (mst (yNlt (yNadd 0 (yNat (qI i_2))) n) (mst (yIn (qI i_2) n) (mst (yNlt (yNadd 0 (yNat (qI i_2))) n) (mst (yIn (yWrap .i64 (ySub (qI i_2) 1)) n) (mst (yNlt (goalPi_3 i_2) n) (true=true/\∃ (i':QI),prR b (yWrap .i64 (yAdd (qI i_1) 1)) (goalPi_2 i_1 i) i'/\Nat.succ (mQ i')<=mQ i_2/\true=true/\qI i'=yWrap .i64 (yAdd (qI i_2) 1)/\n=n/\(∀ (i:Nat),Nat.succ i<=n->qD i' i=ySel (yNeq i (goalPi_3 i_2)) (qD i_2 (yNadd 0 (yNat (qI i_2)))) (ySel (yNeq i (yNadd 0 (yNat (qI i_2)))) (qD i_2 (goalPi_3 i_2)) (qD i_2 i))/\True)/\true=true)))))))))))))))/\(yLt (qI i_2) b=false->true=true/\∃ (i':QI),prPi a b d i'/\Nat.succ (mQ i')<=mQ i/\true=true/\qI i'=qI i_1/\qJ i'=yWrap .i64 (yAdd (qJ i) 1)/\n=n/\(∀ (i:Nat),Nat.succ i<=n->qD i' i=qD i_2 i/\True)/\true=true))/\(yLe 2 (yWrap .i64 (ySub b (qI i_1)))=false->true=true/\∃ (i':QI),prPi a b d i'/\Nat.succ (mQ i')<=mQ i/\true=true/\qI i'=qI i_1/\qJ i'=yWrap .i64 (yAdd (qJ i) 1)/\n=n/\(∀ (i_2:Nat),Nat.succ i_2<=n->qD i' i_2=ySel (yNeq i_2 (goalPi_4 i_1)) (qD i (yNadd 0 (yNat (qI i_1)))) (ySel (yNeq i_2 (yNadd 0 (yNat (qI i_1)))) (qD i (goalPi_4 i_1)) (qD i i_2))/\True)/\true=true)))))))))))
def goalPiV:Prop:=(∀ (nl:Bool) (n:Nat) (d:Nat->Int) (a b:Int),preHsp n a b=true->true=true/\(∃ (i0:QI),prPi a b d i0/\true=true/\qI i0=yWrap .i64 (yAdd a 1)/\qJ i0=(0:Int)/\n=n/\(∀ (i:Nat),Nat.succ i<=n->qD i0 i=d i/\True)/\true=true)/\∀ (g:Nat->AV) (i:QI),prPi a b d i->(yLt (qJ i) (5:Int)=true->true=true/\(∃ (i0:QI),prU (gNdp λ (q:Nat)=>qD i q) (qI i) (ySub b 1) i0/\true=true/\qI i0=qI i/\true=true)/\∀ (g:Nat->AV) (i_1:QI),prU (gNdp λ (q:Nat)=>qD i q) (qI i) (ySub b 1) i_1->(yLt (qI i_1) b=true->mst (yIn (qI i_1) n) (mst (yNlt (yNadd 0 (yNat (qI i_1))) n) (mst (yIn (yWrap .i64 (ySub (qI i_1) 1)) n) (mst (yNlt (goalPi_4 i_1) n) (mst (true) ((yNot (yLt (qD i (yNadd 0 (yNat (qI i_1)))) (qD i (goalPi_4 i_1)))=true->true=true/\∃ (i':QI),prU (gNdp λ (q:Nat)=>qD i q) (qI i) (ySub b 1) i'/\Nat.succ (mQ i')<=mQ i_1/\true=true/\qI i'=yWrap .i64 (yAdd (qI i_1) 1)/\true=true)/\(yNot (yLt (qD i (yNadd 0 (yNat (qI i_1)))) (qD i (goalPi_4 i_1)))=false->(yEq (qI i_1) b=true->piR a b d=true/\n=n/\(∀ (i_2:Nat),Nat.succ i_2<=n->piC a b d i_2=qD i i_2/\True)/\true=true)/\(goalPi_0 i_1 b a d n i))))))))/\(yLt (qI i_1) b=false->(yEq (qI i_1) b=true->piR a b d=true/\n=n/\(∀ (i_2:Nat),Nat.succ i_2<=n->piC a b d i_2=qD i i_2/\True)/\true=true)/\(goalPi_0 i_1 b a d n i)))/\(yLt (qJ i) (5:Int)=false->piR a b d=false/\n=n/\(∀ (i_1:Nat),Nat.succ i_1<=n->piC a b d i_1=qD i i_1/\True)/\true=true))
theorem goalPi_eq:goalPi=goalPiV:=by kernel_rfl
set_option maxHeartbeats 8000000 in
theorem goalPi_vc:goalPiV:=by
 delta goalPiV
 intro nl n d a b hp
 obtain ⟨p1,p2,p3,p4⟩:=of_decide_eq_true hp
 simp (disch:=omega) only [qS]
 refine ⟨⟨⟨⟨a + 1,0,d⟩,5⟩,prQ_in ⟨Int.le_refl _,show a + 1<=b by omega,Int.le_refl _,show (0:Int)<=5 by omega⟩ (Nat.le_refl _),rfl,rfl,λ _ _=>rfl⟩,λ g s hq=>⟨λ h5=>⟨prU_in _ _ _,λ g u hu=>?_⟩,λ h5=>?_⟩⟩
 rotate_left
 . have h9:piQ a b d=s.s:=prQ_out hq (decide_eq_false (λ x=>h5 x.1))
   refine ⟨decide_eq_false (by rw [h9];exact λ x=>h5 x.1),λ q _=>?_⟩
   unfold piC
   rw [h9]
 obtain ⟨i1,i2,i3,i4⟩:=hq.1
 obtain ⟨j1,j2,j3⟩:=hu.1
 have ub:a + 1<=u.s.i/\u.s.i<=b:=by omega
 have hend:piI b s.s=u.s.i->u.s.i=b->piR a b d=true/\∀ q:Nat,q < n->piC a b d q=s.s.d q:=λ e h=>by
  have h9:piQ a b d=s.s:=prQ_out hq (decide_eq_false (λ x=>x.2.1 (e.trans h)))
  refine ⟨decide_eq_true (by rw [h9];exact ⟨h5,e.trans h⟩),λ q _=>?_⟩
  unfold piC
  rw [h9]
 have hgo:piI b s.s=u.s.i->goalPi_0 u b a d n s:=λ e=>by
  unfold goalPi_0
  intro h
  have h:¬ u.s.i=b:=of_decide_eq_false h
  simp (disch:=omega) only [qS]
  constructor
  . intro h1
    have h9:piQ a b d=s.s:=prQ_out hq (decide_eq_false (λ x=>by omega))
    refine ⟨decide_eq_false (by rw [h9,e];exact λ x=>h x.2),λ q _=>?_⟩
    unfold piC
    rw [h9]
  intro h1
  have nxt:∀ D:Nat->Int,pi3 b u.s.i (pi2 a u.s.i (swI s.s.d u.s.i (u.s.i - 1)))=D->∃ i',prPi a b d i'/\mQ i' < mQ s/\i'.s.i=u.s.i/\i'.s.j=s.s.j + 1/\∀ q:Nat,q < n->i'.s.d q=D q:=λ D hD=>by
   have e3:piF a b s.s=⟨u.s.i,s.s.j + 1,D⟩:=by unfold piF;rw [e,hD]
   have h9:=prQ_go hq (decide_eq_true ⟨h5,by rw [e];exact h,by omega⟩) (by rw [e3];exact ⟨ub.1,ub.2,show 0<=s.s.j + 1 by omega,show s.s.j + 1<=5 by omega⟩) (by rw [e3];show (5 - (s.s.j + 1)).toNat < (5 - s.s.j).toNat;omega)
   rw [e3] at h9
   exact ⟨_,h9.1,h9.2,rfl,rfl,λ _ _=>rfl⟩
  have lvR:∀ w:QI,pi2 a u.s.i (swI s.s.d u.s.i (u.s.i - 1))=w.s.d->goalPi_1 b u w n a d s/\(¬ 2<=b - u.s.i->∃ i',prPi a b d i'/\mQ i' < mQ s/\i'.s.i=u.s.i/\i'.s.j=s.s.j + 1/\∀ q:Nat,q < n->i'.s.d q=w.s.d q):=λ w hw=>by
   refine ⟨?_,λ h2=>nxt _ (by rw [hw];exact if_neg h2)⟩
   unfold goalPi_1
   intro h2
   have h2:2<=b - u.s.i:=by
    have h3:2<=yWrap .i64 (b - u.s.i):=of_decide_eq_true h2
    rwa [wrap64 (by omega) (by omega)] at h3
   simp (disch:=omega) only [qS,goalPi_5]
   refine ⟨prR_in n (show u.s.i + 1<=b by omega) _,λ g x hx=>?_⟩
   obtain ⟨x1,x2⟩:=hx.1
   simp (disch:=omega) only [qS]
   have fin:¬ (x.s.i < b/\x.s.d x.s.i.toNat < x.s.d (x.s.i - 1).toNat)->pi3 b u.s.i (pi2 a u.s.i (swI s.s.d u.s.i (u.s.i - 1)))=x.s.d:=λ hh=>by rw [hw];exact (if_pos h2).trans (prR_out hx hh)
   refine ⟨λ h3=>?_,λ h3=>nxt _ (fin λ y=>h3 y.1)⟩
   simp (disch:=omega) only [qS]
   exact ⟨λ h4=>nxt _ (fin λ y=>h4 y.2),λ h4=>prR_go n hx h3 h4⟩
  have e2':goalPi_2 u s=swI s.s.d u.s.i (u.s.i - 1):=by
   funext q
   simp (disch:=omega) only [goalPi_2,goalPi_4,qS]
   rfl
  simp (disch:=omega) only [qS,e2',goalPi_3,goalPi_4,goalPi_6]
  constructor
  . intro h2
    refine ⟨prL_in n (show 0<=u.s.i - 1 by omega) _,λ g w hw=>?_⟩
    obtain ⟨x1,x2⟩:=hw.1
    have fin:¬ (1<=w.s.i/\w.s.d w.s.i.toNat < w.s.d (w.s.i - 1).toNat)->pi2 a u.s.i (swI s.s.d u.s.i (u.s.i - 1))=w.s.d:=λ hh=>(if_pos h2).trans (prL_out hw hh)
    refine ⟨λ h3=>?_,λ h3=>lvR w (fin λ y=>h3 y.1)⟩
    simp (disch:=omega) only [qS]
    exact ⟨λ h4=>lvR w (fin λ y=>h4 y.2),λ h4=>prL_go n hw h3 h4⟩
  . intro h2
    have e2:pi2 a u.s.i (swI s.s.d u.s.i (u.s.i - 1))=swI s.s.d u.s.i (u.s.i - 1):=if_neg h2
    refine ⟨λ h3=>⟨prR_in n (show u.s.i + 1<=b by omega) _,λ g x hx=>?_⟩,λ h3=>nxt _ (by rw [e2];exact if_neg h3)⟩
    obtain ⟨x1,x2⟩:=hx.1
    simp (disch:=omega) only [qS]
    have fin:¬ (x.s.i < b/\x.s.d x.s.i.toNat < x.s.d (x.s.i - 1).toNat)->pi3 b u.s.i (pi2 a u.s.i (swI s.s.d u.s.i (u.s.i - 1)))=x.s.d:=λ hh=>by rw [e2];exact (if_pos h3).trans (prR_out hx hh)
    refine ⟨λ h4=>?_,λ h4=>nxt _ (fin λ y=>h4 y.1)⟩
    simp (disch:=omega) only [qS]
    exact ⟨λ h5=>nxt _ (fin λ y=>h5 y.2),λ h5=>prR_go n hx h4 h5⟩
 have J:¬ u.s.i<=b - 1 ∨ gNdp s.s.d u.s.i=false->piI b s.s=u.s.i:=λ h=>(prU_out hu h).1
 refine ⟨λ h1=>?_,λ h1=>⟨hend (J (Or.inl (by omega))),hgo (J (Or.inl (by omega)))⟩⟩
 simp (disch:=omega) only [qS,goalPi_4]
 exact ⟨λ h2=>prU_go hu (by omega) (by show (!decide _)=true;rw [decide_eq_false h2];rfl),λ h2=>⟨hend (J (Or.inr (by show (!decide _)=false;rw [decide_eq_true h2];rfl))),hgo (J (Or.inr (by show (!decide _)=false;rw [decide_eq_true h2];rfl)))⟩⟩
theorem goalPi_tt:(goalPi)=True:=goalPi_eq.trans (eq_true goalPi_vc)
theorem goalPi_ok:goalPi:=@ft' goalPi goalPi_tt
def fPi (ds:List Dx):Option (Bool × Dx × List (List Dx)):=
 match ds with
 | [.rows nl n [.int .u64 d],.v (.y .i64 a),.v (.y .i64 b)]=>some (preHsp n a b,.v (.yb (piR a b d)),[[.rows nl n [.int .u64 (piC a b d)]]])
 | _=>none
theorem smPi (hm:Try.prog.follows .mixedOrders=true)(hs:SmOK Try.prog (smL lLs)):SmCall Try.prog 88 (λ args h=>(ctX [mU,.sc,.sc] .sc fPi args h).sel):=
 ctX_ok hm hs (λ ds r post h=>by
  unfold fPi at h
  split at h
  . rename_i nl n d a b
    simp only [sI,Prod.mk.injEq] at h
    obtain ⟨h1,rfl,rfl⟩:=h
    have h2:=@goalPi_ok
    unfold goalPi at h2
    exact ⟨annPi n a b d,1000,@h2 nl n d a b h1⟩
  . cases h)
def rvD (a b:Int)(d:Nat->Int):Nat->Int:=revS a.toNat b.toNat d (halfN (b.toNat - a.toNat))
def preRv (n:Nat)(a b:Int):Bool:=decide (n<=1000000/\0<=a/\a<=b/\b<=n)
def fRv (ds:List Dx):Option (Bool × Dx × List (List Dx)):=
 match ds with
 | [.rows nl n [.int .u64 d],.v (.y .i64 a),.v (.y .i64 b)]=>some (preRv n a b,.l [],[[.rows nl n [.int .u64 (rvD a b d)]]])
 | _=>none
structure PdS where
 a:Int
 b:Int
 l:Int
 w:Bool
 p:Bool
 d:Nat->Int
structure PdI where
 s:PdS
 k:Nat
instance:Inhabited PdI:=⟨⟨⟨0,0,0,true,true,λ _=>0⟩,0⟩⟩
def xA (p:PdI):Int:=p.s.a
def xB (p:PdI):Int:=p.s.b
def xL (p:PdI):Int:=p.s.l
def xW (p:PdI):Bool:=p.s.w
def xP (p:PdI):Bool:=p.s.p
def xD (p:PdI)(q:Nat):Int:=p.s.d q
def mXQ (p:PdI):Nat:=p.k
def whP (c:PdS->Bool)(f:PdS->PdS):Nat->PdS->PdS
 | 0,s=>s
 | k + 1,s=>if c s=true then whP c f k (f s) else s
def prP (inv:PdS->Prop)(m:PdS->Nat)(c:PdS->Bool)(f:PdS->PdS)(W:PdS)(p:PdI):Prop:=inv p.s/\m p.s<=p.k/\whP c f p.k p.s=W
theorem prP_in {inv:PdS->Prop}{m:PdS->Nat}{c:PdS->Bool}{f:PdS->PdS}{s:PdS}{k:Nat}(h:inv s)(hk:m s<=k):prP inv m c f (whP c f k s) ⟨s,k⟩:=⟨h,hk,rfl⟩
theorem prP_go {inv:PdS->Prop}{m:PdS->Nat}{c:PdS->Bool}{f:PdS->PdS}{W:PdS}{p:PdI}(h:prP inv m c f W p)(hc:c p.s=true)(hi:inv (f p.s))(hm:m (f p.s) < m p.s):prP inv m c f W ⟨f p.s,p.k - 1⟩/\p.k - 1 < p.k:=by
 obtain ⟨s,k⟩:=p
 obtain ⟨h1,h2,h3⟩:=h
 cases k with
 | zero=>
   have h2:m s<=0:=h2
   have hm:m (f s) < m s:=hm
   omega
 | succ k=>
   refine ⟨⟨hi,?_,?_⟩,?_⟩
   . show m (f s)<=k
     have h2:m s<=k + 1:=h2
     have hm:m (f s) < m s:=hm
     omega
   . rw [<- h3]
     exact (if_pos hc).symm
   . show k + 1 - 1 < k + 1
     omega
theorem whP_out {c:PdS->Bool}{f:PdS->PdS}{s:PdS}(hc:c s=false):∀ k,whP c f k s=s
 | 0=>rfl
 | k + 1=>if_neg (by rw [hc];exact Bool.false_ne_true)
theorem prP_out {inv:PdS->Prop}{m:PdS->Nat}{c:PdS->Bool}{f:PdS->PdS}{W:PdS}{p:PdI}(h:prP inv m c f W p)(hc:c p.s=false):W=p.s:=h.2.2.symm.trans (whP_out hc p.k)
/- what comes of a round: a broken pattern, the pivot, a reversal, the try -/
def pd1 (s:PdS):Nat->Int:=if s.w=true then s.d else bpW s.a s.b s.d
def pdl (s:PdS):Int:=if s.w=true then s.l else s.l - 1
def pd2 (s:PdS):Nat->Int:=if cpH s.a s.b (pd1 s)=2 then rvD s.a s.b (pd1 s) else pd1 s
def pdv (s:PdS):Int:=if cpH s.a s.b (pd1 s)=2 then s.b - 1 - (cpP s.a s.b (pd1 s) - s.a) else cpP s.a s.b (pd1 s)
def pdt (s:PdS):Bool:=s.w && s.p && decide (cpH s.a s.b (pd1 s)=2 ∨ cpH s.a s.b (pd1 s)=1)
def pd3 (s:PdS):Nat->Int:=if pdt s=true then piC s.a s.b (pd2 s) else pd2 s
def pdB (s:PdS):Bool:=decide (12 < s.b - s.a/\¬ s.l=0/\¬ (pdt s=true/\piR s.a s.b (pd2 s)=true))
def pdq (s:PdS):Bool:=decide (0 < s.a/\¬ pd3 s (s.a - 1).toNat < pd3 s (pdv s).toNat)
def pdm (s:PdS):Int:=ptM s.a s.b (pdv s) (pd3 s)
def pdF (R:Int->Int->Int->(Nat->Int)->Nat->Int)(s:PdS):PdS:=
 if pdq s=true then ⟨peM s.a s.b (pdv s) (pd3 s),s.b,pdl s,s.w,s.p,peC s.a s.b (pdv s) (pd3 s)⟩
 else if pdm s - s.a < s.b - pdm s then ⟨pdm s + 1,s.b,pdl s,yLe ((s.b - s.a) / 8) (pdm s - s.a),ptA s.a s.b (pdv s) (pd3 s),R s.a (pdm s) (pdl s) (ptC s.a s.b (pdv s) (pd3 s))⟩
 else ⟨s.a,pdm s,pdl s,yLe ((s.b - s.a) / 8) (s.b - pdm s),ptA s.a s.b (pdv s) (pd3 s),R (pdm s + 1) s.b (pdl s) (ptC s.a s.b (pdv s) (pd3 s))⟩
def pdZ (s:PdS):Nat->Int:=if s.b - s.a<=12 then insS s.a.toNat s.d (s.b.toNat - s.a.toNat - 1) else if s.l=0 then hsW s.a s.b s.d else pd3 s
def pdC:Nat->Int->Int->Int->(Nat->Int)->Nat->Int
 | 0,_,_,_,d=>d
 | N + 1,a,b,l,d=>pdZ (whP pdB (pdF (pdC N)) (b - a).toNat ⟨a,b,l,true,true,d⟩)
def pdW (N:Nat)(a b l:Int)(d:Nat->Int):PdS:=whP pdB (pdF (pdC N)) (b - a).toNat ⟨a,b,l,true,true,d⟩
def prPd (N n:Nat)(a b l:Int)(d:Nat->Int)(p:PdI):Prop:=prP (λ s=>0<=s.a/\s.a<=s.b/\s.b<=n/\0<=s.l/\s.l<=100/\s.b - s.a<=b - a) (λ s=>(s.b - s.a).toNat) pdB (pdF (pdC N)) (pdW N a b l d) p
def prePd (N n:Nat)(a b l:Int):Bool:=decide (n<=200/\0<=a/\a<=b/\b<=n/\0<=l/\l<=100/\b - a < N)
def fPd (N:Nat)(ds:List Dx):Option (Bool × Dx × List (List Dx)):=
 match ds with
 | [.rows nl n [.int .u64 d],.v (.y .i64 a),.v (.y .i64 b),.v (.y .i64 l)]=>some (prePd N n a b l,.l [],[[.rows nl n [.int .u64 (pdC N a b l d)]]])
 | _=>none
def lPd (N:Nat):List (Nat × Sm):=[(65,.ct (ctX [mU,.sc,.sc,.sc] (.tup []) (fPd N))),(83,.ct (ctX [mU,.sc,.sc] (.tup []) fIs6)),(84,.ct (ctX [mU,.sc,.sc] (.tup []) fHs')),(85,.ct (ctX [mU,.sc,.sc] (.tup []) fBp)),(86,.ct (ctX [sPz,.sc,.sc] (.tup [.sc,.sc]) fCp)),(87,.ct (ctX [mU,.sc,.sc] (.tup []) fRv)),(88,.ct (ctX [mU,.sc,.sc] .sc fPi)),(90,.ct (ctX [mU,.sc,.sc,.sc] .sc fPe)),(91,.ct (ctX [mU,.sc,.sc,.sc] (.tup [.sc,.sc]) fPtn)),(89,.ct (ctX [.sc,.sc] .sc fLs))]
def annPd (N n:Nat)(a b l:Int)(d:Nat->Int)(x:Nat):Option (St->LoopA):=
 match x with
 | 0=>some λ _=>{ ι:=PdI,tms:=[1,2,3,8,9],tmU:=λ p=>[.y .i64 (xA p),.y .i64 (xB p),.y .i64 (xL p),.yb (xW p),.yb (xP p)],ids:=[0],hpU:=λ p=>[.arr false 34 1 n (colF [.int .u64 (xD p)])],del:=[],ex:=0,pre:=prPd N n a b l d,ms:=mXQ }
 | _=>none
def goalPd:Prop:=∀ (N:Nat) (nl:Bool) (n:Nat) (d:Nat->Int) (a b l:Int),prePd (Nat.succ N) n a b l=true →
 wxH Try.prog (smL (lPd N)) (annPd N n a b l d) 65 [mU,.sc,.sc,.sc] [.rows nl n [.int .u64 d],.v (.y .i64 a),.v (.y .i64 b),.v (.y .i64 l)] (.tup []) (.l []) [[.rows nl n [.int .u64 (pdC (Nat.succ N) a b l d)]]]
theorem cp_in {a b:Int}(h:a < b)(d:Nat->Int):a<=cpP a b d/\cpP a b d<=b - 1:=clI_in (by omega) _
theorem pt_in {a b:Int}(h:a < b)(p:Int)(d:Nat->Int):a<=ptM a b p d/\ptM a b p d<=b - 1:=clI_in (by omega) _
theorem pe_in {a b:Int}(h:a < b)(p:Int)(d:Nat->Int):a + 1<=peM a b p d/\peM a b p d<=b:=clI_in (by omega) _
theorem preHsp_t {n:Nat}{a b:Int}(h1:n<=1000000)(h2:0<=a)(h3:a < b)(h4:b<=n):preHsp n a b=true:=decide_eq_true ⟨h1,h2,h3,h4⟩
theorem preHt_t {n:Nat}{a b:Int}(h1:n<=200)(h2:0<=a)(h3:a + 12 < b)(h4:b<=n):preHt n a b=true:=decide_eq_true ⟨h1,h2,h3,h4⟩
theorem preRv_t {n:Nat}{a b:Int}(h1:n<=1000000)(h2:0<=a)(h3:a<=b)(h4:b<=n):preRv n a b=true:=decide_eq_true ⟨h1,h2,h3,h4⟩
theorem prePq_t {n:Nat}{a b p:Int}(h1:n<=1000000)(h2:0<=a)(h3:a < b)(h4:b<=n)(h5:a<=p)(h6:p < b):prePq n a b p=true:=decide_eq_true ⟨h1,h2,h3,h4,h5,h6⟩
theorem prePd_t {N n:Nat}{a b l:Int}(h1:n<=200)(h2:0<=a)(h3:a<=b)(h4:b<=n)(h5:0<=l)(h6:l<=100)(h7:b - a < N):prePd N n a b l=true:=decide_eq_true ⟨h1,h2,h3,h4,h5,h6,h7⟩
theorem pS1:(∀ p:PdI,xA p=p.s.a)/\(∀ p:PdI,xB p=p.s.b)/\(∀ p:PdI,xL p=p.s.l)/\(∀ p:PdI,xW p=p.s.w)/\(∀ p:PdI,xP p=p.s.p)/\(∀ p:PdI,xD p=p.s.d)/\(∀ (a b:Bool) (P:Prop),mst (yAnd a b) P=mst a (mst b P))/\(∀ (a b:Nat) (P:Prop),a<=b->mst (yNle a b) P=P):=
 ⟨λ _=>rfl,λ _=>rfl,λ _=>rfl,λ _=>rfl,λ _=>rfl,λ _=>rfl,λ a b P=>by cases a <;> cases b <;> simp [mst,yAnd],λ a b P h=>propext ⟨λ x=>x.1 (decide_eq_true h),λ x=>mstI (decide_eq_true h) x⟩⟩
theorem pS2:((¬ True)=False)/\(((2:Int)=1)=False)/\(((1:Int)=2)=False):=by simp
theorem pS:type_of% pS1/\type_of% pS2/\type_of% qS:=⟨pS1,pS2,qS⟩
def goalPd_14 (i:PdI):=yQuo .i64 (yWrap .i64 (ySub (xB i) (xA i))) 8
def goalPd_16 (i:PdI):=ptM (xA i) (xB i) (cpP (xA i) (xB i) (bpW (xA i) (xB i) (xD i))) (bpW (xA i) (xB i) (xD i))
def goalPd_24 (n:Nat)(i:PdI):=yCol (CK.int .u64) n λ (i_1:Nat)=>AV.y .u64 (ptC (xA i) (xB i) (cpP (xA i) (xB i) (bpW (xA i) (xB i) (xD i))) (bpW (xA i) (xB i) (xD i)) i_1)
def goalPd_36 (n:Nat)(i:PdI):=yCol (CK.int .u64) n λ (i_1:Nat)=>AV.y .u64 (bpW (xA i) (xB i) (xD i) i_1)
def goalPd_43 (i:PdI):=ptC (xA i) (xB i) (cpP (xA i) (xB i) (bpW (xA i) (xB i) (xD i))) (bpW (xA i) (xB i) (xD i))
def goalPd_0 (n:Nat)(i:PdI)(N:Nat)(a:Int)(b:Int)(l:Int)(d:Nat->Int):=mst (yNeq n n) (mst (goalPd_36 n i) (mst (prePq n (xA i) (xB i) (cpP (xA i) (xB i) (bpW (xA i) (xB i) (xD i)))) (((ptA (xA i) (xB i) (cpP (xA i) (xB i) (bpW (xA i) (xB i) (xD i))) (bpW (xA i) (xB i) (xD i)))=true->(yEq 8 (0:Int)=true->False)/\(yEq 8 (0:Int)=false->(yLt (yWrap .i64 (ySub (goalPd_16 i) (xA i))) (yWrap .i64 (ySub (xB i) (goalPd_16 i)))=true->mst (yNeq 0 0) (mst (yNeq n n) (mst (goalPd_24 n i) (mst (prePd N n (xA i) (goalPd_16 i) (yWrap .i64 (ySub (xL i) 1))) (true=true/\∃ (i':PdI),prPd N n a b l d i'/\Nat.succ (mXQ i')<=mXQ i/\true=true/\xA i'=yWrap .i64 (yAdd (goalPd_16 i) 1)/\xB i'=xB i/\xL i'=yWrap .i64 (ySub (xL i) 1)/\xW i'=yLe (goalPd_14 i) (yWrap .i64 (ySub (goalPd_16 i) (xA i)))/\xP i'=true/\n=n/\(∀ (i_1:Nat),Nat.succ i_1<=n->xD i' i_1=pdC N (xA i) (goalPd_16 i) (yWrap .i64 (ySub (xL i) 1)) (goalPd_43 i) i_1/\True)/\true=true)))))/\(yLt (yWrap .i64 (ySub (goalPd_16 i) (xA i))) (yWrap .i64 (ySub (xB i) (goalPd_16 i)))=false->mst (yNeq 0 0) (mst (yNeq n n) (mst (goalPd_24 n i) (mst (prePd N n (yWrap .i64 (yAdd (goalPd_16 i) 1)) (xB i) (yWrap .i64 (ySub (xL i) 1))) (true=true/\∃ (i':PdI),prPd N n a b l d i'/\Nat.succ (mXQ i')<=mXQ i/\true=true/\xA i'=xA i/\(xB i'=ptM (xA i) (xB i) (cpP (xA i) (xB i) (bpW (xA i) (xB i) (xD i))) (bpW (xA i) (xB i) (xD i)))/\xL i'=yWrap .i64 (ySub (xL i) 1)/\xW i'=yLe (goalPd_14 i) (yWrap .i64 (ySub (xB i) (goalPd_16 i)))/\xP i'=true/\n=n/\(∀ (i_1:Nat),Nat.succ i_1<=n->xD i' i_1=pdC N (yWrap .i64 (yAdd (goalPd_16 i) 1)) (xB i) (yWrap .i64 (ySub (xL i) 1)) (goalPd_43 i) i_1/\True)/\true=true)))))))/\((ptA (xA i) (xB i) (cpP (xA i) (xB i) (bpW (xA i) (xB i) (xD i))) (bpW (xA i) (xB i) (xD i)))=false->(yEq 8 (0:Int)=true->False)/\(yEq 8 (0:Int)=false->(yLt (yWrap .i64 (ySub (goalPd_16 i) (xA i))) (yWrap .i64 (ySub (xB i) (goalPd_16 i)))=true->mst (yNeq 0 0) (mst (yNeq n n) (mst (goalPd_24 n i) (mst (prePd N n (xA i) (goalPd_16 i) (yWrap .i64 (ySub (xL i) 1))) (true=true/\∃ (i':PdI),prPd N n a b l d i'/\Nat.succ (mXQ i')<=mXQ i/\true=true/\xA i'=yWrap .i64 (yAdd (goalPd_16 i) 1)/\xB i'=xB i/\xL i'=yWrap .i64 (ySub (xL i) 1)/\xW i'=yLe (goalPd_14 i) (yWrap .i64 (ySub (goalPd_16 i) (xA i)))/\xP i'=false/\n=n/\(∀ (i_1:Nat),Nat.succ i_1<=n->xD i' i_1=pdC N (xA i) (goalPd_16 i) (yWrap .i64 (ySub (xL i) 1)) (goalPd_43 i) i_1/\True)/\true=true)))))/\(yLt (yWrap .i64 (ySub (goalPd_16 i) (xA i))) (yWrap .i64 (ySub (xB i) (goalPd_16 i)))=false->mst (yNeq 0 0) (mst (yNeq n n) (mst (goalPd_24 n i) (mst (prePd N n (yWrap .i64 (yAdd (goalPd_16 i) 1)) (xB i) (yWrap .i64 (ySub (xL i) 1))) (true=true/\∃ (i':PdI),prPd N n a b l d i'/\Nat.succ (mXQ i')<=mXQ i/\true=true/\xA i'=xA i/\(xB i'=ptM (xA i) (xB i) (cpP (xA i) (xB i) (bpW (xA i) (xB i) (xD i))) (bpW (xA i) (xB i) (xD i)))/\xL i'=yWrap .i64 (ySub (xL i) 1)/\xW i'=yLe (goalPd_14 i) (yWrap .i64 (ySub (xB i) (goalPd_16 i)))/\xP i'=false/\n=n/\(∀ (i_1:Nat),Nat.succ i_1<=n->xD i' i_1=pdC N (yWrap .i64 (yAdd (goalPd_16 i) 1)) (xB i) (yWrap .i64 (ySub (xL i) 1)) (goalPd_43 i) i_1/\True)/\true=true))))))))))
def goalPd_4 (i:PdI):=yWrap .i64 (ySub (yWrap .i64 (ySub (xB i) 1)) (yWrap .i64 (ySub (cpP (xA i) (xB i) (bpW (xA i) (xB i) (xD i))) (xA i))))
def goalPd_17 (i:PdI):=ptM (xA i) (xB i) (goalPd_4 i) (rvD (xA i) (xB i) (bpW (xA i) (xB i) (xD i)))
def goalPd_27 (n:Nat)(i:PdI):=yCol (CK.int .u64) n λ (i_1:Nat)=>AV.y .u64 (ptC (xA i) (xB i) (goalPd_4 i) (rvD (xA i) (xB i) (bpW (xA i) (xB i) (xD i))) i_1)
def goalPd_44 (i:PdI):=ptC (xA i) (xB i) (goalPd_4 i) (rvD (xA i) (xB i) (bpW (xA i) (xB i) (xD i)))
def goalPd_46 (n:Nat)(i:PdI):=yCol (CK.int .u64) n λ (i_1:Nat)=>AV.y .u64 (rvD (xA i) (xB i) (bpW (xA i) (xB i) (xD i)) i_1)
def goalPd_1 (n:Nat)(i:PdI)(N:Nat)(a:Int)(b:Int)(l:Int)(d:Nat->Int):=mst (yNeq n n) (mst (goalPd_46 n i) (mst (prePq n (xA i) (xB i) (goalPd_4 i)) (((ptA (xA i) (xB i) (goalPd_4 i) (rvD (xA i) (xB i) (bpW (xA i) (xB i) (xD i))))=true->(yEq 8 (0:Int)=true->False)/\(yEq 8 (0:Int)=false->(yLt (yWrap .i64 (ySub (goalPd_17 i) (xA i))) (yWrap .i64 (ySub (xB i) (goalPd_17 i)))=true->mst (yNeq 0 0) (mst (yNeq n n) (mst (goalPd_27 n i) (mst (prePd N n (xA i) (goalPd_17 i) (yWrap .i64 (ySub (xL i) 1))) (true=true/\∃ (i':PdI),prPd N n a b l d i'/\Nat.succ (mXQ i')<=mXQ i/\true=true/\xA i'=yWrap .i64 (yAdd (goalPd_17 i) 1)/\xB i'=xB i/\xL i'=yWrap .i64 (ySub (xL i) 1)/\xW i'=yLe (goalPd_14 i) (yWrap .i64 (ySub (goalPd_17 i) (xA i)))/\xP i'=true/\n=n/\(∀ (i_1:Nat),Nat.succ i_1<=n->xD i' i_1=pdC N (xA i) (goalPd_17 i) (yWrap .i64 (ySub (xL i) 1)) (goalPd_44 i) i_1/\True)/\true=true)))))/\(yLt (yWrap .i64 (ySub (goalPd_17 i) (xA i))) (yWrap .i64 (ySub (xB i) (goalPd_17 i)))=false->mst (yNeq 0 0) (mst (yNeq n n) (mst (goalPd_27 n i) (mst (prePd N n (yWrap .i64 (yAdd (goalPd_17 i) 1)) (xB i) (yWrap .i64 (ySub (xL i) 1))) (true=true/\∃ (i':PdI),prPd N n a b l d i'/\Nat.succ (mXQ i')<=mXQ i/\true=true/\xA i'=xA i/\(xB i'=ptM (xA i) (xB i) (goalPd_4 i) (rvD (xA i) (xB i) (bpW (xA i) (xB i) (xD i))))/\xL i'=yWrap .i64 (ySub (xL i) 1)/\xW i'=yLe (goalPd_14 i) (yWrap .i64 (ySub (xB i) (goalPd_17 i)))/\xP i'=true/\n=n/\(∀ (i_1:Nat),Nat.succ i_1<=n->xD i' i_1=pdC N (yWrap .i64 (yAdd (goalPd_17 i) 1)) (xB i) (yWrap .i64 (ySub (xL i) 1)) (goalPd_44 i) i_1/\True)/\true=true)))))))/\((ptA (xA i) (xB i) (goalPd_4 i) (rvD (xA i) (xB i) (bpW (xA i) (xB i) (xD i))))=false->(yEq 8 (0:Int)=true->False)/\(yEq 8 (0:Int)=false->(yLt (yWrap .i64 (ySub (goalPd_17 i) (xA i))) (yWrap .i64 (ySub (xB i) (goalPd_17 i)))=true->mst (yNeq 0 0) (mst (yNeq n n) (mst (goalPd_27 n i) (mst (prePd N n (xA i) (goalPd_17 i) (yWrap .i64 (ySub (xL i) 1))) (true=true/\∃ (i':PdI),prPd N n a b l d i'/\Nat.succ (mXQ i')<=mXQ i/\true=true/\xA i'=yWrap .i64 (yAdd (goalPd_17 i) 1)/\xB i'=xB i/\xL i'=yWrap .i64 (ySub (xL i) 1)/\xW i'=yLe (goalPd_14 i) (yWrap .i64 (ySub (goalPd_17 i) (xA i)))/\xP i'=false/\n=n/\(∀ (i_1:Nat),Nat.succ i_1<=n->xD i' i_1=pdC N (xA i) (goalPd_17 i) (yWrap .i64 (ySub (xL i) 1)) (goalPd_44 i) i_1/\True)/\true=true)))))/\(yLt (yWrap .i64 (ySub (goalPd_17 i) (xA i))) (yWrap .i64 (ySub (xB i) (goalPd_17 i)))=false->mst (yNeq 0 0) (mst (yNeq n n) (mst (goalPd_27 n i) (mst (prePd N n (yWrap .i64 (yAdd (goalPd_17 i) 1)) (xB i) (yWrap .i64 (ySub (xL i) 1))) (true=true/\∃ (i':PdI),prPd N n a b l d i'/\Nat.succ (mXQ i')<=mXQ i/\true=true/\xA i'=xA i/\(xB i'=ptM (xA i) (xB i) (goalPd_4 i) (rvD (xA i) (xB i) (bpW (xA i) (xB i) (xD i))))/\xL i'=yWrap .i64 (ySub (xL i) 1)/\xW i'=yLe (goalPd_14 i) (yWrap .i64 (ySub (xB i) (goalPd_17 i)))/\xP i'=false/\n=n/\(∀ (i_1:Nat),Nat.succ i_1<=n->xD i' i_1=pdC N (yWrap .i64 (yAdd (goalPd_17 i) 1)) (xB i) (yWrap .i64 (ySub (xL i) 1)) (goalPd_44 i) i_1/\True)/\true=true))))))))))
def goalPd_2 (i:PdI):=yWrap .i64 (ySub (yWrap .i64 (ySub (xB i) 1)) (yWrap .i64 (ySub (cpP (xA i) (xB i) (xD i)) (xA i))))
def goalPd_23 (n:Nat)(i:PdI):=yCol (CK.int .u64) n λ (i_1:Nat)=>AV.y .u64 (xD i i_1)
def goalPd_29 (i:PdI):=yWrap .i64 (ySub (ptM (xA i) (xB i) (cpP (xA i) (xB i) (xD i)) (xD i)) (xA i))
def goalPd_30 (i:PdI):=yWrap .i64 (ySub (xB i) (ptM (xA i) (xB i) (cpP (xA i) (xB i) (xD i)) (xD i)))
def goalPd_37 (n:Nat)(i:PdI):=yCol (CK.int .u64) n λ (i_1:Nat)=>AV.y .u64 (ptC (xA i) (xB i) (cpP (xA i) (xB i) (xD i)) (xD i) i_1)
def goalPd_40 (i:PdI):=yAdd (ptM (xA i) (xB i) (cpP (xA i) (xB i) (xD i)) (xD i)) 1
def goalPd_3 (n:Nat)(i:PdI)(N:Nat)(a:Int)(b:Int)(l:Int)(d:Nat->Int):=mst (yNeq n n) (mst (goalPd_23 n i) (mst (prePq n (xA i) (xB i) (cpP (xA i) (xB i) (xD i))) (((ptA (xA i) (xB i) (cpP (xA i) (xB i) (xD i)) (xD i))=true->(yEq 8 (0:Int)=true->False)/\(yEq 8 (0:Int)=false->(yLt (goalPd_29 i) (goalPd_30 i)=true->mst (yNeq 0 0) (mst (yNeq n n) (mst (goalPd_37 n i) (mst (prePd N n (xA i) (ptM (xA i) (xB i) (cpP (xA i) (xB i) (xD i)) (xD i)) (xL i)) (true=true/\∃ (i':PdI),prPd N n a b l d i'/\Nat.succ (mXQ i')<=mXQ i/\true=true/\xA i'=yWrap .i64 (goalPd_40 i)/\xB i'=xB i/\xL i'=xL i/\xW i'=yLe (goalPd_14 i) (goalPd_29 i)/\xP i'=true/\n=n/\(∀ (i_1:Nat),Nat.succ i_1<=n->xD i' i_1=pdC N (xA i) (ptM (xA i) (xB i) (cpP (xA i) (xB i) (xD i)) (xD i)) (xL i) (ptC (xA i) (xB i) (cpP (xA i) (xB i) (xD i)) (xD i)) i_1/\True)/\true=true)))))/\(yLt (goalPd_29 i) (goalPd_30 i)=false->mst (yNeq 0 0) (mst (yNeq n n) (mst (goalPd_37 n i) (mst (prePd N n (yWrap .i64 (goalPd_40 i)) (xB i) (xL i)) (true=true/\∃ (i':PdI),prPd N n a b l d i'/\Nat.succ (mXQ i')<=mXQ i/\true=true/\xA i'=xA i/\(xB i'=ptM (xA i) (xB i) (cpP (xA i) (xB i) (xD i)) (xD i))/\xL i'=xL i/\xW i'=yLe (goalPd_14 i) (goalPd_30 i)/\xP i'=true/\n=n/\(∀ (i_1:Nat),Nat.succ i_1<=n->xD i' i_1=pdC N (yWrap .i64 (goalPd_40 i)) (xB i) (xL i) (ptC (xA i) (xB i) (cpP (xA i) (xB i) (xD i)) (xD i)) i_1/\True)/\true=true)))))))/\((ptA (xA i) (xB i) (cpP (xA i) (xB i) (xD i)) (xD i))=false->(yEq 8 (0:Int)=true->False)/\(yEq 8 (0:Int)=false->(yLt (goalPd_29 i) (goalPd_30 i)=true->mst (yNeq 0 0) (mst (yNeq n n) (mst (goalPd_37 n i) (mst (prePd N n (xA i) (ptM (xA i) (xB i) (cpP (xA i) (xB i) (xD i)) (xD i)) (xL i)) (true=true/\∃ (i':PdI),prPd N n a b l d i'/\Nat.succ (mXQ i')<=mXQ i/\true=true/\xA i'=yWrap .i64 (goalPd_40 i)/\xB i'=xB i/\xL i'=xL i/\xW i'=yLe (goalPd_14 i) (goalPd_29 i)/\xP i'=false/\n=n/\(∀ (i_1:Nat),Nat.succ i_1<=n->xD i' i_1=pdC N (xA i) (ptM (xA i) (xB i) (cpP (xA i) (xB i) (xD i)) (xD i)) (xL i) (ptC (xA i) (xB i) (cpP (xA i) (xB i) (xD i)) (xD i)) i_1/\True)/\true=true)))))/\(yLt (goalPd_29 i) (goalPd_30 i)=false->mst (yNeq 0 0) (mst (yNeq n n) (mst (goalPd_37 n i) (mst (prePd N n (yWrap .i64 (goalPd_40 i)) (xB i) (xL i)) (true=true/\∃ (i':PdI),prPd N n a b l d i'/\Nat.succ (mXQ i')<=mXQ i/\true=true/\xA i'=xA i/\(xB i'=ptM (xA i) (xB i) (cpP (xA i) (xB i) (xD i)) (xD i))/\xL i'=xL i/\xW i'=yLe (goalPd_14 i) (goalPd_30 i)/\xP i'=false/\n=n/\(∀ (i_1:Nat),Nat.succ i_1<=n->xD i' i_1=pdC N (yWrap .i64 (goalPd_40 i)) (xB i) (xL i) (ptC (xA i) (xB i) (cpP (xA i) (xB i) (xD i)) (xD i)) i_1/\True)/\true=true))))))))))
def goalPd_25 (i:PdI):=yWrap .i64 (ySub (ptM (xA i) (xB i) (goalPd_2 i) (rvD (xA i) (xB i) (xD i))) (xA i))
def goalPd_26 (i:PdI):=yWrap .i64 (ySub (xB i) (ptM (xA i) (xB i) (goalPd_2 i) (rvD (xA i) (xB i) (xD i))))
def goalPd_34 (n:Nat)(i:PdI):=yCol (CK.int .u64) n λ (i_1:Nat)=>AV.y .u64 (ptC (xA i) (xB i) (goalPd_2 i) (rvD (xA i) (xB i) (xD i)) i_1)
def goalPd_35 (i:PdI):=yAdd (ptM (xA i) (xB i) (goalPd_2 i) (rvD (xA i) (xB i) (xD i))) 1
def goalPd_5 (n:Nat)(i:PdI)(N:Nat)(a:Int)(b:Int)(l:Int)(d:Nat->Int):=mst (yNeq n n) (mst (yCol (CK.int .u64) n λ (i_1:Nat)=>AV.y .u64 (rvD (xA i) (xB i) (xD i) i_1)) (mst (prePq n (xA i) (xB i) (goalPd_2 i)) (((ptA (xA i) (xB i) (goalPd_2 i) (rvD (xA i) (xB i) (xD i)))=true->(yEq 8 (0:Int)=true->False)/\(yEq 8 (0:Int)=false->(yLt (goalPd_25 i) (goalPd_26 i)=true->mst (yNeq 0 0) (mst (yNeq n n) (mst (goalPd_34 n i) (mst (prePd N n (xA i) (ptM (xA i) (xB i) (goalPd_2 i) (rvD (xA i) (xB i) (xD i))) (xL i)) (true=true/\∃ (i':PdI),prPd N n a b l d i'/\Nat.succ (mXQ i')<=mXQ i/\true=true/\xA i'=yWrap .i64 (goalPd_35 i)/\xB i'=xB i/\xL i'=xL i/\xW i'=yLe (goalPd_14 i) (goalPd_25 i)/\xP i'=true/\n=n/\(∀ (i_1:Nat),Nat.succ i_1<=n->xD i' i_1=pdC N (xA i) (ptM (xA i) (xB i) (goalPd_2 i) (rvD (xA i) (xB i) (xD i))) (xL i) (ptC (xA i) (xB i) (goalPd_2 i) (rvD (xA i) (xB i) (xD i))) i_1/\True)/\true=true)))))/\(yLt (goalPd_25 i) (goalPd_26 i)=false->mst (yNeq 0 0) (mst (yNeq n n) (mst (goalPd_34 n i) (mst (prePd N n (yWrap .i64 (goalPd_35 i)) (xB i) (xL i)) (true=true/\∃ (i':PdI),prPd N n a b l d i'/\Nat.succ (mXQ i')<=mXQ i/\true=true/\xA i'=xA i/\(xB i'=ptM (xA i) (xB i) (goalPd_2 i) (rvD (xA i) (xB i) (xD i)))/\xL i'=xL i/\xW i'=yLe (goalPd_14 i) (goalPd_26 i)/\xP i'=true/\n=n/\(∀ (i_1:Nat),Nat.succ i_1<=n->xD i' i_1=pdC N (yWrap .i64 (goalPd_35 i)) (xB i) (xL i) (ptC (xA i) (xB i) (goalPd_2 i) (rvD (xA i) (xB i) (xD i))) i_1/\True)/\true=true)))))))/\((ptA (xA i) (xB i) (goalPd_2 i) (rvD (xA i) (xB i) (xD i)))=false->(yEq 8 (0:Int)=true->False)/\(yEq 8 (0:Int)=false->(yLt (goalPd_25 i) (goalPd_26 i)=true->mst (yNeq 0 0) (mst (yNeq n n) (mst (goalPd_34 n i) (mst (prePd N n (xA i) (ptM (xA i) (xB i) (goalPd_2 i) (rvD (xA i) (xB i) (xD i))) (xL i)) (true=true/\∃ (i':PdI),prPd N n a b l d i'/\Nat.succ (mXQ i')<=mXQ i/\true=true/\xA i'=yWrap .i64 (goalPd_35 i)/\xB i'=xB i/\xL i'=xL i/\xW i'=yLe (goalPd_14 i) (goalPd_25 i)/\xP i'=false/\n=n/\(∀ (i_1:Nat),Nat.succ i_1<=n->xD i' i_1=pdC N (xA i) (ptM (xA i) (xB i) (goalPd_2 i) (rvD (xA i) (xB i) (xD i))) (xL i) (ptC (xA i) (xB i) (goalPd_2 i) (rvD (xA i) (xB i) (xD i))) i_1/\True)/\true=true)))))/\(yLt (goalPd_25 i) (goalPd_26 i)=false->mst (yNeq 0 0) (mst (yNeq n n) (mst (goalPd_34 n i) (mst (prePd N n (yWrap .i64 (goalPd_35 i)) (xB i) (xL i)) (true=true/\∃ (i':PdI),prPd N n a b l d i'/\Nat.succ (mXQ i')<=mXQ i/\true=true/\xA i'=xA i/\(xB i'=ptM (xA i) (xB i) (goalPd_2 i) (rvD (xA i) (xB i) (xD i)))/\xL i'=xL i/\xW i'=yLe (goalPd_14 i) (goalPd_26 i)/\xP i'=false/\n=n/\(∀ (i_1:Nat),Nat.succ i_1<=n->xD i' i_1=pdC N (yWrap .i64 (goalPd_35 i)) (xB i) (xL i) (ptC (xA i) (xB i) (goalPd_2 i) (rvD (xA i) (xB i) (xD i))) i_1/\True)/\true=true))))))))))
def goalPd_12 (i:PdI):=ptM (xA i) (xB i) (cpP (xA i) (xB i) (bpW (xA i) (xB i) (xD i))) (piC (xA i) (xB i) (bpW (xA i) (xB i) (xD i)))
def goalPd_22 (n:Nat)(i:PdI):=yCol (CK.int .u64) n λ (i_1:Nat)=>AV.y .u64 (ptC (xA i) (xB i) (cpP (xA i) (xB i) (bpW (xA i) (xB i) (xD i))) (piC (xA i) (xB i) (bpW (xA i) (xB i) (xD i))) i_1)
def goalPd_39 (i:PdI):=ptC (xA i) (xB i) (cpP (xA i) (xB i) (bpW (xA i) (xB i) (xD i))) (piC (xA i) (xB i) (bpW (xA i) (xB i) (xD i)))
def goalPd_6 (n:Nat)(i:PdI)(N:Nat)(a:Int)(b:Int)(l:Int)(d:Nat->Int):=mst (yNeq n n) (mst (yCol (CK.int .u64) n λ (i_1:Nat)=>AV.y .u64 (piC (xA i) (xB i) (bpW (xA i) (xB i) (xD i)) i_1)) (mst (prePq n (xA i) (xB i) (cpP (xA i) (xB i) (bpW (xA i) (xB i) (xD i)))) (((ptA (xA i) (xB i) (cpP (xA i) (xB i) (bpW (xA i) (xB i) (xD i))) (piC (xA i) (xB i) (bpW (xA i) (xB i) (xD i))))=true->(yEq 8 (0:Int)=true->False)/\(yEq 8 (0:Int)=false->(yLt (yWrap .i64 (ySub (goalPd_12 i) (xA i))) (yWrap .i64 (ySub (xB i) (goalPd_12 i)))=true->mst (yNeq 0 0) (mst (yNeq n n) (mst (goalPd_22 n i) (mst (prePd N n (xA i) (goalPd_12 i) (yWrap .i64 (ySub (xL i) 1))) (true=true/\∃ (i':PdI),prPd N n a b l d i'/\Nat.succ (mXQ i')<=mXQ i/\true=true/\xA i'=yWrap .i64 (yAdd (goalPd_12 i) 1)/\xB i'=xB i/\xL i'=yWrap .i64 (ySub (xL i) 1)/\xW i'=yLe (goalPd_14 i) (yWrap .i64 (ySub (goalPd_12 i) (xA i)))/\xP i'=true/\n=n/\(∀ (i_1:Nat),Nat.succ i_1<=n->xD i' i_1=pdC N (xA i) (goalPd_12 i) (yWrap .i64 (ySub (xL i) 1)) (goalPd_39 i) i_1/\True)/\true=true)))))/\(yLt (yWrap .i64 (ySub (goalPd_12 i) (xA i))) (yWrap .i64 (ySub (xB i) (goalPd_12 i)))=false->mst (yNeq 0 0) (mst (yNeq n n) (mst (goalPd_22 n i) (mst (prePd N n (yWrap .i64 (yAdd (goalPd_12 i) 1)) (xB i) (yWrap .i64 (ySub (xL i) 1))) (true=true/\∃ (i':PdI),prPd N n a b l d i'/\Nat.succ (mXQ i')<=mXQ i/\true=true/\xA i'=xA i/\(xB i'=ptM (xA i) (xB i) (cpP (xA i) (xB i) (bpW (xA i) (xB i) (xD i))) (piC (xA i) (xB i) (bpW (xA i) (xB i) (xD i))))/\xL i'=yWrap .i64 (ySub (xL i) 1)/\xW i'=yLe (goalPd_14 i) (yWrap .i64 (ySub (xB i) (goalPd_12 i)))/\xP i'=true/\n=n/\(∀ (i_1:Nat),Nat.succ i_1<=n->xD i' i_1=pdC N (yWrap .i64 (yAdd (goalPd_12 i) 1)) (xB i) (yWrap .i64 (ySub (xL i) 1)) (goalPd_39 i) i_1/\True)/\true=true)))))))/\((ptA (xA i) (xB i) (cpP (xA i) (xB i) (bpW (xA i) (xB i) (xD i))) (piC (xA i) (xB i) (bpW (xA i) (xB i) (xD i))))=false->(yEq 8 (0:Int)=true->False)/\(yEq 8 (0:Int)=false->(yLt (yWrap .i64 (ySub (goalPd_12 i) (xA i))) (yWrap .i64 (ySub (xB i) (goalPd_12 i)))=true->mst (yNeq 0 0) (mst (yNeq n n) (mst (goalPd_22 n i) (mst (prePd N n (xA i) (goalPd_12 i) (yWrap .i64 (ySub (xL i) 1))) (true=true/\∃ (i':PdI),prPd N n a b l d i'/\Nat.succ (mXQ i')<=mXQ i/\true=true/\xA i'=yWrap .i64 (yAdd (goalPd_12 i) 1)/\xB i'=xB i/\xL i'=yWrap .i64 (ySub (xL i) 1)/\xW i'=yLe (goalPd_14 i) (yWrap .i64 (ySub (goalPd_12 i) (xA i)))/\xP i'=false/\n=n/\(∀ (i_1:Nat),Nat.succ i_1<=n->xD i' i_1=pdC N (xA i) (goalPd_12 i) (yWrap .i64 (ySub (xL i) 1)) (goalPd_39 i) i_1/\True)/\true=true)))))/\(yLt (yWrap .i64 (ySub (goalPd_12 i) (xA i))) (yWrap .i64 (ySub (xB i) (goalPd_12 i)))=false->mst (yNeq 0 0) (mst (yNeq n n) (mst (goalPd_22 n i) (mst (prePd N n (yWrap .i64 (yAdd (goalPd_12 i) 1)) (xB i) (yWrap .i64 (ySub (xL i) 1))) (true=true/\∃ (i':PdI),prPd N n a b l d i'/\Nat.succ (mXQ i')<=mXQ i/\true=true/\xA i'=xA i/\(xB i'=ptM (xA i) (xB i) (cpP (xA i) (xB i) (bpW (xA i) (xB i) (xD i))) (piC (xA i) (xB i) (bpW (xA i) (xB i) (xD i))))/\xL i'=yWrap .i64 (ySub (xL i) 1)/\xW i'=yLe (goalPd_14 i) (yWrap .i64 (ySub (xB i) (goalPd_12 i)))/\xP i'=false/\n=n/\(∀ (i_1:Nat),Nat.succ i_1<=n->xD i' i_1=pdC N (yWrap .i64 (yAdd (goalPd_12 i) 1)) (xB i) (yWrap .i64 (ySub (xL i) 1)) (goalPd_39 i) i_1/\True)/\true=true))))))))))
def goalPd_13 (i:PdI):=piC (xA i) (xB i) (rvD (xA i) (xB i) (bpW (xA i) (xB i) (xD i)))
def goalPd_32 (i:PdI):=yWrap .i64 (ySub (ptM (xA i) (xB i) (goalPd_4 i) (goalPd_13 i)) (xA i))
def goalPd_33 (i:PdI):=yWrap .i64 (ySub (xB i) (ptM (xA i) (xB i) (goalPd_4 i) (goalPd_13 i)))
def goalPd_41 (n:Nat)(i:PdI):=yCol (CK.int .u64) n λ (i_1:Nat)=>AV.y .u64 (ptC (xA i) (xB i) (goalPd_4 i) (goalPd_13 i) i_1)
def goalPd_42 (i:PdI):=yAdd (ptM (xA i) (xB i) (goalPd_4 i) (goalPd_13 i)) 1
def goalPd_7 (n:Nat)(i:PdI)(N:Nat)(a:Int)(b:Int)(l:Int)(d:Nat->Int):=mst (yNeq n n) (mst (yCol (CK.int .u64) n λ (i_1:Nat)=>AV.y .u64 (piC (xA i) (xB i) (rvD (xA i) (xB i) (bpW (xA i) (xB i) (xD i))) i_1)) (mst (prePq n (xA i) (xB i) (goalPd_4 i)) (((ptA (xA i) (xB i) (goalPd_4 i) (goalPd_13 i))=true->(yEq 8 (0:Int)=true->False)/\(yEq 8 (0:Int)=false->(yLt (goalPd_32 i) (goalPd_33 i)=true->mst (yNeq 0 0) (mst (yNeq n n) (mst (goalPd_41 n i) (mst (prePd N n (xA i) (ptM (xA i) (xB i) (goalPd_4 i) (goalPd_13 i)) (yWrap .i64 (ySub (xL i) 1))) (true=true/\∃ (i':PdI),prPd N n a b l d i'/\Nat.succ (mXQ i')<=mXQ i/\true=true/\xA i'=yWrap .i64 (goalPd_42 i)/\xB i'=xB i/\xL i'=yWrap .i64 (ySub (xL i) 1)/\xW i'=yLe (goalPd_14 i) (goalPd_32 i)/\xP i'=true/\n=n/\(∀ (i_1:Nat),Nat.succ i_1<=n->xD i' i_1=pdC N (xA i) (ptM (xA i) (xB i) (goalPd_4 i) (goalPd_13 i)) (yWrap .i64 (ySub (xL i) 1)) (ptC (xA i) (xB i) (goalPd_4 i) (goalPd_13 i)) i_1/\True)/\true=true)))))/\(yLt (goalPd_32 i) (goalPd_33 i)=false->mst (yNeq 0 0) (mst (yNeq n n) (mst (goalPd_41 n i) (mst (prePd N n (yWrap .i64 (goalPd_42 i)) (xB i) (yWrap .i64 (ySub (xL i) 1))) (true=true/\∃ (i':PdI),prPd N n a b l d i'/\Nat.succ (mXQ i')<=mXQ i/\true=true/\xA i'=xA i/\(xB i'=ptM (xA i) (xB i) (goalPd_4 i) (goalPd_13 i))/\xL i'=yWrap .i64 (ySub (xL i) 1)/\xW i'=yLe (goalPd_14 i) (goalPd_33 i)/\xP i'=true/\n=n/\(∀ (i_1:Nat),Nat.succ i_1<=n->xD i' i_1=pdC N (yWrap .i64 (goalPd_42 i)) (xB i) (yWrap .i64 (ySub (xL i) 1)) (ptC (xA i) (xB i) (goalPd_4 i) (goalPd_13 i)) i_1/\True)/\true=true)))))))/\((ptA (xA i) (xB i) (goalPd_4 i) (goalPd_13 i))=false->(yEq 8 (0:Int)=true->False)/\(yEq 8 (0:Int)=false->(yLt (goalPd_32 i) (goalPd_33 i)=true->mst (yNeq 0 0) (mst (yNeq n n) (mst (goalPd_41 n i) (mst (prePd N n (xA i) (ptM (xA i) (xB i) (goalPd_4 i) (goalPd_13 i)) (yWrap .i64 (ySub (xL i) 1))) (true=true/\∃ (i':PdI),prPd N n a b l d i'/\Nat.succ (mXQ i')<=mXQ i/\true=true/\xA i'=yWrap .i64 (goalPd_42 i)/\xB i'=xB i/\xL i'=yWrap .i64 (ySub (xL i) 1)/\xW i'=yLe (goalPd_14 i) (goalPd_32 i)/\xP i'=false/\n=n/\(∀ (i_1:Nat),Nat.succ i_1<=n->xD i' i_1=pdC N (xA i) (ptM (xA i) (xB i) (goalPd_4 i) (goalPd_13 i)) (yWrap .i64 (ySub (xL i) 1)) (ptC (xA i) (xB i) (goalPd_4 i) (goalPd_13 i)) i_1/\True)/\true=true)))))/\(yLt (goalPd_32 i) (goalPd_33 i)=false->mst (yNeq 0 0) (mst (yNeq n n) (mst (goalPd_41 n i) (mst (prePd N n (yWrap .i64 (goalPd_42 i)) (xB i) (yWrap .i64 (ySub (xL i) 1))) (true=true/\∃ (i':PdI),prPd N n a b l d i'/\Nat.succ (mXQ i')<=mXQ i/\true=true/\xA i'=xA i/\(xB i'=ptM (xA i) (xB i) (goalPd_4 i) (goalPd_13 i))/\xL i'=yWrap .i64 (ySub (xL i) 1)/\xW i'=yLe (goalPd_14 i) (goalPd_33 i)/\xP i'=false/\n=n/\(∀ (i_1:Nat),Nat.succ i_1<=n->xD i' i_1=pdC N (yWrap .i64 (goalPd_42 i)) (xB i) (yWrap .i64 (ySub (xL i) 1)) (ptC (xA i) (xB i) (goalPd_4 i) (goalPd_13 i)) i_1/\True)/\true=true))))))))))
def goalPd_18 (i:PdI):=ptM (xA i) (xB i) (goalPd_2 i) (piC (xA i) (xB i) (rvD (xA i) (xB i) (xD i)))
def goalPd_28 (n:Nat)(i:PdI):=yCol (CK.int .u64) n λ (i_1:Nat)=>AV.y .u64 (ptC (xA i) (xB i) (goalPd_2 i) (piC (xA i) (xB i) (rvD (xA i) (xB i) (xD i))) i_1)
def goalPd_45 (i:PdI):=ptC (xA i) (xB i) (goalPd_2 i) (piC (xA i) (xB i) (rvD (xA i) (xB i) (xD i)))
def goalPd_8 (n:Nat)(i:PdI)(N:Nat)(a:Int)(b:Int)(l:Int)(d:Nat->Int):=mst (yNeq n n) (mst (yCol (CK.int .u64) n λ (i_1:Nat)=>AV.y .u64 (piC (xA i) (xB i) (rvD (xA i) (xB i) (xD i)) i_1)) (mst (prePq n (xA i) (xB i) (goalPd_2 i)) (((ptA (xA i) (xB i) (goalPd_2 i) (piC (xA i) (xB i) (rvD (xA i) (xB i) (xD i))))=true->(yEq 8 (0:Int)=true->False)/\(yEq 8 (0:Int)=false->(yLt (yWrap .i64 (ySub (goalPd_18 i) (xA i))) (yWrap .i64 (ySub (xB i) (goalPd_18 i)))=true->mst (yNeq 0 0) (mst (yNeq n n) (mst (goalPd_28 n i) (mst (prePd N n (xA i) (goalPd_18 i) (xL i)) (true=true/\∃ (i':PdI),prPd N n a b l d i'/\Nat.succ (mXQ i')<=mXQ i/\true=true/\xA i'=yWrap .i64 (yAdd (goalPd_18 i) 1)/\xB i'=xB i/\xL i'=xL i/\xW i'=yLe (goalPd_14 i) (yWrap .i64 (ySub (goalPd_18 i) (xA i)))/\xP i'=true/\n=n/\(∀ (i_1:Nat),Nat.succ i_1<=n->xD i' i_1=pdC N (xA i) (goalPd_18 i) (xL i) (goalPd_45 i) i_1/\True)/\true=true)))))/\(yLt (yWrap .i64 (ySub (goalPd_18 i) (xA i))) (yWrap .i64 (ySub (xB i) (goalPd_18 i)))=false->mst (yNeq 0 0) (mst (yNeq n n) (mst (goalPd_28 n i) (mst (prePd N n (yWrap .i64 (yAdd (goalPd_18 i) 1)) (xB i) (xL i)) (true=true/\∃ (i':PdI),prPd N n a b l d i'/\Nat.succ (mXQ i')<=mXQ i/\true=true/\xA i'=xA i/\(xB i'=ptM (xA i) (xB i) (goalPd_2 i) (piC (xA i) (xB i) (rvD (xA i) (xB i) (xD i))))/\xL i'=xL i/\xW i'=yLe (goalPd_14 i) (yWrap .i64 (ySub (xB i) (goalPd_18 i)))/\xP i'=true/\n=n/\(∀ (i_1:Nat),Nat.succ i_1<=n->xD i' i_1=pdC N (yWrap .i64 (yAdd (goalPd_18 i) 1)) (xB i) (xL i) (goalPd_45 i) i_1/\True)/\true=true)))))))/\((ptA (xA i) (xB i) (goalPd_2 i) (piC (xA i) (xB i) (rvD (xA i) (xB i) (xD i))))=false->(yEq 8 (0:Int)=true->False)/\(yEq 8 (0:Int)=false->(yLt (yWrap .i64 (ySub (goalPd_18 i) (xA i))) (yWrap .i64 (ySub (xB i) (goalPd_18 i)))=true->mst (yNeq 0 0) (mst (yNeq n n) (mst (goalPd_28 n i) (mst (prePd N n (xA i) (goalPd_18 i) (xL i)) (true=true/\∃ (i':PdI),prPd N n a b l d i'/\Nat.succ (mXQ i')<=mXQ i/\true=true/\xA i'=yWrap .i64 (yAdd (goalPd_18 i) 1)/\xB i'=xB i/\xL i'=xL i/\xW i'=yLe (goalPd_14 i) (yWrap .i64 (ySub (goalPd_18 i) (xA i)))/\xP i'=false/\n=n/\(∀ (i_1:Nat),Nat.succ i_1<=n->xD i' i_1=pdC N (xA i) (goalPd_18 i) (xL i) (goalPd_45 i) i_1/\True)/\true=true)))))/\(yLt (yWrap .i64 (ySub (goalPd_18 i) (xA i))) (yWrap .i64 (ySub (xB i) (goalPd_18 i)))=false->mst (yNeq 0 0) (mst (yNeq n n) (mst (goalPd_28 n i) (mst (prePd N n (yWrap .i64 (yAdd (goalPd_18 i) 1)) (xB i) (xL i)) (true=true/\∃ (i':PdI),prPd N n a b l d i'/\Nat.succ (mXQ i')<=mXQ i/\true=true/\xA i'=xA i/\(xB i'=ptM (xA i) (xB i) (goalPd_2 i) (piC (xA i) (xB i) (rvD (xA i) (xB i) (xD i))))/\xL i'=xL i/\xW i'=yLe (goalPd_14 i) (yWrap .i64 (ySub (xB i) (goalPd_18 i)))/\xP i'=false/\n=n/\(∀ (i_1:Nat),Nat.succ i_1<=n->xD i' i_1=pdC N (yWrap .i64 (yAdd (goalPd_18 i) 1)) (xB i) (xL i) (goalPd_45 i) i_1/\True)/\true=true))))))))))
def goalPd_19 (i:PdI):=ptM (xA i) (xB i) (cpP (xA i) (xB i) (xD i)) (piC (xA i) (xB i) (xD i))
def goalPd_31 (n:Nat)(i:PdI):=yCol (CK.int .u64) n λ (i_1:Nat)=>AV.y .u64 (ptC (xA i) (xB i) (cpP (xA i) (xB i) (xD i)) (piC (xA i) (xB i) (xD i)) i_1)
def goalPd_47 (i:PdI):=ptC (xA i) (xB i) (cpP (xA i) (xB i) (xD i)) (piC (xA i) (xB i) (xD i))
def goalPd_9 (n:Nat)(i:PdI)(N:Nat)(a:Int)(b:Int)(l:Int)(d:Nat->Int):=mst (yNeq n n) (mst (yCol (CK.int .u64) n λ (i_1:Nat)=>AV.y .u64 (piC (xA i) (xB i) (xD i) i_1)) (mst (prePq n (xA i) (xB i) (cpP (xA i) (xB i) (xD i))) (((ptA (xA i) (xB i) (cpP (xA i) (xB i) (xD i)) (piC (xA i) (xB i) (xD i)))=true->(yEq 8 (0:Int)=true->False)/\(yEq 8 (0:Int)=false->(yLt (yWrap .i64 (ySub (goalPd_19 i) (xA i))) (yWrap .i64 (ySub (xB i) (goalPd_19 i)))=true->mst (yNeq 0 0) (mst (yNeq n n) (mst (goalPd_31 n i) (mst (prePd N n (xA i) (goalPd_19 i) (xL i)) (true=true/\∃ (i':PdI),prPd N n a b l d i'/\Nat.succ (mXQ i')<=mXQ i/\true=true/\xA i'=yWrap .i64 (yAdd (goalPd_19 i) 1)/\xB i'=xB i/\xL i'=xL i/\xW i'=yLe (goalPd_14 i) (yWrap .i64 (ySub (goalPd_19 i) (xA i)))/\xP i'=true/\n=n/\(∀ (i_1:Nat),Nat.succ i_1<=n->xD i' i_1=pdC N (xA i) (goalPd_19 i) (xL i) (goalPd_47 i) i_1/\True)/\true=true)))))/\(yLt (yWrap .i64 (ySub (goalPd_19 i) (xA i))) (yWrap .i64 (ySub (xB i) (goalPd_19 i)))=false->mst (yNeq 0 0) (mst (yNeq n n) (mst (goalPd_31 n i) (mst (prePd N n (yWrap .i64 (yAdd (goalPd_19 i) 1)) (xB i) (xL i)) (true=true/\∃ (i':PdI),prPd N n a b l d i'/\Nat.succ (mXQ i')<=mXQ i/\true=true/\xA i'=xA i/\(xB i'=ptM (xA i) (xB i) (cpP (xA i) (xB i) (xD i)) (piC (xA i) (xB i) (xD i)))/\xL i'=xL i/\xW i'=yLe (goalPd_14 i) (yWrap .i64 (ySub (xB i) (goalPd_19 i)))/\xP i'=true/\n=n/\(∀ (i_1:Nat),Nat.succ i_1<=n->xD i' i_1=pdC N (yWrap .i64 (yAdd (goalPd_19 i) 1)) (xB i) (xL i) (goalPd_47 i) i_1/\True)/\true=true)))))))/\((ptA (xA i) (xB i) (cpP (xA i) (xB i) (xD i)) (piC (xA i) (xB i) (xD i)))=false->(yEq 8 (0:Int)=true->False)/\(yEq 8 (0:Int)=false->(yLt (yWrap .i64 (ySub (goalPd_19 i) (xA i))) (yWrap .i64 (ySub (xB i) (goalPd_19 i)))=true->mst (yNeq 0 0) (mst (yNeq n n) (mst (goalPd_31 n i) (mst (prePd N n (xA i) (goalPd_19 i) (xL i)) (true=true/\∃ (i':PdI),prPd N n a b l d i'/\Nat.succ (mXQ i')<=mXQ i/\true=true/\xA i'=yWrap .i64 (yAdd (goalPd_19 i) 1)/\xB i'=xB i/\xL i'=xL i/\xW i'=yLe (goalPd_14 i) (yWrap .i64 (ySub (goalPd_19 i) (xA i)))/\xP i'=false/\n=n/\(∀ (i_1:Nat),Nat.succ i_1<=n->xD i' i_1=pdC N (xA i) (goalPd_19 i) (xL i) (goalPd_47 i) i_1/\True)/\true=true)))))/\(yLt (yWrap .i64 (ySub (goalPd_19 i) (xA i))) (yWrap .i64 (ySub (xB i) (goalPd_19 i)))=false->mst (yNeq 0 0) (mst (yNeq n n) (mst (goalPd_31 n i) (mst (prePd N n (yWrap .i64 (yAdd (goalPd_19 i) 1)) (xB i) (xL i)) (true=true/\∃ (i':PdI),prPd N n a b l d i'/\Nat.succ (mXQ i')<=mXQ i/\true=true/\xA i'=xA i/\(xB i'=ptM (xA i) (xB i) (cpP (xA i) (xB i) (xD i)) (piC (xA i) (xB i) (xD i)))/\xL i'=xL i/\xW i'=yLe (goalPd_14 i) (yWrap .i64 (ySub (xB i) (goalPd_19 i)))/\xP i'=false/\n=n/\(∀ (i_1:Nat),Nat.succ i_1<=n->xD i' i_1=pdC N (yWrap .i64 (yAdd (goalPd_19 i) 1)) (xB i) (xL i) (goalPd_47 i) i_1/\True)/\true=true))))))))))
def goalPd_15 (i:PdI):=yNadd 0 (yNat (yWrap .i64 (ySub (xA i) 1)))
def goalPd_38 (i:PdI):=yNadd 0 (yNat (cpP (xA i) (xB i) (bpW (xA i) (xB i) (xD i))))
def goalPd_10 (i:PdI)(n:Nat)(N:Nat)(a:Int)(b:Int)(l:Int)(d:Nat->Int):=yLt 0 (xA i)=true->mst (yIn (yWrap .i64 (ySub (xA i) 1)) n) (mst (yNlt (goalPd_15 i) n) (mst (yIn (cpP (xA i) (xB i) (bpW (xA i) (xB i) (xD i))) n) (mst (yNlt (goalPd_38 i) n) (mst (true) ((yNot (yLt (bpW (xA i) (xB i) (xD i) (goalPd_15 i)) (bpW (xA i) (xB i) (xD i) (goalPd_38 i)))=true->mst (yNeq 0 0) (mst (yNeq n n) (mst (goalPd_36 n i) (mst (prePq n (xA i) (xB i) (cpP (xA i) (xB i) (bpW (xA i) (xB i) (xD i)))) (true=true/\∃ (i':PdI),prPd N n a b l d i'/\Nat.succ (mXQ i')<=mXQ i/\true=true/\(xA i'=peM (xA i) (xB i) (cpP (xA i) (xB i) (bpW (xA i) (xB i) (xD i))) (bpW (xA i) (xB i) (xD i)))/\xB i'=xB i/\xL i'=yWrap .i64 (ySub (xL i) 1)/\xW i'=xW i/\xP i'=xP i/\n=n/\(∀ (i_1:Nat),Nat.succ i_1<=n->xD i' i_1=peC (xA i) (xB i) (cpP (xA i) (xB i) (bpW (xA i) (xB i) (xD i))) (bpW (xA i) (xB i) (xD i)) i_1/\True)/\true=true)))))/\(yNot (yLt (bpW (xA i) (xB i) (xD i) (goalPd_15 i)) (bpW (xA i) (xB i) (xD i) (goalPd_38 i)))=false->mst (yNeq 0 0) (goalPd_0 n i N a b l d)))))))
def goalPd_11 (i:PdI)(n:Nat)(N:Nat)(a:Int)(b:Int)(l:Int)(d:Nat->Int):=yLt 0 (xA i)=true->mst (yIn (yWrap .i64 (ySub (xA i) 1)) n) (mst (yNlt (goalPd_15 i) n) (mst (yIn (cpP (xA i) (xB i) (xD i)) n) (mst (yNlt (yNadd 0 (yNat (cpP (xA i) (xB i) (xD i)))) n) (mst (true) ((yNot (yLt (xD i (goalPd_15 i)) (xD i (yNadd 0 (yNat (cpP (xA i) (xB i) (xD i))))))=true->mst (yNeq 0 0) (mst (yNeq n n) (mst (goalPd_23 n i) (mst (prePq n (xA i) (xB i) (cpP (xA i) (xB i) (xD i))) (true=true/\∃ (i':PdI),prPd N n a b l d i'/\Nat.succ (mXQ i')<=mXQ i/\true=true/\(xA i'=peM (xA i) (xB i) (cpP (xA i) (xB i) (xD i)) (xD i))/\xB i'=xB i/\xL i'=xL i/\xW i'=xW i/\xP i'=xP i/\n=n/\(∀ (i_1:Nat),Nat.succ i_1<=n->xD i' i_1=peC (xA i) (xB i) (cpP (xA i) (xB i) (xD i)) (xD i) i_1/\True)/\true=true)))))/\(yNot (yLt (xD i (goalPd_15 i)) (xD i (yNadd 0 (yNat (cpP (xA i) (xB i) (xD i))))))=false->mst (yNeq 0 0) (goalPd_3 n i N a b l d)))))))
def goalPd_20 (i:PdI)(n:Nat)(N:Nat)(a:Int)(b:Int)(l:Int)(d:Nat->Int):=yLt 0 (xA i)=true->mst (yIn (yWrap .i64 (ySub (xA i) 1)) n) (mst (yNlt (goalPd_15 i) n) (mst (yIn (goalPd_4 i) n) (mst (yNlt (yNadd 0 (yNat (goalPd_4 i))) n) (mst (true) ((yNot (yLt (rvD (xA i) (xB i) (bpW (xA i) (xB i) (xD i)) (goalPd_15 i)) (rvD (xA i) (xB i) (bpW (xA i) (xB i) (xD i)) (yNadd 0 (yNat (goalPd_4 i)))))=true->mst (yNeq 0 0) (mst (yNeq n n) (mst (goalPd_46 n i) (mst (prePq n (xA i) (xB i) (goalPd_4 i)) (true=true/\∃ (i':PdI),prPd N n a b l d i'/\Nat.succ (mXQ i')<=mXQ i/\true=true/\(xA i'=peM (xA i) (xB i) (goalPd_4 i) (rvD (xA i) (xB i) (bpW (xA i) (xB i) (xD i))))/\xB i'=xB i/\xL i'=yWrap .i64 (ySub (xL i) 1)/\xW i'=xW i/\xP i'=xP i/\n=n/\(∀ (i_1:Nat),Nat.succ i_1<=n->xD i' i_1=peC (xA i) (xB i) (goalPd_4 i) (rvD (xA i) (xB i) (bpW (xA i) (xB i) (xD i))) i_1/\True)/\true=true)))))/\(yNot (yLt (rvD (xA i) (xB i) (bpW (xA i) (xB i) (xD i)) (goalPd_15 i)) (rvD (xA i) (xB i) (bpW (xA i) (xB i) (xD i)) (yNadd 0 (yNat (goalPd_4 i)))))=false->mst (yNeq 0 0) (goalPd_1 n i N a b l d)))))))
def goalPd_21 (i:PdI)(n:Nat)(N:Nat)(a:Int)(b:Int)(l:Int)(d:Nat->Int):=yLt 0 (xA i)=true->mst (yIn (yWrap .i64 (ySub (xA i) 1)) n) (mst (yNlt (goalPd_15 i) n) (mst (yIn (goalPd_2 i) n) (mst (yNlt (yNadd 0 (yNat (goalPd_2 i))) n) (mst (true) ((yNot (yLt (rvD (xA i) (xB i) (xD i) (goalPd_15 i)) (rvD (xA i) (xB i) (xD i) (yNadd 0 (yNat (goalPd_2 i)))))=true->mst (yNeq 0 0) (mst (yNeq n n) (mst (yCol (CK.int .u64) n λ (i_1:Nat)=>AV.y .u64 (rvD (xA i) (xB i) (xD i) i_1)) (mst (prePq n (xA i) (xB i) (goalPd_2 i)) (true=true/\∃ (i':PdI),prPd N n a b l d i'/\Nat.succ (mXQ i')<=mXQ i/\true=true/\(xA i'=peM (xA i) (xB i) (goalPd_2 i) (rvD (xA i) (xB i) (xD i)))/\xB i'=xB i/\xL i'=xL i/\xW i'=xW i/\xP i'=xP i/\n=n/\(∀ (i_1:Nat),Nat.succ i_1<=n->xD i' i_1=peC (xA i) (xB i) (goalPd_2 i) (rvD (xA i) (xB i) (xD i)) i_1/\True)/\true=true)))))/\(yNot (yLt (rvD (xA i) (xB i) (xD i) (goalPd_15 i)) (rvD (xA i) (xB i) (xD i) (yNadd 0 (yNat (goalPd_2 i)))))=false->mst (yNeq 0 0) (goalPd_5 n i N a b l d)))))))
def goalPdV:Prop:=(∀ (N:Nat) (nl:Bool) (n:Nat) (d:Nat->Int) (a b l:Int),prePd (Nat.succ N) n a b l=true->true=true/\(∃ (i0:PdI),prPd N n a b l d i0/\true=true/\xA i0=a/\xB i0=b/\xL i0=l/\xW i0=true/\xP i0=true/\n=n/\(∀ (i:Nat),Nat.succ i<=n->xD i0 i=d i/\True)/\true=true)/\∀ (g:Nat->AV) (i:PdI),prPd N n a b l d i->(yLe (yWrap .i64 (ySub (xB i) (xA i))) (12:Int)=true->mst (yNeq 0 0) (mst (yNeq n n) (mst (goalPd_23 n i) (mst (yAnd (yNle n 1000000) (yAnd (yAnd (yLe 0 (xA i)) (yLe (xA i) (xB i))) (yLe (xB i) (yInt n)))) (n=n/\(∀ (i_1:Nat),Nat.succ i_1<=n->pdC (Nat.succ N) a b l d i_1=insS (yNat (xA i)) (xD i) (yNsub (yNsub (yNat (xB i)) (yNat (xA i))) 1) i_1/\True)/\true=true)))))/\(yLe (yWrap .i64 (ySub (xB i) (xA i))) (12:Int)=false->(yEq (xL i) (0:Int)=true->mst (yNeq 0 0) (mst (yNeq n n) (mst (goalPd_23 n i) (mst (preHsp n (xA i) (xB i)) (n=n/\(∀ (i_1:Nat),Nat.succ i_1<=n->pdC (Nat.succ N) a b l d i_1=hsW (xA i) (xB i) (xD i) i_1/\True)/\true=true)))))/\(yEq (xL i) (0:Int)=false->(xW i=true->mst (yNle (yNadd 0 n) n) (mst (goalPd_23 n i) (mst (preHt n (xA i) (xB i)) ((yEq (cpH (xA i) (xB i) (xD i)) (2:Int)=true->mst (yNeq 0 0) (mst (yNeq n n) (mst (goalPd_23 n i) (mst (preRv n (xA i) (xB i)) ((xW i=true->(xP i=true->mst (yNeq 0 0) (mst (yNeq n n) (mst (yCol (CK.int .u64) n λ (i_1:Nat)=>AV.y .u64 (rvD (xA i) (xB i) (xD i) i_1)) (mst (preHsp n (xA i) (xB i)) (((piR (xA i) (xB i) (rvD (xA i) (xB i) (xD i)))=true->n=n/\(∀ (i_1:Nat),Nat.succ i_1<=n->pdC (Nat.succ N) a b l d i_1=piC (xA i) (xB i) (rvD (xA i) (xB i) (xD i)) i_1/\True)/\true=true)/\((piR (xA i) (xB i) (rvD (xA i) (xB i) (xD i)))=false->(yLt 0 (xA i)=true->mst (yIn (yWrap .i64 (ySub (xA i) 1)) n) (mst (yNlt (goalPd_15 i) n) (mst (yIn (goalPd_2 i) n) (mst (yNlt (yNadd 0 (yNat (goalPd_2 i))) n) (mst (true) ((yNot (yLt (piC (xA i) (xB i) (rvD (xA i) (xB i) (xD i)) (goalPd_15 i)) (piC (xA i) (xB i) (rvD (xA i) (xB i) (xD i)) (yNadd 0 (yNat (goalPd_2 i)))))=true->mst (yNeq 0 0) (mst (yNeq n n) (mst (yCol (CK.int .u64) n λ (i_1:Nat)=>AV.y .u64 (piC (xA i) (xB i) (rvD (xA i) (xB i) (xD i)) i_1)) (mst (prePq n (xA i) (xB i) (goalPd_2 i)) (true=true/\∃ (i':PdI),prPd N n a b l d i'/\Nat.succ (mXQ i')<=mXQ i/\true=true/\(xA i'=peM (xA i) (xB i) (goalPd_2 i) (piC (xA i) (xB i) (rvD (xA i) (xB i) (xD i))))/\xB i'=xB i/\xL i'=xL i/\xW i'=xW i/\xP i'=xP i/\n=n/\(∀ (i_1:Nat),Nat.succ i_1<=n->xD i' i_1=peC (xA i) (xB i) (goalPd_2 i) (piC (xA i) (xB i) (rvD (xA i) (xB i) (xD i))) i_1/\True)/\true=true)))))/\(yNot (yLt (piC (xA i) (xB i) (rvD (xA i) (xB i) (xD i)) (goalPd_15 i)) (piC (xA i) (xB i) (rvD (xA i) (xB i) (xD i)) (yNadd 0 (yNat (goalPd_2 i)))))=false->mst (yNeq 0 0) (goalPd_8 n i N a b l d))))))))/\(yLt 0 (xA i)=false->mst (yNeq 0 0) (goalPd_8 n i N a b l d))))))))/\(xP i=false->(goalPd_21 i n N a b l d)/\(yLt 0 (xA i)=false->mst (yNeq 0 0) (goalPd_5 n i N a b l d))))/\(xW i=false->(goalPd_21 i n N a b l d)/\(yLt 0 (xA i)=false->mst (yNeq 0 0) (goalPd_5 n i N a b l d))))))))/\(yEq (cpH (xA i) (xB i) (xD i)) (2:Int)=false->(xW i=true->(xP i=true->(yEq (cpH (xA i) (xB i) (xD i)) (1:Int)=true->mst (yNeq 0 0) (mst (yNeq n n) (mst (goalPd_23 n i) (mst (preHsp n (xA i) (xB i)) (((piR (xA i) (xB i) (xD i))=true->n=n/\(∀ (i_1:Nat),Nat.succ i_1<=n->pdC (Nat.succ N) a b l d i_1=piC (xA i) (xB i) (xD i) i_1/\True)/\true=true)/\((piR (xA i) (xB i) (xD i))=false->(yLt 0 (xA i)=true->mst (yIn (yWrap .i64 (ySub (xA i) 1)) n) (mst (yNlt (goalPd_15 i) n) (mst (yIn (cpP (xA i) (xB i) (xD i)) n) (mst (yNlt (yNadd 0 (yNat (cpP (xA i) (xB i) (xD i)))) n) (mst (true) ((yNot (yLt (piC (xA i) (xB i) (xD i) (goalPd_15 i)) (piC (xA i) (xB i) (xD i) (yNadd 0 (yNat (cpP (xA i) (xB i) (xD i))))))=true->mst (yNeq 0 0) (mst (yNeq n n) (mst (yCol (CK.int .u64) n λ (i_1:Nat)=>AV.y .u64 (piC (xA i) (xB i) (xD i) i_1)) (mst (prePq n (xA i) (xB i) (cpP (xA i) (xB i) (xD i))) (true=true/\∃ (i':PdI),prPd N n a b l d i'/\Nat.succ (mXQ i')<=mXQ i/\true=true/\(xA i'=peM (xA i) (xB i) (cpP (xA i) (xB i) (xD i)) (piC (xA i) (xB i) (xD i)))/\xB i'=xB i/\xL i'=xL i/\xW i'=xW i/\xP i'=xP i/\n=n/\(∀ (i_1:Nat),Nat.succ i_1<=n->xD i' i_1=peC (xA i) (xB i) (cpP (xA i) (xB i) (xD i)) (piC (xA i) (xB i) (xD i)) i_1/\True)/\true=true)))))/\(yNot (yLt (piC (xA i) (xB i) (xD i) (goalPd_15 i)) (piC (xA i) (xB i) (xD i) (yNadd 0 (yNat (cpP (xA i) (xB i) (xD i))))))=false->mst (yNeq 0 0) (goalPd_9 n i N a b l d))))))))/\(yLt 0 (xA i)=false->mst (yNeq 0 0) (goalPd_9 n i N a b l d))))))))/\(yEq (cpH (xA i) (xB i) (xD i)) (1:Int)=false->(goalPd_11 i n N a b l d)/\(yLt 0 (xA i)=false->mst (yNeq 0 0) (goalPd_3 n i N a b l d))))/\(xP i=false->(goalPd_11 i n N a b l d)/\(yLt 0 (xA i)=false->mst (yNeq 0 0) (goalPd_3 n i N a b l d))))/\(xW i=false->(goalPd_11 i n N a b l d)/\(yLt 0 (xA i)=false->mst (yNeq 0 0) (goalPd_3 n i N a b l d))))))))/\(xW i=false->mst (yNeq 0 0) (mst (yNeq n n) (mst (goalPd_23 n i) (mst (preHt n (xA i) (xB i)) (mst (yNle (yNadd 0 n) n) (mst (goalPd_36 n i) (mst (preHt n (xA i) (xB i)) ((yEq (cpH (xA i) (xB i) (bpW (xA i) (xB i) (xD i))) (2:Int)=true->mst (yNeq 0 0) (mst (yNeq n n) (mst (goalPd_36 n i) (mst (preRv n (xA i) (xB i)) ((xW i=true->(xP i=true->mst (yNeq 0 0) (mst (yNeq n n) (mst (goalPd_46 n i) (mst (preHsp n (xA i) (xB i)) (((piR (xA i) (xB i) (rvD (xA i) (xB i) (bpW (xA i) (xB i) (xD i))))=true->n=n/\(∀ (i_1:Nat),Nat.succ i_1<=n->pdC (Nat.succ N) a b l d i_1=piC (xA i) (xB i) (rvD (xA i) (xB i) (bpW (xA i) (xB i) (xD i))) i_1/\True)/\true=true)/\((piR (xA i) (xB i) (rvD (xA i) (xB i) (bpW (xA i) (xB i) (xD i))))=false->(yLt 0 (xA i)=true->mst (yIn (yWrap .i64 (ySub (xA i) 1)) n) (mst (yNlt (goalPd_15 i) n) (mst (yIn (goalPd_4 i) n) (mst (yNlt (yNadd 0 (yNat (goalPd_4 i))) n) (mst (true) ((yNot (yLt (piC (xA i) (xB i) (rvD (xA i) (xB i) (bpW (xA i) (xB i) (xD i))) (goalPd_15 i)) (piC (xA i) (xB i) (rvD (xA i) (xB i) (bpW (xA i) (xB i) (xD i))) (yNadd 0 (yNat (goalPd_4 i)))))=true->mst (yNeq 0 0) (mst (yNeq n n) (mst (yCol (CK.int .u64) n λ (i_1:Nat)=>AV.y .u64 (piC (xA i) (xB i) (rvD (xA i) (xB i) (bpW (xA i) (xB i) (xD i))) i_1)) (mst (prePq n (xA i) (xB i) (goalPd_4 i)) (true=true/\∃ (i':PdI),prPd N n a b l d i'/\Nat.succ (mXQ i')<=mXQ i/\true=true/\(xA i'=peM (xA i) (xB i) (goalPd_4 i) (goalPd_13 i))/\xB i'=xB i/\xL i'=yWrap .i64 (ySub (xL i) 1)/\xW i'=xW i/\xP i'=xP i/\n=n/\(∀ (i_1:Nat),Nat.succ i_1<=n->xD i' i_1=peC (xA i) (xB i) (goalPd_4 i) (goalPd_13 i) i_1/\True)/\true=true)))))/\(yNot (yLt (piC (xA i) (xB i) (rvD (xA i) (xB i) (bpW (xA i) (xB i) (xD i))) (goalPd_15 i)) (piC (xA i) (xB i) (rvD (xA i) (xB i) (bpW (xA i) (xB i) (xD i))) (yNadd 0 (yNat (goalPd_4 i)))))=false->mst (yNeq 0 0) (goalPd_7 n i N a b l d))))))))/\(yLt 0 (xA i)=false->mst (yNeq 0 0) (goalPd_7 n i N a b l d))))))))/\(xP i=false->(goalPd_20 i n N a b l d)/\(yLt 0 (xA i)=false->mst (yNeq 0 0) (goalPd_1 n i N a b l d))))/\(xW i=false->(goalPd_20 i n N a b l d)/\(yLt 0 (xA i)=false->mst (yNeq 0 0) (goalPd_1 n i N a b l d))))))))/\(yEq (cpH (xA i) (xB i) (bpW (xA i) (xB i) (xD i))) (2:Int)=false->(xW i=true->(xP i=true->(yEq (cpH (xA i) (xB i) (bpW (xA i) (xB i) (xD i))) (1:Int)=true->mst (yNeq 0 0) (mst (yNeq n n) (mst (goalPd_36 n i) (mst (preHsp n (xA i) (xB i)) (((piR (xA i) (xB i) (bpW (xA i) (xB i) (xD i)))=true->n=n/\(∀ (i_1:Nat),Nat.succ i_1<=n->pdC (Nat.succ N) a b l d i_1=piC (xA i) (xB i) (bpW (xA i) (xB i) (xD i)) i_1/\True)/\true=true)/\((piR (xA i) (xB i) (bpW (xA i) (xB i) (xD i)))=false->(yLt 0 (xA i)=true->mst (yIn (yWrap .i64 (ySub (xA i) 1)) n) (mst (yNlt (goalPd_15 i) n) (mst (yIn (cpP (xA i) (xB i) (bpW (xA i) (xB i) (xD i))) n) (mst (yNlt (goalPd_38 i) n) (mst (true) ((yNot (yLt (piC (xA i) (xB i) (bpW (xA i) (xB i) (xD i)) (goalPd_15 i)) (piC (xA i) (xB i) (bpW (xA i) (xB i) (xD i)) (goalPd_38 i)))=true->mst (yNeq 0 0) (mst (yNeq n n) (mst (yCol (CK.int .u64) n λ (i_1:Nat)=>AV.y .u64 (piC (xA i) (xB i) (bpW (xA i) (xB i) (xD i)) i_1)) (mst (prePq n (xA i) (xB i) (cpP (xA i) (xB i) (bpW (xA i) (xB i) (xD i)))) (true=true/\∃ (i':PdI),prPd N n a b l d i'/\Nat.succ (mXQ i')<=mXQ i/\true=true/\(xA i'=peM (xA i) (xB i) (cpP (xA i) (xB i) (bpW (xA i) (xB i) (xD i))) (piC (xA i) (xB i) (bpW (xA i) (xB i) (xD i))))/\xB i'=xB i/\xL i'=yWrap .i64 (ySub (xL i) 1)/\xW i'=xW i/\xP i'=xP i/\n=n/\(∀ (i_1:Nat),Nat.succ i_1<=n->xD i' i_1=peC (xA i) (xB i) (cpP (xA i) (xB i) (bpW (xA i) (xB i) (xD i))) (piC (xA i) (xB i) (bpW (xA i) (xB i) (xD i))) i_1/\True)/\true=true)))))/\(yNot (yLt (piC (xA i) (xB i) (bpW (xA i) (xB i) (xD i)) (goalPd_15 i)) (piC (xA i) (xB i) (bpW (xA i) (xB i) (xD i)) (goalPd_38 i)))=false->mst (yNeq 0 0) (goalPd_6 n i N a b l d))))))))/\(yLt 0 (xA i)=false->mst (yNeq 0 0) (goalPd_6 n i N a b l d))))))))/\(yEq (cpH (xA i) (xB i) (bpW (xA i) (xB i) (xD i))) (1:Int)=false->(goalPd_10 i n N a b l d)/\(yLt 0 (xA i)=false->mst (yNeq 0 0) (goalPd_0 n i N a b l d))))/\(xP i=false->(goalPd_10 i n N a b l d)/\(yLt 0 (xA i)=false->mst (yNeq 0 0) (goalPd_0 n i N a b l d))))/\(xW i=false->(goalPd_10 i n N a b l d)/\(yLt 0 (xA i)=false->mst (yNeq 0 0) (goalPd_0 n i N a b l d)))))))))))))))
theorem goalPd_eq:goalPd=goalPdV:=by kernel_rfl
set_option maxHeartbeats 8000000 in
theorem goalPd_vc:goalPdV:=by
 delta goalPdV
 intro N nl n d a b l hp0
 obtain ⟨p1,p2,p3,p4,p5,p6,p7⟩:=of_decide_eq_true hp0
 refine ⟨rfl,⟨⟨⟨a,b,l,true,true,d⟩,_⟩,prP_in ⟨p2,p3,p4,p5,p6,Int.le_refl _⟩ (Nat.le_refl _),rfl,rfl,rfl,rfl,rfl,rfl,rfl,λ q _=>⟨rfl,trivial⟩,rfl⟩,λ g p hq=>?_⟩
 obtain ⟨i1,i2,i3,i4,i5,i6⟩:=hq.1
 have out:pdB p.s=false->∀ q,pdC (Nat.succ N) a b l d q=pdZ p.s q:=λ h q=>by
  show pdZ (pdW N a b l d) q=_
  rw [show pdW N a b l d=p.s from prP_out hq h]
 have pl:∀ L:Int,pdl p.s=L->¬ p.s.l=0->0<=L/\L<=100:=λ L e h=>by
  rw [<- e];unfold pdl;split <;> omega
 refine ⟨λ h12=>?_,λ h12=>⟨λ hl=>?_,λ hl=>?_⟩⟩
 . have h12:p.s.b - p.s.a<=12:=by
    have h3:yWrap .i64 (p.s.b - p.s.a)<=12:=of_decide_eq_true h12
    rwa [wrap64 (by omega) (by omega)] at h3
   simp (disch:=omega) only [pS,goalPd_23]
   exact λ q _=>by rw [out (decide_eq_false λ x=>by omega)];unfold pdZ;rw [if_pos h12];rfl
 . have h12:¬ p.s.b - p.s.a<=12:=by
    have h3:¬ yWrap .i64 (p.s.b - p.s.a)<=12:=of_decide_eq_false h12
    rwa [wrap64 (by omega) (by omega)] at h3
   have hl:p.s.l=0:=of_decide_eq_true hl
   simp (disch:=omega) only [pS,goalPd_23,preHsp_t]
   exact λ q _=>by rw [out (decide_eq_false λ x=>x.2.1 hl)];unfold pdZ;rw [if_neg h12,if_pos hl]
 have h12:¬ p.s.b - p.s.a<=12:=by
  have h3:¬ yWrap .i64 (p.s.b - p.s.a)<=12:=of_decide_eq_false h12
  rwa [wrap64 (by omega) (by omega)] at h3
 have hl:¬ p.s.l=0:=of_decide_eq_false hl
 have bT:(pdt p.s=true->piR p.s.a p.s.b (pd2 p.s)=false)->pdB p.s=true:=λ h=>decide_eq_true ⟨by omega,hl,λ x=>by rw [h x.1] at x;exact absurd x.2 (by decide)⟩
 have goE:∀ (D:Nat->Int) (PV L:Int),pd3 p.s=D->pdv p.s=PV->pdl p.s=L->(pdt p.s=true->piR p.s.a p.s.b (pd2 p.s)=false)->0 < p.s.a->¬ D (p.s.a - 1).toNat < D PV.toNat →
  ∃ i',prPd N n a b l d i'/\mXQ i' < mXQ p/\i'.s.a=peM p.s.a p.s.b PV D/\i'.s.b=p.s.b/\i'.s.l=L/\i'.s.w=p.s.w/\i'.s.p=p.s.p/\∀ q:Nat,q < n->i'.s.d q=peC p.s.a p.s.b PV D q:=λ D PV L e1 e2 e3 hB ha h=>by
  have m:=pe_in (a:=p.s.a) (b:=p.s.b) (by omega) PV D
  have l:=pl L e3 hl
  have e:pdF (pdC N) p.s=⟨peM p.s.a p.s.b PV D,p.s.b,L,p.s.w,p.s.p,peC p.s.a p.s.b PV D⟩:=by
   unfold pdF
   rw [if_pos (show pdq p.s=true from decide_eq_true ⟨ha,by rw [e1,e2];exact h⟩),e1,e2,e3]
  have h9:=prP_go hq (bT hB) (by rw [e];exact ⟨show 0<=peM p.s.a p.s.b PV D by omega,m.2,i3,l.1,l.2,show p.s.b - peM p.s.a p.s.b PV D<=b - a by omega⟩) (by rw [e];show (p.s.b - peM p.s.a p.s.b PV D).toNat < (p.s.b - p.s.a).toNat;omega)
  rw [e] at h9
  exact ⟨_,h9.1,h9.2,rfl,rfl,rfl,rfl,rfl,λ _ _=>rfl⟩
 have goL:∀ (D:Nat->Int) (PV L:Int),pd3 p.s=D->pdv p.s=PV->pdl p.s=L->(pdt p.s=true->piR p.s.a p.s.b (pd2 p.s)=false)->¬ (0 < p.s.a/\¬ D (p.s.a - 1).toNat < D PV.toNat)->ptM p.s.a p.s.b PV D - p.s.a < p.s.b - ptM p.s.a p.s.b PV D->∀ P:Bool,ptA p.s.a p.s.b PV D=P →
  ∃ i',prPd N n a b l d i'/\mXQ i' < mXQ p/\i'.s.a=ptM p.s.a p.s.b PV D + 1/\i'.s.b=p.s.b/\i'.s.l=L/\i'.s.w=yLe ((p.s.b - p.s.a) / 8) (ptM p.s.a p.s.b PV D - p.s.a)/\i'.s.p=P/\∀ q:Nat,q < n->i'.s.d q=pdC N p.s.a (ptM p.s.a p.s.b PV D) L (ptC p.s.a p.s.b PV D) q:=λ D PV L e1 e2 e3 hB hne h P hP=>by
  have m:=pt_in (a:=p.s.a) (b:=p.s.b) (by omega) PV D
  have l:=pl L e3 hl
  have em:pdm p.s=ptM p.s.a p.s.b PV D:=by unfold pdm;rw [e1,e2]
  have e:pdF (pdC N) p.s=⟨ptM p.s.a p.s.b PV D + 1,p.s.b,L,yLe ((p.s.b - p.s.a) / 8) (ptM p.s.a p.s.b PV D - p.s.a),P,pdC N p.s.a (ptM p.s.a p.s.b PV D) L (ptC p.s.a p.s.b PV D)⟩:=by
   unfold pdF
   have hq':pdq p.s=false:=decide_eq_false (by rw [e1,e2];exact hne)
   rw [hq',if_neg Bool.false_ne_true,em,if_pos h,e1,e2,e3,hP]
  have h9:=prP_go hq (bT hB) (by rw [e];exact ⟨show 0<=ptM p.s.a p.s.b PV D + 1 by omega,show ptM p.s.a p.s.b PV D + 1<=p.s.b by omega,i3,l.1,l.2,show p.s.b - (ptM p.s.a p.s.b PV D + 1)<=b - a by omega⟩) (by rw [e];show (p.s.b - (ptM p.s.a p.s.b PV D + 1)).toNat < (p.s.b - p.s.a).toNat;omega)
  rw [e] at h9
  exact ⟨_,h9.1,h9.2,rfl,rfl,rfl,rfl,rfl,λ _ _=>rfl⟩
 have goR:∀ (D:Nat->Int) (PV L:Int),pd3 p.s=D->pdv p.s=PV->pdl p.s=L->(pdt p.s=true->piR p.s.a p.s.b (pd2 p.s)=false)->¬ (0 < p.s.a/\¬ D (p.s.a - 1).toNat < D PV.toNat)->¬ ptM p.s.a p.s.b PV D - p.s.a < p.s.b - ptM p.s.a p.s.b PV D->∀ P:Bool,ptA p.s.a p.s.b PV D=P →
  ∃ i',prPd N n a b l d i'/\mXQ i' < mXQ p/\i'.s.a=p.s.a/\i'.s.b=ptM p.s.a p.s.b PV D/\i'.s.l=L/\i'.s.w=yLe ((p.s.b - p.s.a) / 8) (p.s.b - ptM p.s.a p.s.b PV D)/\i'.s.p=P/\∀ q:Nat,q < n->i'.s.d q=pdC N (ptM p.s.a p.s.b PV D + 1) p.s.b L (ptC p.s.a p.s.b PV D) q:=λ D PV L e1 e2 e3 hB hne h P hP=>by
  have m:=pt_in (a:=p.s.a) (b:=p.s.b) (by omega) PV D
  have l:=pl L e3 hl
  have em:pdm p.s=ptM p.s.a p.s.b PV D:=by unfold pdm;rw [e1,e2]
  have e:pdF (pdC N) p.s=⟨p.s.a,ptM p.s.a p.s.b PV D,L,yLe ((p.s.b - p.s.a) / 8) (p.s.b - ptM p.s.a p.s.b PV D),P,pdC N (ptM p.s.a p.s.b PV D + 1) p.s.b L (ptC p.s.a p.s.b PV D)⟩:=by
   unfold pdF
   have hq':pdq p.s=false:=decide_eq_false (by rw [e1,e2];exact hne)
   rw [hq',if_neg Bool.false_ne_true,em,if_neg h,e1,e2,e3,hP]
  have h9:=prP_go hq (bT hB) (by rw [e];exact ⟨i1,m.1,show ptM p.s.a p.s.b PV D<=n by omega,l.1,l.2,show ptM p.s.a p.s.b PV D - p.s.a<=b - a by omega⟩) (by rw [e];show (ptM p.s.a p.s.b PV D - p.s.a).toNat < (p.s.b - p.s.a).toNat;omega)
  rw [e] at h9
  exact ⟨_,h9.1,h9.2,rfl,rfl,rfl,rfl,rfl,λ _ _=>rfl⟩
 rcases Bool.eq_false_or_eq_true p.s.w with hw | hw
 . by_cases hH:cpH p.s.a p.s.b p.s.d=2
   . rcases Bool.eq_false_or_eq_true p.s.p with hp | hp
     . have c1:=cp_in (a:=p.s.a) (b:=p.s.b) (by omega) p.s.d
       have m1:=pt_in (a:=p.s.a) (b:=p.s.b) (by omega) (p.s.b - 1 - (cpP p.s.a p.s.b p.s.d - p.s.a)) (piC p.s.a p.s.b (rvD p.s.a p.s.b p.s.d))
       have m2:=pe_in (a:=p.s.a) (b:=p.s.b) (by omega) (p.s.b - 1 - (cpP p.s.a p.s.b p.s.d - p.s.a)) (piC p.s.a p.s.b (rvD p.s.a p.s.b p.s.d))
       have f3:pd3 p.s=(piC p.s.a p.s.b (rvD p.s.a p.s.b p.s.d)):=by simp [pd1,pdl,pd2,pdv,pdt,pd3,hw,hp,hH]
       have fv:pdv p.s=(p.s.b - 1 - (cpP p.s.a p.s.b p.s.d - p.s.a)):=by simp [pd1,pdl,pd2,pdv,pdt,pd3,hw,hp,hH]
       have fl:pdl p.s=p.s.l:=by simp [pd1,pdl,pd2,pdv,pdt,pd3,hw,hp,hH]
       have part:(pdt p.s=true->piR p.s.a p.s.b (pd2 p.s)=false)->¬ (0 < p.s.a/\¬ (piC p.s.a p.s.b (rvD p.s.a p.s.b p.s.d)) (p.s.a - 1).toNat < (piC p.s.a p.s.b (rvD p.s.a p.s.b p.s.d)) (p.s.b - 1 - (cpP p.s.a p.s.b p.s.d - p.s.a)).toNat)->goalPd_8 n p N a b l d:=λ hB hne=>by
        unfold goalPd_8
        simp (disch:=omega) only [pS,prePq_t,prePd_t,goalPd_14,goalPd_16,goalPd_24,goalPd_36,goalPd_43,goalPd_4,goalPd_17,goalPd_27,goalPd_44,goalPd_46,goalPd_2,goalPd_23,goalPd_29,goalPd_30,goalPd_37,goalPd_40,goalPd_25,goalPd_26,goalPd_34,goalPd_35,goalPd_12,goalPd_22,goalPd_39,goalPd_13,goalPd_32,goalPd_33,goalPd_41,goalPd_42,goalPd_18,goalPd_28,goalPd_45,goalPd_19,goalPd_31,goalPd_47,goalPd_15,goalPd_38]
        exact ⟨λ hA=>⟨λ h=>goL _ _ _ f3 fv fl hB hne h _ hA,λ h=>goR _ _ _ f3 fv fl hB hne h _ hA⟩,λ hA=>⟨λ h=>goL _ _ _ f3 fv fl hB hne h _ hA,λ h=>goR _ _ _ f3 fv fl hB hne h _ hA⟩⟩
       simp (disch:=omega) only [pS,prePq_t,prePd_t,preHsp_t,preHt_t,preRv_t,hw,hp,hH,goalPd_14,goalPd_16,goalPd_24,goalPd_36,goalPd_43,goalPd_4,goalPd_17,goalPd_27,goalPd_44,goalPd_46,goalPd_2,goalPd_23,goalPd_29,goalPd_30,goalPd_37,goalPd_40,goalPd_25,goalPd_26,goalPd_34,goalPd_35,goalPd_12,goalPd_22,goalPd_39,goalPd_13,goalPd_32,goalPd_33,goalPd_41,goalPd_42,goalPd_18,goalPd_28,goalPd_45,goalPd_19,goalPd_31,goalPd_47,goalPd_15,goalPd_38,goalPd_10,goalPd_11,goalPd_20,goalPd_21]
       have ft:pdt p.s=true:=by simp [pd1,pdl,pd2,pdv,pdt,pd3,hw,hp,hH]
       have f2:pd2 p.s=(rvD p.s.a p.s.b p.s.d):=by simp [pd1,pdl,pd2,pdv,pdt,pd3,hw,hp,hH]
       refine ⟨λ hR=>λ q _=>?_,λ hR=>?_⟩
       . rw [out (decide_eq_false λ x=>x.2.2 ⟨ft,by rw [f2];exact hR⟩)]
         unfold pdZ
         rw [if_neg (by omega),if_neg hl,f3]
       have hB:pdt p.s=true->piR p.s.a p.s.b (pd2 p.s)=false:=λ _=>by rw [f2];exact hR
       refine ⟨λ ha=>?_,λ ha=>part hB λ x=>ha x.1⟩
       simp (disch:=omega) only [pS,prePq_t]
       exact ⟨λ h=>by have x:=goE _ _ _ f3 fv fl hB ha h;simp only [hw,hp,hH] at x;exact x,λ h=>part hB λ x=>x.2 h⟩
     . have c1:=cp_in (a:=p.s.a) (b:=p.s.b) (by omega) p.s.d
       have m1:=pt_in (a:=p.s.a) (b:=p.s.b) (by omega) (p.s.b - 1 - (cpP p.s.a p.s.b p.s.d - p.s.a)) (rvD p.s.a p.s.b p.s.d)
       have m2:=pe_in (a:=p.s.a) (b:=p.s.b) (by omega) (p.s.b - 1 - (cpP p.s.a p.s.b p.s.d - p.s.a)) (rvD p.s.a p.s.b p.s.d)
       have f3:pd3 p.s=(rvD p.s.a p.s.b p.s.d):=by simp [pd1,pdl,pd2,pdv,pdt,pd3,hw,hp,hH]
       have fv:pdv p.s=(p.s.b - 1 - (cpP p.s.a p.s.b p.s.d - p.s.a)):=by simp [pd1,pdl,pd2,pdv,pdt,pd3,hw,hp,hH]
       have fl:pdl p.s=p.s.l:=by simp [pd1,pdl,pd2,pdv,pdt,pd3,hw,hp,hH]
       have part:(pdt p.s=true->piR p.s.a p.s.b (pd2 p.s)=false)->¬ (0 < p.s.a/\¬ (rvD p.s.a p.s.b p.s.d) (p.s.a - 1).toNat < (rvD p.s.a p.s.b p.s.d) (p.s.b - 1 - (cpP p.s.a p.s.b p.s.d - p.s.a)).toNat)->goalPd_5 n p N a b l d:=λ hB hne=>by
        unfold goalPd_5
        simp (disch:=omega) only [pS,prePq_t,prePd_t,goalPd_14,goalPd_16,goalPd_24,goalPd_36,goalPd_43,goalPd_4,goalPd_17,goalPd_27,goalPd_44,goalPd_46,goalPd_2,goalPd_23,goalPd_29,goalPd_30,goalPd_37,goalPd_40,goalPd_25,goalPd_26,goalPd_34,goalPd_35,goalPd_12,goalPd_22,goalPd_39,goalPd_13,goalPd_32,goalPd_33,goalPd_41,goalPd_42,goalPd_18,goalPd_28,goalPd_45,goalPd_19,goalPd_31,goalPd_47,goalPd_15,goalPd_38]
        exact ⟨λ hA=>⟨λ h=>goL _ _ _ f3 fv fl hB hne h _ hA,λ h=>goR _ _ _ f3 fv fl hB hne h _ hA⟩,λ hA=>⟨λ h=>goL _ _ _ f3 fv fl hB hne h _ hA,λ h=>goR _ _ _ f3 fv fl hB hne h _ hA⟩⟩
       simp (disch:=omega) only [pS,prePq_t,prePd_t,preHsp_t,preHt_t,preRv_t,hw,hp,hH,goalPd_14,goalPd_16,goalPd_24,goalPd_36,goalPd_43,goalPd_4,goalPd_17,goalPd_27,goalPd_44,goalPd_46,goalPd_2,goalPd_23,goalPd_29,goalPd_30,goalPd_37,goalPd_40,goalPd_25,goalPd_26,goalPd_34,goalPd_35,goalPd_12,goalPd_22,goalPd_39,goalPd_13,goalPd_32,goalPd_33,goalPd_41,goalPd_42,goalPd_18,goalPd_28,goalPd_45,goalPd_19,goalPd_31,goalPd_47,goalPd_15,goalPd_38,goalPd_10,goalPd_11,goalPd_20,goalPd_21]
       have hB:pdt p.s=true->piR p.s.a p.s.b (pd2 p.s)=false:=λ e=>absurd e (by simp [pd1,pdl,pd2,pdv,pdt,pd3,hw,hp,hH])
       refine ⟨λ ha=>?_,λ ha=>part hB λ x=>ha x.1⟩
       simp (disch:=omega) only [pS,prePq_t]
       exact ⟨λ h=>by have x:=goE _ _ _ f3 fv fl hB ha h;simp only [hw,hp,hH] at x;exact x,λ h=>part hB λ x=>x.2 h⟩
   . rcases Bool.eq_false_or_eq_true p.s.p with hp | hp
     . by_cases hK:cpH p.s.a p.s.b p.s.d=1
       . have c1:=cp_in (a:=p.s.a) (b:=p.s.b) (by omega) p.s.d
         have m1:=pt_in (a:=p.s.a) (b:=p.s.b) (by omega) (cpP p.s.a p.s.b p.s.d) (piC p.s.a p.s.b p.s.d)
         have m2:=pe_in (a:=p.s.a) (b:=p.s.b) (by omega) (cpP p.s.a p.s.b p.s.d) (piC p.s.a p.s.b p.s.d)
         have f3:pd3 p.s=(piC p.s.a p.s.b p.s.d):=by simp [pd1,pdl,pd2,pdv,pdt,pd3,hw,hp,hH,hK]
         have fv:pdv p.s=(cpP p.s.a p.s.b p.s.d):=by simp [pd1,pdl,pd2,pdv,pdt,pd3,hw,hp,hH,hK]
         have fl:pdl p.s=p.s.l:=by simp [pd1,pdl,pd2,pdv,pdt,pd3,hw,hp,hH,hK]
         have part:(pdt p.s=true->piR p.s.a p.s.b (pd2 p.s)=false)->¬ (0 < p.s.a/\¬ (piC p.s.a p.s.b p.s.d) (p.s.a - 1).toNat < (piC p.s.a p.s.b p.s.d) (cpP p.s.a p.s.b p.s.d).toNat)->goalPd_9 n p N a b l d:=λ hB hne=>by
          unfold goalPd_9
          simp (disch:=omega) only [pS,prePq_t,prePd_t,goalPd_14,goalPd_16,goalPd_24,goalPd_36,goalPd_43,goalPd_4,goalPd_17,goalPd_27,goalPd_44,goalPd_46,goalPd_2,goalPd_23,goalPd_29,goalPd_30,goalPd_37,goalPd_40,goalPd_25,goalPd_26,goalPd_34,goalPd_35,goalPd_12,goalPd_22,goalPd_39,goalPd_13,goalPd_32,goalPd_33,goalPd_41,goalPd_42,goalPd_18,goalPd_28,goalPd_45,goalPd_19,goalPd_31,goalPd_47,goalPd_15,goalPd_38]
          exact ⟨λ hA=>⟨λ h=>goL _ _ _ f3 fv fl hB hne h _ hA,λ h=>goR _ _ _ f3 fv fl hB hne h _ hA⟩,λ hA=>⟨λ h=>goL _ _ _ f3 fv fl hB hne h _ hA,λ h=>goR _ _ _ f3 fv fl hB hne h _ hA⟩⟩
         simp (disch:=omega) only [pS,prePq_t,prePd_t,preHsp_t,preHt_t,preRv_t,hw,hp,hH,hK,goalPd_14,goalPd_16,goalPd_24,goalPd_36,goalPd_43,goalPd_4,goalPd_17,goalPd_27,goalPd_44,goalPd_46,goalPd_2,goalPd_23,goalPd_29,goalPd_30,goalPd_37,goalPd_40,goalPd_25,goalPd_26,goalPd_34,goalPd_35,goalPd_12,goalPd_22,goalPd_39,goalPd_13,goalPd_32,goalPd_33,goalPd_41,goalPd_42,goalPd_18,goalPd_28,goalPd_45,goalPd_19,goalPd_31,goalPd_47,goalPd_15,goalPd_38,goalPd_10,goalPd_11,goalPd_20,goalPd_21]
         have ft:pdt p.s=true:=by simp [pd1,pdl,pd2,pdv,pdt,pd3,hw,hp,hH,hK]
         have f2:pd2 p.s=p.s.d:=by simp [pd1,pdl,pd2,pdv,pdt,pd3,hw,hp,hH,hK]
         refine ⟨λ hR=>λ q _=>?_,λ hR=>?_⟩
         . rw [out (decide_eq_false λ x=>x.2.2 ⟨ft,by rw [f2];exact hR⟩)]
           unfold pdZ
           rw [if_neg (by omega),if_neg hl,f3]
         have hB:pdt p.s=true->piR p.s.a p.s.b (pd2 p.s)=false:=λ _=>by rw [f2];exact hR
         refine ⟨λ ha=>?_,λ ha=>part hB λ x=>ha x.1⟩
         simp (disch:=omega) only [pS,prePq_t]
         exact ⟨λ h=>by have x:=goE _ _ _ f3 fv fl hB ha h;simp only [hw,hp,hH,hK] at x;exact x,λ h=>part hB λ x=>x.2 h⟩
       . have c1:=cp_in (a:=p.s.a) (b:=p.s.b) (by omega) p.s.d
         have m1:=pt_in (a:=p.s.a) (b:=p.s.b) (by omega) (cpP p.s.a p.s.b p.s.d) p.s.d
         have m2:=pe_in (a:=p.s.a) (b:=p.s.b) (by omega) (cpP p.s.a p.s.b p.s.d) p.s.d
         have f3:pd3 p.s=p.s.d:=by simp [pd1,pdl,pd2,pdv,pdt,pd3,hw,hp,hH,hK]
         have fv:pdv p.s=(cpP p.s.a p.s.b p.s.d):=by simp [pd1,pdl,pd2,pdv,pdt,pd3,hw,hp,hH,hK]
         have fl:pdl p.s=p.s.l:=by simp [pd1,pdl,pd2,pdv,pdt,pd3,hw,hp,hH,hK]
         have part:(pdt p.s=true->piR p.s.a p.s.b (pd2 p.s)=false)->¬ (0 < p.s.a/\¬ p.s.d (p.s.a - 1).toNat < p.s.d (cpP p.s.a p.s.b p.s.d).toNat)->goalPd_3 n p N a b l d:=λ hB hne=>by
          unfold goalPd_3
          simp (disch:=omega) only [pS,prePq_t,prePd_t,goalPd_14,goalPd_16,goalPd_24,goalPd_36,goalPd_43,goalPd_4,goalPd_17,goalPd_27,goalPd_44,goalPd_46,goalPd_2,goalPd_23,goalPd_29,goalPd_30,goalPd_37,goalPd_40,goalPd_25,goalPd_26,goalPd_34,goalPd_35,goalPd_12,goalPd_22,goalPd_39,goalPd_13,goalPd_32,goalPd_33,goalPd_41,goalPd_42,goalPd_18,goalPd_28,goalPd_45,goalPd_19,goalPd_31,goalPd_47,goalPd_15,goalPd_38]
          exact ⟨λ hA=>⟨λ h=>goL _ _ _ f3 fv fl hB hne h _ hA,λ h=>goR _ _ _ f3 fv fl hB hne h _ hA⟩,λ hA=>⟨λ h=>goL _ _ _ f3 fv fl hB hne h _ hA,λ h=>goR _ _ _ f3 fv fl hB hne h _ hA⟩⟩
         simp (disch:=omega) only [pS,prePq_t,prePd_t,preHsp_t,preHt_t,preRv_t,hw,hp,hH,hK,goalPd_14,goalPd_16,goalPd_24,goalPd_36,goalPd_43,goalPd_4,goalPd_17,goalPd_27,goalPd_44,goalPd_46,goalPd_2,goalPd_23,goalPd_29,goalPd_30,goalPd_37,goalPd_40,goalPd_25,goalPd_26,goalPd_34,goalPd_35,goalPd_12,goalPd_22,goalPd_39,goalPd_13,goalPd_32,goalPd_33,goalPd_41,goalPd_42,goalPd_18,goalPd_28,goalPd_45,goalPd_19,goalPd_31,goalPd_47,goalPd_15,goalPd_38,goalPd_10,goalPd_11,goalPd_20,goalPd_21]
         have hB:pdt p.s=true->piR p.s.a p.s.b (pd2 p.s)=false:=λ e=>absurd e (by simp [pd1,pdl,pd2,pdv,pdt,pd3,hw,hp,hH,hK])
         refine ⟨λ ha=>?_,λ ha=>part hB λ x=>ha x.1⟩
         simp (disch:=omega) only [pS,prePq_t]
         exact ⟨λ h=>by have x:=goE _ _ _ f3 fv fl hB ha h;simp only [hw,hp,hH,hK] at x;exact x,λ h=>part hB λ x=>x.2 h⟩
     . have c1:=cp_in (a:=p.s.a) (b:=p.s.b) (by omega) p.s.d
       have m1:=pt_in (a:=p.s.a) (b:=p.s.b) (by omega) (cpP p.s.a p.s.b p.s.d) p.s.d
       have m2:=pe_in (a:=p.s.a) (b:=p.s.b) (by omega) (cpP p.s.a p.s.b p.s.d) p.s.d
       have f3:pd3 p.s=p.s.d:=by simp [pd1,pdl,pd2,pdv,pdt,pd3,hw,hp,hH]
       have fv:pdv p.s=(cpP p.s.a p.s.b p.s.d):=by simp [pd1,pdl,pd2,pdv,pdt,pd3,hw,hp,hH]
       have fl:pdl p.s=p.s.l:=by simp [pd1,pdl,pd2,pdv,pdt,pd3,hw,hp,hH]
       have part:(pdt p.s=true->piR p.s.a p.s.b (pd2 p.s)=false)->¬ (0 < p.s.a/\¬ p.s.d (p.s.a - 1).toNat < p.s.d (cpP p.s.a p.s.b p.s.d).toNat)->goalPd_3 n p N a b l d:=λ hB hne=>by
        unfold goalPd_3
        simp (disch:=omega) only [pS,prePq_t,prePd_t,goalPd_14,goalPd_16,goalPd_24,goalPd_36,goalPd_43,goalPd_4,goalPd_17,goalPd_27,goalPd_44,goalPd_46,goalPd_2,goalPd_23,goalPd_29,goalPd_30,goalPd_37,goalPd_40,goalPd_25,goalPd_26,goalPd_34,goalPd_35,goalPd_12,goalPd_22,goalPd_39,goalPd_13,goalPd_32,goalPd_33,goalPd_41,goalPd_42,goalPd_18,goalPd_28,goalPd_45,goalPd_19,goalPd_31,goalPd_47,goalPd_15,goalPd_38]
        exact ⟨λ hA=>⟨λ h=>goL _ _ _ f3 fv fl hB hne h _ hA,λ h=>goR _ _ _ f3 fv fl hB hne h _ hA⟩,λ hA=>⟨λ h=>goL _ _ _ f3 fv fl hB hne h _ hA,λ h=>goR _ _ _ f3 fv fl hB hne h _ hA⟩⟩
       simp (disch:=omega) only [pS,prePq_t,prePd_t,preHsp_t,preHt_t,preRv_t,hw,hp,hH,goalPd_14,goalPd_16,goalPd_24,goalPd_36,goalPd_43,goalPd_4,goalPd_17,goalPd_27,goalPd_44,goalPd_46,goalPd_2,goalPd_23,goalPd_29,goalPd_30,goalPd_37,goalPd_40,goalPd_25,goalPd_26,goalPd_34,goalPd_35,goalPd_12,goalPd_22,goalPd_39,goalPd_13,goalPd_32,goalPd_33,goalPd_41,goalPd_42,goalPd_18,goalPd_28,goalPd_45,goalPd_19,goalPd_31,goalPd_47,goalPd_15,goalPd_38,goalPd_10,goalPd_11,goalPd_20,goalPd_21]
       have hB:pdt p.s=true->piR p.s.a p.s.b (pd2 p.s)=false:=λ e=>absurd e (by simp [pd1,pdl,pd2,pdv,pdt,pd3,hw,hp,hH])
       refine ⟨λ ha=>?_,λ ha=>part hB λ x=>ha x.1⟩
       simp (disch:=omega) only [pS,prePq_t]
       exact ⟨λ h=>by have x:=goE _ _ _ f3 fv fl hB ha h;simp only [hw,hp,hH] at x;exact x,λ h=>part hB λ x=>x.2 h⟩
 . by_cases hH:cpH p.s.a p.s.b (bpW p.s.a p.s.b p.s.d)=2
   . have c1:=cp_in (a:=p.s.a) (b:=p.s.b) (by omega) (bpW p.s.a p.s.b p.s.d)
     have m1:=pt_in (a:=p.s.a) (b:=p.s.b) (by omega) (p.s.b - 1 - (cpP p.s.a p.s.b (bpW p.s.a p.s.b p.s.d) - p.s.a)) (rvD p.s.a p.s.b (bpW p.s.a p.s.b p.s.d))
     have m2:=pe_in (a:=p.s.a) (b:=p.s.b) (by omega) (p.s.b - 1 - (cpP p.s.a p.s.b (bpW p.s.a p.s.b p.s.d) - p.s.a)) (rvD p.s.a p.s.b (bpW p.s.a p.s.b p.s.d))
     have f3:pd3 p.s=(rvD p.s.a p.s.b (bpW p.s.a p.s.b p.s.d)):=by simp [pd1,pdl,pd2,pdv,pdt,pd3,hw,hH]
     have fv:pdv p.s=(p.s.b - 1 - (cpP p.s.a p.s.b (bpW p.s.a p.s.b p.s.d) - p.s.a)):=by simp [pd1,pdl,pd2,pdv,pdt,pd3,hw,hH]
     have fl:pdl p.s=(p.s.l - 1):=by simp [pd1,pdl,pd2,pdv,pdt,pd3,hw,hH]
     have part:(pdt p.s=true->piR p.s.a p.s.b (pd2 p.s)=false)->¬ (0 < p.s.a/\¬ (rvD p.s.a p.s.b (bpW p.s.a p.s.b p.s.d)) (p.s.a - 1).toNat < (rvD p.s.a p.s.b (bpW p.s.a p.s.b p.s.d)) (p.s.b - 1 - (cpP p.s.a p.s.b (bpW p.s.a p.s.b p.s.d) - p.s.a)).toNat)->goalPd_1 n p N a b l d:=λ hB hne=>by
      unfold goalPd_1
      simp (disch:=omega) only [pS,prePq_t,prePd_t,goalPd_14,goalPd_16,goalPd_24,goalPd_36,goalPd_43,goalPd_4,goalPd_17,goalPd_27,goalPd_44,goalPd_46,goalPd_2,goalPd_23,goalPd_29,goalPd_30,goalPd_37,goalPd_40,goalPd_25,goalPd_26,goalPd_34,goalPd_35,goalPd_12,goalPd_22,goalPd_39,goalPd_13,goalPd_32,goalPd_33,goalPd_41,goalPd_42,goalPd_18,goalPd_28,goalPd_45,goalPd_19,goalPd_31,goalPd_47,goalPd_15,goalPd_38]
      exact ⟨λ hA=>⟨λ h=>goL _ _ _ f3 fv fl hB hne h _ hA,λ h=>goR _ _ _ f3 fv fl hB hne h _ hA⟩,λ hA=>⟨λ h=>goL _ _ _ f3 fv fl hB hne h _ hA,λ h=>goR _ _ _ f3 fv fl hB hne h _ hA⟩⟩
     simp (disch:=omega) only [pS,prePq_t,prePd_t,preHsp_t,preHt_t,preRv_t,hw,hH,goalPd_14,goalPd_16,goalPd_24,goalPd_36,goalPd_43,goalPd_4,goalPd_17,goalPd_27,goalPd_44,goalPd_46,goalPd_2,goalPd_23,goalPd_29,goalPd_30,goalPd_37,goalPd_40,goalPd_25,goalPd_26,goalPd_34,goalPd_35,goalPd_12,goalPd_22,goalPd_39,goalPd_13,goalPd_32,goalPd_33,goalPd_41,goalPd_42,goalPd_18,goalPd_28,goalPd_45,goalPd_19,goalPd_31,goalPd_47,goalPd_15,goalPd_38,goalPd_10,goalPd_11,goalPd_20,goalPd_21]
     have hB:pdt p.s=true->piR p.s.a p.s.b (pd2 p.s)=false:=λ e=>absurd e (by simp [pd1,pdl,pd2,pdv,pdt,pd3,hw,hH])
     refine ⟨λ ha=>?_,λ ha=>part hB λ x=>ha x.1⟩
     simp (disch:=omega) only [pS,prePq_t]
     exact ⟨λ h=>by have x:=goE _ _ _ f3 fv fl hB ha h;simp only [hw,hH] at x;exact x,λ h=>part hB λ x=>x.2 h⟩
   . have c1:=cp_in (a:=p.s.a) (b:=p.s.b) (by omega) (bpW p.s.a p.s.b p.s.d)
     have m1:=pt_in (a:=p.s.a) (b:=p.s.b) (by omega) (cpP p.s.a p.s.b (bpW p.s.a p.s.b p.s.d)) (bpW p.s.a p.s.b p.s.d)
     have m2:=pe_in (a:=p.s.a) (b:=p.s.b) (by omega) (cpP p.s.a p.s.b (bpW p.s.a p.s.b p.s.d)) (bpW p.s.a p.s.b p.s.d)
     have f3:pd3 p.s=(bpW p.s.a p.s.b p.s.d):=by simp [pd1,pdl,pd2,pdv,pdt,pd3,hw,hH]
     have fv:pdv p.s=(cpP p.s.a p.s.b (bpW p.s.a p.s.b p.s.d)):=by simp [pd1,pdl,pd2,pdv,pdt,pd3,hw,hH]
     have fl:pdl p.s=(p.s.l - 1):=by simp [pd1,pdl,pd2,pdv,pdt,pd3,hw,hH]
     have part:(pdt p.s=true->piR p.s.a p.s.b (pd2 p.s)=false)->¬ (0 < p.s.a/\¬ (bpW p.s.a p.s.b p.s.d) (p.s.a - 1).toNat < (bpW p.s.a p.s.b p.s.d) (cpP p.s.a p.s.b (bpW p.s.a p.s.b p.s.d)).toNat)->goalPd_0 n p N a b l d:=λ hB hne=>by
      unfold goalPd_0
      simp (disch:=omega) only [pS,prePq_t,prePd_t,goalPd_14,goalPd_16,goalPd_24,goalPd_36,goalPd_43,goalPd_4,goalPd_17,goalPd_27,goalPd_44,goalPd_46,goalPd_2,goalPd_23,goalPd_29,goalPd_30,goalPd_37,goalPd_40,goalPd_25,goalPd_26,goalPd_34,goalPd_35,goalPd_12,goalPd_22,goalPd_39,goalPd_13,goalPd_32,goalPd_33,goalPd_41,goalPd_42,goalPd_18,goalPd_28,goalPd_45,goalPd_19,goalPd_31,goalPd_47,goalPd_15,goalPd_38]
      exact ⟨λ hA=>⟨λ h=>goL _ _ _ f3 fv fl hB hne h _ hA,λ h=>goR _ _ _ f3 fv fl hB hne h _ hA⟩,λ hA=>⟨λ h=>goL _ _ _ f3 fv fl hB hne h _ hA,λ h=>goR _ _ _ f3 fv fl hB hne h _ hA⟩⟩
     simp (disch:=omega) only [pS,prePq_t,prePd_t,preHsp_t,preHt_t,preRv_t,hw,hH,goalPd_14,goalPd_16,goalPd_24,goalPd_36,goalPd_43,goalPd_4,goalPd_17,goalPd_27,goalPd_44,goalPd_46,goalPd_2,goalPd_23,goalPd_29,goalPd_30,goalPd_37,goalPd_40,goalPd_25,goalPd_26,goalPd_34,goalPd_35,goalPd_12,goalPd_22,goalPd_39,goalPd_13,goalPd_32,goalPd_33,goalPd_41,goalPd_42,goalPd_18,goalPd_28,goalPd_45,goalPd_19,goalPd_31,goalPd_47,goalPd_15,goalPd_38,goalPd_10,goalPd_11,goalPd_20,goalPd_21]
     have hB:pdt p.s=true->piR p.s.a p.s.b (pd2 p.s)=false:=λ e=>absurd e (by simp [pd1,pdl,pd2,pdv,pdt,pd3,hw,hH])
     refine ⟨λ ha=>?_,λ ha=>part hB λ x=>ha x.1⟩
     simp (disch:=omega) only [pS,prePq_t]
     exact ⟨λ h=>by have x:=goE _ _ _ f3 fv fl hB ha h;simp only [hw,hH] at x;exact x,λ h=>part hB λ x=>x.2 h⟩
theorem goalPd_tt:(goalPd)=True:=goalPd_eq.trans (eq_true goalPd_vc)
theorem goalPd_ok:goalPd:=@ft' goalPd goalPd_tt
theorem smIs6I (hm:Try.prog.follows .mixedOrders=true):SmCall Try.prog 83 (λ args h=>(ctX [mU,.sc,.sc] (.tup []) fIs6 args h).sel):=smIs6 hm
theorem smRv (hm:Try.prog.follows .mixedOrders=true):SmCall Try.prog 87 (λ args h=>(ctX [mU,.sc,.sc] (.tup []) fRv args h).sel):=
 ctX_ok hm noSm_ok (λ ds r post h=>by
  unfold fRv at h
  split at h
  . rename_i nl n d x y
    simp only [sI,Prod.mk.injEq] at h
    obtain ⟨h1,rfl,rfl⟩:=h
    obtain ⟨h2,h3,h4,h5⟩:=of_decide_eq_true h1
    obtain ⟨a,rfl⟩:=Int.eq_ofNat_of_zero_le h3
    obtain ⟨b,rfl⟩:=Int.eq_ofNat_of_zero_le (show 0<=y by omega)
    have g:=@goalRv_ok
    unfold goalRv at g
    exact ⟨annRv n a b d,1000,@g nl n d a b (decide_eq_true h2) (decide_eq_true (by omega)) (decide_eq_true (by omega))⟩
  . cases h)
theorem smPd_zero (hm:Try.prog.follows .mixedOrders=true):SmCall Try.prog 65 (λ args h=>(ctX [mU,.sc,.sc,.sc] (.tup []) (fPd 0) args h).sel):=
 ctX_ok hm noSm_ok (λ ds r post h=>by
  unfold fPd at h
  split at h
  . simp only [sI,Prod.mk.injEq] at h
    have h2:=of_decide_eq_true h.1
    exfalso;omega
  . cases h)
theorem lLs_ok (hm:Try.prog.follows .mixedOrders=true):SmOK Try.prog (smL lLs):=smL_ok ⟨smLs hm,trivial⟩
theorem smPd_step (hm:Try.prog.follows .mixedOrders=true)(N:Nat)(ih:SmCall Try.prog 65 (λ args h=>(ctX [mU,.sc,.sc,.sc] (.tup []) (fPd N) args h).sel)):SmCall Try.prog 65 (λ args h=>(ctX [mU,.sc,.sc,.sc] (.tup []) (fPd (Nat.succ N)) args h).sel):=
 ctX_ok hm (smL_ok (l:=lPd N) ⟨ih,smIs6I hm,smHsP hm (smL_ok ⟨smSd hm (lLs_ok hm),trivial⟩),smBp hm (smL_ok ⟨smLn6 hm,trivial⟩),smCp hm (smL_ok ⟨smMd3 hm (smL_ok ⟨smO2 hm (lLs_ok hm),trivial⟩),trivial⟩),smRv hm,smPi hm (lLs_ok hm),smPe hm (lLs_ok hm),smPtn hm (lLs_ok hm),smLs hm,trivial⟩) (λ ds r post h=>by
  unfold fPd at h
  split at h
  . rename_i nl n d a b l
    simp only [sI,Prod.mk.injEq] at h
    obtain ⟨h1,rfl,rfl⟩:=h
    have h2:=@goalPd_ok
    unfold goalPd at h2
    exact ⟨annPd N n a b l d,1000,@h2 N nl n d a b l h1⟩
  . cases h)
theorem smPd (hm:Try.prog.follows .mixedOrders=true):∀ N:Nat,SmCall Try.prog 65 (λ args h=>(ctX [mU,.sc,.sc,.sc] (.tup []) (fPd N) args h).sel)
 | 0=>smPd_zero hm
 | N + 1=>smPd_step hm N (smPd hm N)
def cmpU (n:Nat)(d:Nat->Int):List Int:=Lib.compact ((List.range n).map d)
def cmpuN (n:Nat)(d:Nat->Int):Nat:=(cmpU n d).length
def cmpuF (n:Nat)(d:Nat->Int)(q:Nat):Int:=(cmpU n d).getD q 0
def cmA (args:List AV)(h:AH):T (AV × AH):=
 match args with
 | [.ysl false nil id z 0 n]=>match h.get id with
   | some (.arr false e z' n' f)=>bif Nat.beq z 1 && Nat.beq z' 1 && Nat.beq e 34 then
      .must (yNeq n n') (.must (yNle n 1000000000) (.must (yCol (.int .u64) n λ i=>f i 0) (.br (yNlt 0 n) (match h.put id none with
       | some h1=>match h1.new (.arr false 34 1 (cmpuN n λ i=>toI (f i 0)) (λ q _=>.y .u64 (cmpuF n (λ i=>toI (f i 0)) q))) with
         | some h'=>.ret (.ysl false nil h1.nx 1 0 (cmpuN n λ i=>toI (f i 0)),h')
         | none=>.no
       | none=>.no) (.ret (.ysl false nil id z 0 n,h))))) else .no
   | _=>.no
 | _=>.no
end Go.Proofs.Ytknfdbilpfblnaa.Ex
end
