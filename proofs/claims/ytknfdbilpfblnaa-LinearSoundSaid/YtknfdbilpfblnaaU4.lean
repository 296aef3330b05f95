/- The texts Wb, Wc, Wd, We, Wf, Wg, Wh, Law, Wi, Sl, Wm: Walks by symbols: which temporaries a piece of code writes; how one state is found in another. Walks by symbols: one state found in another, blocks and all. Walks by symbols: the state at a loop's .. -/
import Derived.Test.YtknfdbilpfblnaaRows
import Derived.ProofKit
import Derived.Below
import Derived.KernelRfl
import Derived.Test.YtknfdbilpfblnaaU3
set_option linter.all false
set_option maxRecDepth 100000
section
noncomputable section
namespace Go.Proofs.Ytknfdbilpfblnaa.Ex
open Go
def wrO (o:Oper):List Nat:=o.dst.toList
def wrC:Code->List Nat
 | .region _ ops _=>ops.toList.flatMap wrO
 | .seq a b=>wrC a ++ wrC b
 | .cond _ a b=>wrC a ++ wrC b
 | .block _ c=>wrC c
 | .loop c=>wrC c
 | .scope c=>wrC c
 | _=>[]
section
variable {P : Program}
theorem putA_tm {s s':St}{dst:Option Tmp}{v:AV}(h:putA s dst v=some s')(t:Nat)(ht:t ∉ dst.toList):s'.tm.get (t + 1)=s.tm.get (t + 1):=by
 rw [putA_eq] at h
 split at h
 . simp only [sI] at h;subst h;rfl
 . rename_i d
   simp only [Bool.cond_eq_ite] at h
   split at h
   . split at h
     . rename_i tm htm
       simp only [sI] at h;subst h
       rw [Tr.get_set _ _ _ _ _ htm,if_neg (by simp at ht;omega)]
     . cases h
   . cases h
theorem opsA_wr {rec:Rc}{ops:List Oper}:∀ {l:List Oper} {s s':St},opsA P rec ops l s=some s'->∀ t,t ∉ l.flatMap wrO->s'.tm.get (t + 1)=s.tm.get (t + 1)
 | [],s,s',h,t,_=>by simp only [opsA_nil,sI] at h;subst h;rfl
 | o :: rest,s,s',h,t,ht=>by
   simp only [List.flatMap_cons,List.mem_append,not_or] at ht
   rw [opsA_cons] at h
   split at h
   . split at h
     . split at h
       . rename_i s1 hp
         rw [opsA_wr h t ht.2,putA_tm hp t ht.1]
       . cases h
     . cases h
   . split at h
     . rename_i s1 hp
       rw [opsA_wr h t ht.2,putA_tm hp t ht.1]
     . cases h
   . cases h
theorem drawA_wr {rec:Rc}{ops:List Oper}:∀ {l:List Oper} {i:Nat} {recs:List DR} {s s':St},drawA P rec ops l i recs s=some s'->∀ t,t ∉ l.flatMap wrO->s'.tm.get (t + 1)=s.tm.get (t + 1)
 | [],_,_,s,s',h,t,_=>by simp only [drawA,sI] at h;subst h;rfl
 | o :: rest,i,recs,s,s',h,t,ht=>by
   simp only [List.flatMap_cons,List.mem_append,not_or] at ht
   rw [drawA_cons] at h
   simp only at h
   split at h
   . cases h
   . simp only [Bool.cond_eq_ite] at h
     split at h
     . split at h
       . split at h
         . split at h
           . split at h
             . rename_i s1 hp
               rw [drawA_wr h t ht.2,putA_tm hp t ht.1]
             . cases h
           . cases h
         . cases h
       . split at h
         . rename_i s1 hp
           rw [drawA_wr h t ht.2,putA_tm hp t ht.1]
         . cases h
       . cases h
     . cases h
theorem loopA_wr {rec:Rc}{c:Code}(hr:∀ s x s',rec.code c s=some (x,s')->∀ t,t ∉ wrC c->s'.tm.get (t + 1)=s.tm.get (t + 1)):∀ {m:Nat} {s s':St} {x:AX},loopA rec m c s=some (x,s')->∀ t,t ∉ wrC c->s'.tm.get (t + 1)=s.tm.get (t + 1)
 | 0,s,s',x,h,_,_=>by simp [loopA] at h
 | m + 1,s,s',x,h,t,ht=>by
   simp only [loopA] at h
   split at h
   . rename_i s1 h1
     rw [loopA_wr hr h t ht,hr _ _ _ h1 t ht]
   . exact hr _ _ _ h t ht
theorem exec_wr {sm:FuncId->Option Sm}:∀ (n:Nat) (c:Code) (s:St) (x:AX) (s':St),exec P sm n c s=some (x,s')->∀ t,t ∉ wrC c->s'.tm.get (t + 1)=s.tm.get (t + 1)
 | 0,c,s,x,s',h,_,_=>by simp [exec] at h
 | n + 1,c,s,x,s',h,t,ht=>by
   have h:execStep P ⟨exec P sm n,sm⟩ n c s=some (x,s'):=h
   have ih:=exec_wr (sm:=sm) n
   rw [execStep_eq] at h
   split at h
   . simp only [sI,Prod.mk.injEq] at h;obtain ⟨_,rfl⟩:=h;rfl
   . simp only [sI,Prod.mk.injEq] at h;obtain ⟨_,rfl⟩:=h;rfl
   . rename_i a b
     simp only [wrC,List.mem_append,not_or] at ht
     split at h
     . rename_i s1 h1
       rw [ih _ _ _ _ h t ht.2,ih _ _ _ _ h1 t ht.1]
     . exact ih _ _ _ _ h t ht.1
   . rename_i c a b
     simp only [wrC,List.mem_append,not_or] at ht
     split at h
     . simp only [Bool.cond_eq_ite] at h
       split at h
       . exact ih _ _ _ _ h t ht.1
       . exact ih _ _ _ _ h t ht.2
     . simp only [Bool.cond_eq_ite] at h
       split at h
       . exact ih _ _ _ _ h t ht.1
       . exact ih _ _ _ _ h t ht.2
     . cases h
   . rename_i id c
     simp only [wrC] at ht
     split at h
     . rename_i j s1 h1
       simp only [Bool.cond_eq_ite] at h
       split at h <;> (simp only [sI,Prod.mk.injEq] at h;obtain ⟨_,rfl⟩:=h;exact ih _ _ _ _ h1 t ht)
     . exact ih _ _ _ _ h t ht
   . exact loopA_wr (λ s x s' h=>ih _ s x s' h) h t ht
   . simp only [sI,Prod.mk.injEq] at h;obtain ⟨_,rfl⟩:=h;rfl
   . simp only [sI,Prod.mk.injEq] at h;obtain ⟨_,rfl⟩:=h;rfl
   . rename_i id ops
     split at h
     . rename_i s1 h1
       simp only [sI,Prod.mk.injEq] at h;obtain ⟨_,rfl⟩:=h
       exact opsA_wr h1 t ht
     . cases h
   . rename_i id ops
     split at h
     . rename_i s1 h1
       simp only [sI,Prod.mk.injEq] at h;obtain ⟨_,rfl⟩:=h
       exact drawA_wr h1 t ht
     . cases h
   . have hj:∀ c s,(c=.ret ∨ ∃ id,c=.exit id)->∀ x s',exec P sm n c s=some (x,s')->s'=s:=λ c s hc x s' e=>by
      cases n with
      | zero=>simp [exec] at e
      | succ n=>
        rcases hc with rfl | ⟨id,rfl⟩
        . simp only [exec,execStep_eq,sI,Prod.mk.injEq] at e;exact e.2.symm
        . simp only [exec,execStep_eq,sI,Prod.mk.injEq] at e;exact e.2.symm
     unfold rangeFuncA at h
     split at h
     . split at h
       . split at h
         . split at h
           . split at h
             . cases h
             . split at h
               . split at h
                 . simp only [sI,Prod.mk.injEq] at h;obtain ⟨_,rfl⟩:=h;rfl
                 . rw [hj _ _ (.inl rfl) _ _ h]
                 . rw [hj _ _ (.inr ⟨_,rfl⟩) _ _ h]
                 . cases h
               . cases h
             . cases h
           . cases h
         . cases h
       . cases h
     . cases h
   . exact ih _ _ _ _ h t ht
   . cases h
end
abbrev Ren:=List (Nat × Nat)
def Ren.at (ρ:Ren)(id:Nat):Option Nat:=
 match ρ with
 | []=>none
 | (c,a) :: l=>bif Nat.beq c id then some a else Ren.at l id
def bindR (x0 c a:Nat)(ρ:Ren)(K:Ren->Prop):Prop:=
 bif Nat.blt c x0 then (bif Nat.beq c a then K ρ else False) else bif Nat.blt c 4294967296 then (match ρ.at c with
 | some a'=>bif Nat.beq a a' then K ρ else False
 | none=>K ((c,a) :: ρ)) else False
def frzM (a:Nat):Nat:=Nat.add 4294967296 a
def bindF (a:Nat)(ρ:Ren)(K:Ren->Prop):Prop:=
 match ρ.at (frzM a) with
 | some a'=>bif Nat.beq a a' then K ρ else False
 | none=>K ((frzM a,a) :: ρ)
def cmpC (c a:AV):Prop:=
 match yI c,yI a with
 | some (k,n),some (k',m)=>bif eqK k k' then n=m else False
 | _,_=>match yB c,yB a with
   | some x,some y=>x=y
   | _,_=>match yS c,yS a with
     | some x,some y=>x=y
     | _,_=>False
def cmpJ (p:AV->AV->Prop)(f g:Nat->AV):Nat->Nat->Prop
 | 0,_=>True
 | n + 1,j=>p (f j) (g j)/\cmpJ p f g n (Nat.succ j)
def cmpP:Nat->AV->AV->Prop
 | 0,_,_=>False
 | d + 1,c,a=>match c with
   | .lst x nil z n f=>match a with
     | .lst x' nil' z' n' f'=>bif Nat.beq z z' && (bif x then x' else true) then nil=nil'/\n=n'/\∀ i,i < n->cmpJ (cmpP d) (f i) (f' i) z 0 else False
     | .ns=>nil=true/\n=0
     | _=>False
   | .np=>match a with | .np=>True | _=>False
   | .ns=>match a with | .ns=>True | _=>False
   | .ni=>match a with | .ni=>True | _=>False
   | c=>cmpC c a
def litG (l:List AV)(j:Nat):AV:=match nthA l j with | some v=>v | none=>.np
def cmpEs (z:Nat)(f:Nat->Nat->AV):Nat->Nat->List AV->Prop
 | 0,_,_=>True
 | n + 1,i,l=>cmpJ (cmpP 3) (f i) (litG l) z 0/\cmpEs z f n (Nat.succ i) (l.drop z)
def roomOk (u:Bool)(g:Option Nat)(z cap len n:Nat):Bool:=
 match u with
 | false=>Nat.ble len cap
 | true=>match g with | some z'=>Nat.beq z z' && Nat.blt 0 z && Nat.ble ((cap + len) * z) n | none=>false
def cmpI (k:IntKind)(n:Int)(a:AV)(ρ:Ren)(K:Ren->Prop):Prop:=
 match yI a with
 | some (k',m)=>bif eqK k k' then n=m/\K ρ else False
 | none=>False
def cmpB (b:Bool)(a:AV)(ρ:Ren)(K:Ren->Prop):Prop:=match yB a with | some y=>b=y/\K ρ | none=>False
def cmpS (l:List UInt8)(a:AV)(ρ:Ren)(K:Ren->Prop):Prop:=match yS a with | some y=>l=y/\K ρ | none=>False
mutual
def cmpV (x0:Nat)(h:AH):AV->AV->Ren->(Ren->Prop)->Prop
 | .i k n,a,ρ,K=>cmpI k n a ρ K
 | .y k n,a,ρ,K=>cmpI k n a ρ K
 | .b x,a,ρ,K=>cmpB x a ρ K
 | .yb x,a,ρ,K=>cmpB x a ρ K
 | .s l,a,ρ,K=>cmpS l a ρ K
 | .ys l,a,ρ,K=>cmpS l a ρ K
 | .ptr id off,a,ρ,K=>match a with | .ptr id' off'=>bif Nat.beq off off' then bindR x0 id id' ρ K else False | _=>False
 | .np,a,ρ,K=>match a with | .np=>K ρ | _=>False
 | .jk,a,ρ,K=>bif isCell a then K ρ else False
 | .ns,a,ρ,K=>match a with | .ns=>K ρ | _=>False
 | .es,a,ρ,K=>match a with | .es=>K ρ | _=>False
 | .nm,a,ρ,K=>match a with | .nm=>K ρ | _=>False
 | .nf,a,ρ,K=>match a with | .nf=>K ρ | _=>False
 | .ni,a,ρ,K=>match a with | .ni=>K ρ | _=>False
 | .sl id off len cap u,a,ρ,K=>match a with
   | .sl id' off' len' cap' u'=>bif Nat.beq off off' && Nat.beq len len' && Nat.beq cap cap' && (u == u') then bindR x0 id id' ρ K else False
   | _=>False
 | .mp id,a,ρ,K=>match a with | .mp id'=>bindR x0 id id' ρ K | _=>False
 | .yl id,a,ρ,K=>match a with | .yl id'=>bindR x0 id id' ρ K | _=>False
 | .fn f caps,a,ρ,K=>match a with | .fn f' caps'=>bif Nat.beq f f' then cmpL x0 h caps caps' ρ K else False | _=>False
 | .ifc t v,a,ρ,K=>match a with | .ifc t' v'=>bif Nat.beq t t' then cmpV x0 h v v' ρ K else False | _=>False
 | .agg l,a,ρ,K=>match a with | .agg l'=>cmpL x0 h l l' ρ K | _=>False
 | .tup l,a,ρ,K=>match a with | .tup l'=>cmpL x0 h l l' ρ K | _=>False
 | .o _,_,_,_=>False
 | .gl g off,a,ρ,K=>match a with | .gl g' off'=>bif Nat.beq g g' && Nat.beq off off' then K ρ else False | _=>False
 | .ysl ro nil id z o n,a,ρ,K=>match a with
   | .ysl ro' nil' id' z' o' n'=>bif (ro == ro') && Nat.beq z z' then nil=nil'/\o=o'/\n=n'/\bindR x0 id id' ρ K else False
   | .ns=>nil=true/\n=0/\K ρ
   | .sl id' 0 len 0 true=>match h.get id' with
     | some (.cells c _ (some z'))=>bif !ro && Nat.beq z z' && Nat.blt 0 z && Nat.beq c.length (len * z) && Nat.blt 0 len then nil=false/\o=0/\n=len/\bindR x0 id id' ρ K else False
     | _=>False
   | .sl id' 0 len cap false=>match h.get id' with
     | some (.cells c _ (some z'))=>bif !ro && Nat.beq z z' && Nat.blt 0 z && Nat.beq c.length (len * z) && Nat.blt 0 len && Nat.beq cap len then nil=false/\o=0/\n=len/\bindR x0 id id' ρ K else False
     | _=>False
   | _=>False
 | .yr nil id z n,a,ρ,K=>match a with
   | .yr nil' id' z' n'=>bif Nat.beq z z' then nil=nil'/\n=n'/\bindR x0 id id' ρ K else False
   | .ns=>nil=true/\n=0/\K ρ
   | _=>False
 | .ypt ro id z i j,a,ρ,K=>match a with
   | .ypt ro' id' z' i' j'=>bif (ro == ro') && Nat.beq z z' && Nat.beq j j' then i=i'/\bindR x0 id id' ρ K else False
   | _=>False
 | .ye nil,a,ρ,K=>match a with | .ye nil'=>nil=nil'/\K ρ | _=>False
 | .lst x nil z n f,a,ρ,K=>match a with
   | .lst x' nil' z' n' f'=>cmpP 3 (.lst x nil z n f) (.lst x' nil' z' n' f')/\K ρ
   | .ns=>nil=true/\n=0/\K ρ
   | .es=>bif x then False else nil=false/\n=0/\K ρ
   | .ye nil'=>nil=nil'/\n=0/\K ρ
   | .ysl false nil' id z' o n'=>match h.get id with
     | some (.arr false _ z2 n2 g)=>bif Nat.beq z z' && Nat.beq z z2 && !x then nil=nil'/\n=n'/\yNadd o n'<=n2/\(∀ i,i < n->cmpJ (cmpP 3) (f i) (g (yNadd o i)) z 0)/\bindF id ρ K else False
     | _=>False
   | .sl id off len cap u=>bif Nat.beq len 0 && !x then nil=false/\n=0/\K ρ else match h.get id with
     | some (.cells c _ g)=>match sliceA c off (len * z) with
       | some l=>bif (bif x then !u && Nat.beq len cap else true) && Nat.blt 0 len && roomOk u g z cap len c.length && allCell l then nil=false/\n=len/\cmpEs z f len 0 l/\bindF id ρ K else False
       | none=>False
     | _=>False
   | _=>False
 | .lp _ _ _,_,_,_=>False
def cmpL (x0:Nat)(h:AH):List AV->List AV->Ren->(Ren->Prop)->Prop
 | [],l,ρ,K=>match l with | []=>K ρ | _=>False
 | c :: l,as_,ρ,K=>match as_ with | a :: as'=>cmpV x0 h c a ρ (λ ρ'=>cmpL x0 h l as' ρ' K) | []=>False
end
def cmpM (x0:Nat)(h:AH):List (AV × AV × Nat)->List (AV × AV × Nat)->Ren->(Ren->Prop)->Prop
 | [],l,ρ,K=>match l with | []=>K ρ | _=>False
 | (k,v,b) :: l,as_,ρ,K=>match as_ with | (k',v',b') :: as'=>cmpV x0 h k k' ρ (λ ρ1=>cmpV x0 h v v' ρ1 (λ ρ2=>b=b'/\cmpM x0 h l as' ρ2 K)) | []=>False
def sameG:Option Nat->Option Nat->Bool
 | none,none=>true
 | some a,some b=>Nat.beq a b
 | _,_=>false
def cmpO (x0:Nat)(h:AH)(c a:AO)(ρ:Ren)(K:Ren->Prop):Prop:=
 match c,a with
 | .cells l e g,.cells l' e' g'=>bif Nat.beq e e' && sameG g g' then cmpL x0 h l l' ρ K else False
 | .arr ro e z n f,.arr ro' e' z' n' f'=>bif (ro == ro') && Nat.beq e e' && Nat.beq z z' then n=n'/\(∀ i,i < n->cmpJ (cmpP 3) (f i) (f' i) z 0)/\K ρ else False
 | .arr false e z n f,.cells l e' (some z')=>bif Nat.beq e e' && Nat.beq z z' && Nat.blt 0 z && Nat.beq (l.length / z * z) l.length then n=l.length / z/\cmpEs z f (l.length / z) 0 l/\K ρ else False
 | .map es ck,.map es' ck'=>ck=ck'/\cmpM x0 h es es' ρ K
 | .mapy k kv p v,.mapy k' kv' p' v'=>bif eqK k k' && eqK kv kv' then (∀ x,p x=p' x/\(p x=true->v x=v' x))/\K ρ else False
 | .mapy _ _ p _,.map [] _=>(∀ x,p x=false)/\K ρ
 | .mapz k z p g,.mapz k' z' p' g'=>bif eqK k k' && Nat.beq z z' then (∀ x,p x=p' x/\(p x=true->cmpJ (cmpP 3) (g x) (g' x) z 0))/\K ρ else False
 | .mapz _ _ p _,.map [] _=>(∀ x,p x=false)/\K ρ
 | .dfr b,.dfr b'=>bif b == b' then K ρ else False
 | _,_=>False
theorem beqN {a b:Nat}(h:Nat.beq a b=true):a=b:=Nat.eq_of_beq_eq_true h
def frzB (ρ:Ren)(M:Mp)(b:Nat):Bool:=ρ.any λ p=>Nat.beq p.1 (frzM p.2) && (match ρ.at p.1 with | some a=>Nat.beq a p.2 | none=>false) && (match M p.2 with | some (b',_)=>Nat.beq b b' | none=>false)
theorem Ren.at_mem {ρ:Ren}{c a:Nat}(h:ρ.at c=some a):(c,a) ∈ ρ:=by
 induction ρ with
 | nil=>simp [Ren.at] at h
 | cons p l ih=>
   obtain ⟨c',b⟩:=p
   unfold Ren.at at h
   simp only [nbeq,Bool.cond_decide] at h
   split at h
   . rename_i e;subst e;simp only [sI] at h;subst h;simp
   . exact List.mem_cons_of_mem _ (ih h)
theorem frzB_iff {ρ:Ren}{M:Mp}{b:Nat}:frzB ρ M b=true ↔ ∃ a κ,ρ.at (frzM a)=some a/\M a=some (b,κ):=by
 unfold frzB
 rw [List.any_eq_true]
 constructor
 . rintro ⟨⟨c,a⟩,_,h⟩
   simp only [Bool.and_eq_true,nbeq,decide_eq_true_eq] at h
   obtain ⟨⟨rfl,h2⟩,h3⟩:=h
   split at h2
   . rename_i a' ha
     simp only [decide_eq_true_eq] at h2;subst h2
     split at h3
     . rename_i b' κ hM
       simp only [decide_eq_true_eq] at h3;subst h3
       exact ⟨a',κ,ha,hM⟩
     . cases h3
   . cases h2
 . rintro ⟨a,κ,h1,h2⟩
   exact ⟨(frzM a,a),Ren.at_mem h1,by simp [h1,h2]⟩
def cellsW (w:World)(b:Nat):Option (Array Value):=match w.heap[b]? with | some (.cells cs _ _)=>some cs | _=>none
def MR (x0:Nat)(ρ:Ren)(M:Mp)(C:Nat->Option (Array Value)):Mp:=
 ⟨λ id=>if id < x0 then M id else if 4294967296<=id then none else match ρ.at id with | some a=>M a | none=>none,λ b=>match M.z b with | some cs=>some cs | none=>if frzB ρ M b then C b else none⟩
def Ext (ρ ρ':Ren):Prop:=∀ c a,ρ.at c=some a->ρ'.at c=some a
theorem Ext.refl (ρ:Ren):Ext ρ ρ:=λ _ _ h=>h
theorem Ext.trans {a b c:Ren}(h:Ext a b)(k:Ext b c):Ext a c:=λ x y e=>k x y (h x y e)
theorem MR_le {x0:Nat}{ρ ρ':Ren}(h:Ext ρ ρ')(M:Mp){C:Nat->Option (Array Value)}:Le (MR x0 ρ M C) (MR x0 ρ' M C):=⟨λ id p e=>by
 unfold MR at e ⊢
 simp only at e ⊢
 split
 . rename_i hlt;rw [if_pos hlt] at e;exact e
 . rename_i hlt
   rw [if_neg hlt] at e
   split
   . rename_i h2;rw [if_pos h2] at e;exact e
   . rename_i h2
     rw [if_neg h2] at e
     cases ha:ρ.at id with
     | none=>rw [ha] at e;cases e
     | some a=>rw [ha] at e;rw [h _ _ ha];exact e,λ b cs e=>by
 unfold MR at e ⊢
 simp only at e ⊢
 cases hz:M.z b with
 | some cs'=>rw [hz] at e;exact e
 | none=>
   rw [hz] at e
   simp only at e ⊢
   split at e
   . rename_i hf
     obtain ⟨a,κ,h1,h2⟩:=frzB_iff.1 hf
     rw [if_pos (frzB_iff.2 ⟨a,κ,h _ _ h1,h2⟩)];exact e
   . cases e⟩
theorem MR_zm {x0:Nat}{ρ:Ren}{M:Mp}{C:Nat->Option (Array Value)}{b:Nat}{cs:Array Value}(e:M.z b=some cs):(MR x0 ρ M C).z b=some cs:=by
 unfold MR;simp only [e]
theorem MR_zf {x0:Nat}{ρ:Ren}{M:Mp}{h:AH}{w:World}{a b κ:Nat}{cs:Array Value}{e:TypeId}{fr:Nat × Nat}(r:Rel M h w)(h1:ρ.at (frzM a)=some a)(h2:M a=some (b,κ))(h3:w.heap[b]?=some (.cells cs e fr)):(MR x0 ρ M (cellsW w)).z b=some cs:=by
 unfold MR
 cases hz:M.z b with
 | some cs'=>
   obtain ⟨_,_,h4⟩:=r.fz b cs' hz
   rw [h3] at h4
   simp only [sI,Obj.cells.injEq] at h4
   simp only [hz,h4.1]
 | none=>simp only [hz,frzB_iff.2 ⟨a,κ,h1,h2⟩,if_true,cellsW,h3]
theorem bindF_ok {a:Nat}{ρ:Ren}{K:Ren->Prop}(h:bindF a ρ K):∃ ρ',Ext ρ ρ'/\K ρ'/\ρ'.at (frzM a)=some a:=by
 unfold bindF at h
 split at h
 . rename_i a' ha
   simp only [nbeq,Bool.cond_decide] at h
   split at h
   . rename_i e;subst e;exact ⟨ρ,Ext.refl ρ,h,ha⟩
   . exact h.elim
 . rename_i ha
   refine ⟨(frzM a,a) :: ρ,λ c' a' e=>?_,h,by simp [Ren.at]⟩
   unfold Ren.at
   by_cases hc:frzM a=c'
   . subst hc;rw [ha] at e;cases e
   . simp only [nbeq,hc,decide_false,cond_false];exact e
theorem bindR_ok {x0 c a:Nat}{ρ:Ren}{K:Ren->Prop}(h:bindR x0 c a ρ K):∃ ρ',Ext ρ ρ'/\K ρ'/\∀ M C p,M.f a=some p->MR x0 ρ' M C c=some p:=by
 unfold bindR at h
 simp only [nblt,nbeq,Bool.cond_decide] at h
 split at h
 . rename_i hlt
   split at h
   . rename_i e;subst e
     exact ⟨ρ,Ext.refl ρ,h,λ M C p e=>by unfold MR;simp only;rw [if_pos hlt];exact e⟩
   . exact h.elim
 . rename_i hlt
   split at h
   case isFalse=>exact h.elim
   rename_i hlt2
   have hlt2:¬ 4294967296<=c:=by omega
   split at h
   . rename_i a' ha
     split at h
     . rename_i e;subst e
       exact ⟨ρ,Ext.refl ρ,h,λ M C p e=>by unfold MR;simp only;rw [if_neg hlt,if_neg hlt2,ha];exact e⟩
     . exact h.elim
   . rename_i ha
     refine ⟨(c,a) :: ρ,λ c' a' e=>?_,h,λ M C p e=>?_⟩
     . unfold Ren.at
       by_cases hc:c=c'
       . subst hc;rw [ha] at e;cases e
       . simp only [nbeq,hc,decide_false,cond_false];exact e
     . unfold MR;simp only;rw [if_neg hlt,if_neg hlt2];simp only [Ren.at,nbeq,decide_true,cond_true];exact e
theorem cmpC_ok {c a:AV}(h:cmpC c a){M M':Mp}{u:Value}(r:a.R M u):c.R M' u/\u.oneCell'=true:=by
 have hi:∀ {c:AV} {k n},yI c=some (k,n)->c.R M' (.int k n):=λ {c k n} hc=>by
  unfold yI at hc
  split at hc <;> first | (cases hc;done) | (simp only [sI,Prod.mk.injEq] at hc;obtain ⟨rfl,rfl⟩:=hc;rfl)
 have hb:∀ {c:AV} {b},yB c=some b->c.R M' (.bool b):=λ {c b} hc=>by
  unfold yB at hc
  split at hc <;> first | (cases hc;done) | (simp only [sI] at hc;subst hc;rfl)
 have hs:∀ {c:AV} {b},yS c=some b->c.R M' (.string ⟨b.toArray⟩):=λ {c b} hc=>by
  unfold yS at hc
  split at hc <;> first | (cases hc;done) | (simp only [sI] at hc;subst hc;rfl)
 unfold cmpC at h
 split at h
 . rename_i k n k' m h1 h2
   simp only [Bool.cond_eq_ite] at h
   split at h
   . rename_i hk
     subst h
     obtain rfl:=eqK_eq hk
     obtain rfl:=yI_ok h2 r
     exact ⟨hi h1,rfl⟩
   . exact h.elim
 . split at h
   . rename_i x y h1 h2
     subst h
     obtain rfl:=yB_ok h2 r
     exact ⟨hb h1,rfl⟩
   . split at h
     . rename_i x y h1 h2
       subst h
       obtain rfl:=yS_ok h2 r
       exact ⟨hs h1,rfl⟩
     . exact h.elim
theorem cmpJ_ok {p:AV->AV->Prop}{f g:Nat->AV}:∀ {n j:Nat},cmpJ p f g n j->∀ q,j<=q->q < j + n->p (f q) (g q)
 | 0,j,_,q,h1,h2=>by omega
 | n + 1,j,h,q,h1,h2=>by
   by_cases e:q=j
   . subst e;exact h.1
   . exact cmpJ_ok h.2 q (by omega) (by omega)
theorem bifF {c:Bool}{p:Prop}(h:bif c then p else False):c=true/\p:=by
 cases c with
 | true=>exact ⟨rfl,h⟩
 | false=>exact h.elim
theorem cmpP_ok {M M':Mp}(hz:∀ b cs,M.z b=some cs->M'.z b=some cs):∀ (d:Nat) {c a:AV} {u:Value},cmpP d c a->a.R M u->c.R M' u/\u.oneCell'=true
 | 0,_,_,_,h,_=>h.elim
 | d + 1,c,a,u,h,r=>by
   unfold cmpP at h
   split at h
   . rename_i x nil z n f
     split at h
     . rename_i x' nil' z' n' f'
       obtain ⟨hc,h9⟩:=bifF h
       clear h
       simp only [Bool.and_eq_true,nbeq,decide_eq_true_eq] at hc
       obtain ⟨rfl,hx⟩:=hc
       obtain ⟨rfl,rfl,h⟩:=h9
       have hx:x=true->x'=true:=λ e=>by subst e;exact hx
       simp only [AV.R] at r ⊢
       rcases r with ⟨h1,h2,rfl⟩ | ⟨h1,h2,a,c,rfl,h3⟩ | ⟨h1,h2,b,off,c,cs,rfl,r2,r3,r4,r5⟩
       . exact ⟨.inl ⟨h1,h2,rfl⟩,rfl⟩
       . exact ⟨.inr (.inl ⟨h1,h2,a,c,rfl,λ e=>h3 (hx e)⟩),rfl⟩
       . refine ⟨.inr (.inr ⟨h1,h2,b,off,c,cs,rfl,r2,λ e=>r3 (hx e),hz _ _ r4,λ i hi j hj=>?_⟩),rfl⟩
         obtain ⟨u,q1,q2,q3⟩:=r5 i hi j hj
         exact ⟨u,q1,q2,(cmpP_ok hz d (cmpJ_ok (h i hi) j (by omega) (by omega)) q3).1⟩
     . obtain ⟨rfl,rfl⟩:=h
       simp only [AV.R] at r ⊢
       subst r
       exact ⟨.inl ⟨trivial,trivial,rfl⟩,rfl⟩
     . exact h.elim
   . split at h
     . simp only [AV.R] at r ⊢;subst r;exact ⟨rfl,rfl⟩
     . exact h.elim
   . split at h
     . simp only [AV.R] at r ⊢;subst r;exact ⟨rfl,rfl⟩
     . exact h.elim
   . split at h
     . simp only [AV.R] at r ⊢;subst r;exact ⟨rfl,rfl⟩
     . exact h.elim
   . exact cmpC_ok h r
theorem cmpEs_ok {z:Nat}{f:Nat->Nat->AV}{M M':Mp}(hz:∀ b cs,M.z b=some cs->M'.z b=some cs):∀ {n i:Nat} {l:List AV} {vs:List Value},cmpEs z f n i l->AV.RL M l vs->n * z<=l.length->∀ p,p < n->∀ j,j < z->∃ v,vs[p * z + j]?=some v/\v.oneCell'=true/\(f (i + p) j).R M' v
 | 0,i,l,vs,_,_,_,p,hp,_,_=>by omega
 | n + 1,i,l,vs,h,r,hl,p,hp,j,hj=>by
   have hl1:n * z + z<=l.length:=by rw [Nat.add_mul] at hl;omega
   cases p with
   | zero=>
     have h1:=cmpJ_ok h.1 j (by omega) (by omega)
     obtain ⟨a,hn⟩:=nthA_lt (l:=l) (k:=j) (by omega)
     unfold litG at h1
     rw [hn] at h1
     obtain ⟨v,e1,e2⟩:=nthA_get hn r
     obtain ⟨q1,q2⟩:=cmpP_ok hz 3 h1 e2
     exact ⟨v,by simpa using e1,q2,q1⟩
   | succ p=>
     obtain ⟨v,e1,e2,e3⟩:=cmpEs_ok hz h.2 (RL_drop z r) (by simp;omega) p (by omega) j hj
     rw [List.getElem?_drop] at e1
     refine ⟨v,by rw [<- e1];congr 1;rw [Nat.add_mul];omega,e2,?_⟩
     rwa [show Nat.succ i + p=i + (p + 1) by omega] at e3
section
variable {x0 : Nat} {h : AH}
theorem cmpI_ok {k:IntKind}{n:Int}{c a:AV}{ρ:Ren}{K:Ren->Prop}(hc:yI c=some (k,n))(e:cmpI k n a ρ K):∃ ρ',Ext ρ ρ'/\K ρ'/\∀ M w u,Rel M h w->a.R M u->c.R (MR x0 ρ' M (cellsW w)) u:=by
 unfold cmpI at e
 split at e
 . rename_i k' m ha
   simp only [Bool.cond_eq_ite] at e
   split at e
   . rename_i hk
     obtain ⟨rfl,hK⟩:=e
     obtain rfl:=eqK_eq hk
     refine ⟨ρ,Ext.refl ρ,hK,λ M w u _ ra=>?_⟩
     obtain rfl:=yI_ok ha ra
     unfold yI at hc
     split at hc <;> first | (cases hc;done) | (simp only [sI,Prod.mk.injEq] at hc;obtain ⟨rfl,rfl⟩:=hc;rfl)
   . exact e.elim
 . exact e.elim
theorem cmpB_ok {b:Bool}{c a:AV}{ρ:Ren}{K:Ren->Prop}(hc:yB c=some b)(e:cmpB b a ρ K):∃ ρ',Ext ρ ρ'/\K ρ'/\∀ M w u,Rel M h w->a.R M u->c.R (MR x0 ρ' M (cellsW w)) u:=by
 unfold cmpB at e
 split at e
 . rename_i y ha
   obtain ⟨rfl,hK⟩:=e
   refine ⟨ρ,Ext.refl ρ,hK,λ M w u _ ra=>?_⟩
   obtain rfl:=yB_ok ha ra
   unfold yB at hc
   split at hc <;> first | (cases hc;done) | (simp only [sI] at hc;subst hc;rfl)
 . exact e.elim
theorem cmpS_ok {b:List UInt8}{c a:AV}{ρ:Ren}{K:Ren->Prop}(hc:yS c=some b)(e:cmpS b a ρ K):∃ ρ',Ext ρ ρ'/\K ρ'/\∀ M w u,Rel M h w->a.R M u->c.R (MR x0 ρ' M (cellsW w)) u:=by
 unfold cmpS at e
 split at e
 . rename_i y ha
   obtain ⟨rfl,hK⟩:=e
   refine ⟨ρ,Ext.refl ρ,hK,λ M w u _ ra=>?_⟩
   obtain rfl:=yS_ok ha ra
   unfold yS at hc
   split at hc <;> first | (cases hc;done) | (simp only [sI] at hc;subst hc;rfl)
 . exact e.elim
theorem same_ok {c a:AV}{ρ:Ren}{K:Ren->Prop}(hK:K ρ)(hr:∀ (M M':Mp) u,a.R M u->c.R M' u):∃ ρ',Ext ρ ρ'/\K ρ'/\∀ M w u,Rel M h w->a.R M u->c.R (MR x0 ρ' M (cellsW w)) u:=
 ⟨ρ,Ext.refl ρ,hK,λ M _ u _ ra=>hr M _ u ra⟩
mutual
theorem cmpV_ok:∀ (c a:AV) (ρ:Ren) (K:Ren->Prop),cmpV x0 h c a ρ K->∃ ρ',Ext ρ ρ'/\K ρ'/\∀ M w u,Rel M h w->a.R M u->c.R (MR x0 ρ' M (cellsW w)) u
 | .i k n,a,ρ,K,e=>cmpI_ok rfl e
 | .y k n,a,ρ,K,e=>cmpI_ok rfl e
 | .b x,a,ρ,K,e=>cmpB_ok rfl e
 | .yb x,a,ρ,K,e=>cmpB_ok rfl e
 | .s l,a,ρ,K,e=>cmpS_ok rfl e
 | .ys l,a,ρ,K,e=>cmpS_ok rfl e
 | .ptr id off,a,ρ,K,e=>by
   simp only [cmpV] at e
   split at e
   . simp only [Bool.cond_eq_ite] at e
     split at e
     . rename_i ho
       obtain rfl:=beqN ho
       obtain ⟨ρ',h1,h2,h3⟩:=bindR_ok e
       refine ⟨ρ',h1,h2,λ M w u _ ra=>?_⟩
       simp only [AV.R] at ra ⊢
       obtain ⟨b,κ,hM,rfl⟩:=ra
       exact ⟨b,κ,h3 M _ _ hM,rfl⟩
     . exact e.elim
   . exact e.elim
 | .jk,a,ρ,K,e=>by
   simp only [cmpV,Bool.cond_eq_ite] at e
   split at e
   . rename_i hc
     exact same_ok e λ _ _ _ r=>isCell_one r hc
   . exact e.elim
 | .np,a,ρ,K,e=>by
   simp only [cmpV] at e
   split at e
   . exact same_ok e λ _ _ _ r=>r
   . exact e.elim
 | .ns,a,ρ,K,e=>by
   simp only [cmpV] at e
   split at e
   . exact same_ok e λ _ _ _ r=>r
   . exact e.elim
 | .es,a,ρ,K,e=>by
   simp only [cmpV] at e
   split at e
   . exact same_ok e λ _ _ _ r=>r
   . exact e.elim
 | .nm,a,ρ,K,e=>by
   simp only [cmpV] at e
   split at e
   . exact same_ok e λ _ _ _ r=>r
   . exact e.elim
 | .nf,a,ρ,K,e=>by
   simp only [cmpV] at e
   split at e
   . exact same_ok e λ _ _ _ r=>r
   . exact e.elim
 | .ni,a,ρ,K,e=>by
   simp only [cmpV] at e
   split at e
   . exact same_ok e λ _ _ _ r=>r
   . exact e.elim
 | .sl id off len cap u,a,ρ,K,e=>by
   simp only [cmpV] at e
   split at e
   . simp only [Bool.cond_eq_ite] at e
     split at e
     . rename_i ho
       simp only [Bool.and_eq_true,beq_iff_eq,nbeq,decide_eq_true_eq] at ho
       obtain ⟨⟨⟨rfl,rfl⟩,rfl⟩,rfl⟩:=ho
       obtain ⟨ρ',h1,h2,h3⟩:=bindR_ok e
       refine ⟨ρ',h1,h2,λ M w u _ ra=>?_⟩
       simp only [AV.R] at ra ⊢
       obtain ⟨b,κ,hM,rfl⟩:=ra
       exact ⟨b,κ,h3 M _ _ hM,rfl⟩
     . exact e.elim
   . exact e.elim
 | .mp id,a,ρ,K,e=>by
   simp only [cmpV] at e
   split at e
   . obtain ⟨ρ',h1,h2,h3⟩:=bindR_ok e
     refine ⟨ρ',h1,h2,λ M w u _ ra=>?_⟩
     simp only [AV.R] at ra ⊢
     obtain ⟨b,κ,hM,rfl⟩:=ra
     exact ⟨b,κ,h3 M _ _ hM,rfl⟩
   . exact e.elim
 | .yl id,a,ρ,K,e=>by
   simp only [cmpV] at e
   split at e
   . obtain ⟨ρ',h1,h2,h3⟩:=bindR_ok e
     refine ⟨ρ',h1,h2,λ M w u _ ra=>?_⟩
     simp only [AV.R] at ra ⊢
     obtain ⟨b,κ,hM,rfl⟩:=ra
     exact ⟨b,κ,h3 M _ _ hM,rfl⟩
   . exact e.elim
 | .fn f caps,a,ρ,K,e=>by
   simp only [cmpV] at e
   split at e
   . simp only [Bool.cond_eq_ite] at e
     split at e
     . rename_i ho
       obtain rfl:=beqN ho
       obtain ⟨ρ',h1,h2,h3⟩:=cmpL_ok caps _ ρ K e
       refine ⟨ρ',h1,h2,λ M w u rr ra=>?_⟩
       simp only [AV.R] at ra ⊢
       obtain ⟨vs,r1,rfl⟩:=ra
       exact ⟨vs,h3 M w vs rr r1,rfl⟩
     . exact e.elim
   . exact e.elim
 | .ifc t v,a,ρ,K,e=>by
   simp only [cmpV] at e
   split at e
   . simp only [Bool.cond_eq_ite] at e
     split at e
     . rename_i ho
       obtain rfl:=beqN ho
       obtain ⟨ρ',h1,h2,h3⟩:=cmpV_ok v _ ρ K e
       refine ⟨ρ',h1,h2,λ M w u rr ra=>?_⟩
       simp only [AV.R] at ra ⊢
       obtain ⟨x,r1,rfl⟩:=ra
       exact ⟨x,h3 M w x rr r1,rfl⟩
     . exact e.elim
   . exact e.elim
 | .agg l,a,ρ,K,e=>by
   simp only [cmpV] at e
   split at e
   . obtain ⟨ρ',h1,h2,h3⟩:=cmpL_ok l _ ρ K e
     refine ⟨ρ',h1,h2,λ M w u rr ra=>?_⟩
     simp only [AV.R] at ra ⊢
     obtain ⟨vs,r1,rfl⟩:=ra
     exact ⟨vs,h3 M w vs rr r1,rfl⟩
   . exact e.elim
 | .tup l,a,ρ,K,e=>by
   simp only [cmpV] at e
   split at e
   . obtain ⟨ρ',h1,h2,h3⟩:=cmpL_ok l _ ρ K e
     refine ⟨ρ',h1,h2,λ M w u rr ra=>?_⟩
     simp only [AV.R] at ra ⊢
     obtain ⟨vs,r1,rfl⟩:=ra
     exact ⟨vs,h3 M w vs rr r1,rfl⟩
   . exact e.elim
 | .o _,a,ρ,K,e=>by simp only [cmpV] at e
 | .gl g off,a,ρ,K,e=>by
   simp only [cmpV] at e
   split at e
   . simp only [Bool.cond_eq_ite] at e
     split at e
     . rename_i ho
       simp only [Bool.and_eq_true,nbeq,decide_eq_true_eq] at ho
       obtain ⟨rfl,rfl⟩:=ho
       exact same_ok e λ _ _ _ r=>r
     . exact e.elim
   . exact e.elim
 | .ysl ro nil id z o n,a,ρ,K,e=>by
   simp only [cmpV] at e
   split at e
   . simp only [Bool.cond_eq_ite] at e
     split at e
     . rename_i ho
       simp only [Bool.and_eq_true,beq_iff_eq,nbeq,decide_eq_true_eq] at ho
       obtain ⟨rfl,rfl⟩:=ho
       obtain ⟨rfl,rfl,rfl,e⟩:=e
       obtain ⟨ρ',h1,h2,h3⟩:=bindR_ok e
       refine ⟨ρ',h1,h2,λ M w u _ ra=>?_⟩
       simp only [AV.R] at ra ⊢
       rcases ra with ra | ra | ⟨q1,b,κ,c,hM,q2⟩
       . exact .inl ra
       . exact .inr (.inl ra)
       . exact .inr (.inr ⟨q1,b,κ,c,h3 M _ _ hM,q2⟩)
     . exact e.elim
   . obtain ⟨rfl,rfl,e⟩:=e
     refine same_ok e λ M M' u ra=>?_
     simp only [AV.R] at ra ⊢
     exact .inl ⟨trivial,trivial,ra⟩
   . rename_i id' len
     split at e
     . rename_i c et z' hg
       simp only [Bool.cond_eq_ite] at e
       split at e
       . rename_i ho
         simp only [Bool.and_eq_true,nbeq,nblt,decide_eq_true_eq,Bool.not_eq_true'] at ho
         obtain ⟨⟨⟨⟨rfl,rfl⟩,hz⟩,hl⟩,hl0⟩:=ho
         obtain ⟨rfl,rfl,rfl,e⟩:=e
         obtain ⟨ρ',h1,h2,h3⟩:=bindR_ok e
         refine ⟨ρ',h1,h2,λ M w u rr ra=>?_⟩
         simp only [AV.R] at ra ⊢
         obtain ⟨b,κ,hM,rfl⟩:=ra
         obtain ⟨ob,hb,vs,rest,rl,rfl,hκ⟩:=Ob_of rr hg hM
         simp only at hκ
         have hvl:=RL_length rl
         have hle:n<=κ:=by
          have:n * z<=κ * z:=by rw [<- hκ,<- hl,<- hvl];simp
          exact Nat.le_of_mul_le_mul_right this hz
         exact .inr (.inr ⟨trivial,b,κ,κ,h3 M _ _ hM,by simp,hle,hl0,λ _=>⟨by simp,by omega⟩⟩)
       . exact e.elim
     . exact e.elim
   . rename_i id' len cap
     split at e
     . rename_i c et z' hg
       simp only [Bool.cond_eq_ite] at e
       split at e
       . rename_i ho
         simp only [Bool.and_eq_true,nbeq,nblt,decide_eq_true_eq,Bool.not_eq_true'] at ho
         obtain ⟨⟨⟨⟨⟨rfl,rfl⟩,hz⟩,hl⟩,hl0⟩,rfl⟩:=ho
         obtain ⟨rfl,rfl,rfl,e⟩:=e
         obtain ⟨ρ',h1,h2,h3⟩:=bindR_ok e
         refine ⟨ρ',h1,h2,λ M w u rr ra=>?_⟩
         simp only [AV.R] at ra ⊢
         obtain ⟨b,κ,hM,rfl⟩:=ra
         obtain ⟨ob,hb,vs,rest,rl,rfl,hκ⟩:=Ob_of rr hg hM
         simp only at hκ
         have hvl:=RL_length rl
         have hle:n<=κ:=by
          have:n * z<=κ * z:=by rw [<- hκ,<- hl,<- hvl];simp
          exact Nat.le_of_mul_le_mul_right this hz
         exact .inr (.inr ⟨trivial,b,κ,n,h3 M _ _ hM,by simp,Nat.le_refl _,hl0,λ _=>⟨by simpa using hle,by omega⟩⟩)
       . exact e.elim
     . exact e.elim
   . exact e.elim
 | .yr nil id z n,a,ρ,K,e=>by
   simp only [cmpV] at e
   split at e
   . simp only [Bool.cond_eq_ite] at e
     split at e
     . rename_i ho
       obtain rfl:=beqN ho
       obtain ⟨rfl,rfl,e⟩:=e
       obtain ⟨ρ',h1,h2,h3⟩:=bindR_ok e
       refine ⟨ρ',h1,h2,λ M w u _ ra=>?_⟩
       simp only [AV.R] at ra ⊢
       rcases ra with ra | ⟨q1,b,κ,c,hM,q2⟩
       . exact .inl ra
       . exact .inr ⟨q1,b,κ,c,h3 M _ _ hM,q2⟩
     . exact e.elim
   . obtain ⟨rfl,rfl,e⟩:=e
     refine same_ok e λ M M' u ra=>?_
     simp only [AV.R] at ra ⊢
     exact .inl ⟨trivial,trivial,ra⟩
   . exact e.elim
 | .ypt ro id z i j,a,ρ,K,e=>by
   simp only [cmpV] at e
   split at e
   . simp only [Bool.cond_eq_ite] at e
     split at e
     . rename_i ho
       simp only [Bool.and_eq_true,beq_iff_eq,nbeq,decide_eq_true_eq] at ho
       obtain ⟨⟨rfl,rfl⟩,rfl⟩:=ho
       obtain ⟨rfl,e⟩:=e
       obtain ⟨ρ',h1,h2,h3⟩:=bindR_ok e
       refine ⟨ρ',h1,h2,λ M w u _ ra=>?_⟩
       simp only [AV.R] at ra ⊢
       obtain ⟨b,κ,hM,rfl⟩:=ra
       exact ⟨b,κ,h3 M _ _ hM,rfl⟩
     . exact e.elim
   . exact e.elim
 | .ye nil,a,ρ,K,e=>by
   simp only [cmpV] at e
   split at e
   . obtain ⟨rfl,e⟩:=e
     exact same_ok e λ _ _ _ r=>r
   . exact e.elim
 | .lp _ _ _,a,ρ,K,e=>by simp only [cmpV] at e
 | .lst x nil z n f,a,ρ,K,e=>by
   simp only [cmpV] at e
   split at e
   . obtain ⟨e1,e2⟩:=e
     exact ⟨ρ,Ext.refl ρ,e2,λ M w u _ ra=>(cmpP_ok (λ b cs e=>MR_zm e) 3 e1 ra).1⟩
   . obtain ⟨rfl,rfl,e⟩:=e
     refine same_ok e λ M M' u ra=>?_
     simp only [AV.R] at ra ⊢
     exact .inl ⟨trivial,trivial,ra⟩
   . cases x with
     | true=>exact e.elim
     | false=>
       obtain ⟨rfl,rfl,e⟩:=e
       refine same_ok e λ M M' u ra=>?_
       simp only [AV.R] at ra ⊢
       obtain ⟨a,c,rfl⟩:=ra
       exact .inr (.inl ⟨trivial,trivial,a,c,rfl,λ e=>by cases e⟩)
   . obtain ⟨rfl,rfl,e⟩:=e
     refine same_ok e λ M M' u ra=>?_
     simp only [AV.R] at ra ⊢
     rcases ra with ⟨h1,rfl⟩ | ⟨h1,a,rfl⟩
     . exact .inl ⟨h1,trivial,rfl⟩
     . exact .inr (.inl ⟨h1,trivial,a,0,rfl,λ _=>rfl⟩)
   . rename_i nil' id z' o n'
     split at e
     case h_2=>exact e.elim
     rename_i et z2 n2 g hg
     simp only [Bool.cond_eq_ite] at e
     split at e
     case isFalse=>exact e.elim
     rename_i hc
     simp only [Bool.and_eq_true,nbeq,decide_eq_true_eq,Bool.not_eq_true'] at hc
     obtain ⟨⟨rfl,rfl⟩,rfl⟩:=hc
     obtain ⟨rfl,rfl,hon,hcs,e⟩:=e
     obtain ⟨ρ',h1,h2,h3⟩:=bindF_ok e
     refine ⟨ρ',h1,h2,λ M w u rr ra=>?_⟩
     have hon:o + n<=n2:=hon
     simp only [AV.R] at ra ⊢
     rcases ra with ra | ⟨q1,q2,a,c,rfl,q3⟩ | ⟨q1,b,κ,c,hM,rfl,q2,q3,q4⟩
     . exact .inl ra
     . exact .inr (.inl ⟨q1,q2,a,c,rfl,λ e=>by cases e⟩)
     . obtain ⟨ob,hb,cs,rfl,hcs2,_,q⟩:=Ob_of rr hg hM
       refine .inr (.inr ⟨q1,q3,b,0 + o * z,c,cs,by simp,q2,(λ e=>by cases e),MR_zf rr h3 hM hb,λ i hi j hj=>?_⟩)
       obtain ⟨v,p1,p2,p3⟩:=q (o + i) (by omega) j hj
       refine ⟨v,by rw [<- p1];congr 1;rw [Nat.add_mul];omega,p2,(cmpP_ok (λ b cs e=>MR_zm e) 3 (cmpJ_ok (hcs i hi) j (by omega) (by omega)) p3).1⟩
   . rename_i id off len cap un
     rcases hz:(Nat.beq len 0 && !x) with _ | _
     rotate_left
     . rw [hz,cond_true] at e
       simp only [Bool.and_eq_true,nbeq,decide_eq_true_eq,Bool.not_eq_true'] at hz
       obtain ⟨rfl,rfl⟩:=hz
       obtain ⟨rfl,rfl,e⟩:=e
       refine same_ok e λ M M' u ra=>?_
       simp only [AV.R] at ra ⊢
       obtain ⟨b,κ,_,rfl⟩:=ra
       exact .inr (.inl ⟨trivial,trivial,_,_,rfl,λ e=>by cases e⟩)
     rw [hz,cond_false] at e
     clear hz
     split at e
     case h_2=>exact e.elim
     rename_i c et g hg
     split at e
     case h_2=>exact e.elim
     rename_i l hl
     obtain ⟨hc,e⟩:=bifF e
     simp only [Bool.and_eq_true,nblt,decide_eq_true_eq] at hc
     obtain ⟨⟨⟨hx,hl0⟩,hroom⟩,hall⟩:=hc
     obtain ⟨rfl,rfl,hcs,e⟩:=e
     obtain ⟨ρ',h1,h2,h3⟩:=bindF_ok e
     refine ⟨ρ',h1,h2,λ M w u rr ra=>?_⟩
     simp only [AV.R] at ra ⊢
     obtain ⟨b,κ,hM,rfl⟩:=ra
     obtain ⟨ob,hb,vs,rest,rl,rfl,hκ⟩:=Ob_of rr hg hM
     have hvl:=RL_length rl
     obtain ⟨e1,e2⟩:=sliceA_eq hl
     have rl2:AV.RL M l ((vs.drop off).take (n * z)):=by rw [e1];exact RL_take _ (RL_drop _ rl)
     have hln:l.length=n * z:=by rw [e1];simp;omega
     have hroom2:n<=(if un=true then κ - cap else cap):=by
      unfold roomOk at hroom
      cases un with
      | false=>simpa [nble] using hroom
      | true=>
        simp only at hroom
        cases g with
        | none=>cases hroom
        | some z'=>
          simp only [Bool.and_eq_true,nbeq,nblt,nble,decide_eq_true_eq] at hroom
          obtain ⟨⟨hz1,hz⟩,hle⟩:=hroom
          subst hz1
          simp only at hκ
          have:(cap + n) * z<=κ * z:=by
           rw [<- hκ];refine Nat.le_trans hle ?_;rw [<- hvl];simp
          have:=Nat.le_of_mul_le_mul_right this hz
          simp only [if_true];omega
     refine .inr (.inr ⟨trivial,hl0,b,off,_,(vs ++ rest).toArray,rfl,hroom2,λ e=>?_,MR_zf rr h3 hM hb,λ i hi j hj=>?_⟩)
     . subst e
       have hx:(!un && Nat.beq n cap)=true:=hx
       simp only [Bool.and_eq_true,Bool.not_eq_true',nbeq,decide_eq_true_eq] at hx
       obtain ⟨rfl,rfl⟩:=hx
       rfl
     . obtain ⟨v,q1,q2,q3⟩:=cmpEs_ok (M':=MR x0 ρ' M (cellsW w)) (λ b cs e=>MR_zm e) hcs rl2 (by omega) i hi j hj
       rw [Nat.zero_add] at q3
       refine ⟨v,?_,q2,q3⟩
       have hp:=place_lt hi hj
       rw [List.getElem?_take,if_pos hp,List.getElem?_drop] at q1
       have hlt:=(List.getElem?_eq_some_iff.1 q1).1
       rw [List.getElem?_toArray,Nat.add_assoc,List.getElem?_append_left hlt];exact q1
   . exact e.elim
theorem cmpL_ok:∀ (cs as_:List AV) (ρ:Ren) (K:Ren->Prop),cmpL x0 h cs as_ ρ K->∃ ρ',Ext ρ ρ'/\K ρ'/\∀ M w us,Rel M h w->AV.RL M as_ us->AV.RL (MR x0 ρ' M (cellsW w)) cs us
 | [],as_,ρ,K,e=>by
   simp only [cmpL] at e
   split at e
   . exact ⟨ρ,Ext.refl ρ,e,λ M w us _ ra=>ra⟩
   . exact e.elim
 | c :: l,as_,ρ,K,e=>by
   simp only [cmpL] at e
   split at e
   . rename_i a as'
     obtain ⟨ρ1,h1,h2,h3⟩:=cmpV_ok c a ρ _ e
     obtain ⟨ρ2,k1,k2,k3⟩:=cmpL_ok l as' ρ1 K h2
     refine ⟨ρ2,h1.trans k1,k2,λ M w us rr ra=>?_⟩
     simp only [AV.RL] at ra ⊢
     obtain ⟨v,vs,r1,r2,rfl⟩:=ra
     exact ⟨v,vs,AV.R.mono (MR_le k1 M) c v (h3 M w v rr r1),k3 M w vs rr r2,rfl⟩
   . exact e.elim
end
end
theorem sameG_eq {a b:Option Nat}(h:sameG a b=true):a=b:=by
 cases a <;> cases b <;> simp [sameG] at h ⊢
 exact h
section
variable {x0 : Nat} {h : AH}
theorem cmpM_ok:∀ {es as_:List (AV × AV × Nat)} {ρ:Ren} {K:Ren->Prop},cmpM x0 h es as_ ρ K->∃ ρ',Ext ρ ρ'/\K ρ'/\∀ M w l,Rel M h w->EL M as_ l->EL (MR x0 ρ' M (cellsW w)) es l
 | [],as_,ρ,K,e=>by
   unfold cmpM at e
   split at e
   . exact ⟨ρ,Ext.refl ρ,e,λ M w l _ r=>r⟩
   . exact e.elim
 | (k,v,b) :: l,as_,ρ,K,e=>by
   unfold cmpM at e
   split at e
   . obtain ⟨ρ1,h1,e1,r1⟩:=cmpV_ok _ _ _ _ e
     obtain ⟨ρ2,h2,⟨rfl,e2⟩,r2⟩:=cmpV_ok _ _ _ _ e1
     obtain ⟨ρ3,h3,e3,r3⟩:=cmpM_ok e2
     refine ⟨ρ3,(h1.trans h2).trans h3,e3,λ M w l rr r=>?_⟩
     simp only [EL] at r ⊢
     obtain ⟨kk,vv,l',q1,q2,q3,rfl⟩:=r
     exact ⟨kk,vv,l',AV.R.mono (MR_le (h2.trans h3) M) _ _ (r1 M w _ rr q1),AV.R.mono (MR_le h3 M) _ _ (r2 M w _ rr q2),r3 M w _ rr q3,rfl⟩
   . exact e.elim
theorem cmpO_ok {c a:AO}{ρ:Ren}{K:Ren->Prop}(e:cmpO x0 h c a ρ K):∃ ρ',Ext ρ ρ'/\K ρ'/\c.ro=a.ro/\(a.Vac->c.Vac)/\∀ M w κ ob,Rel M h w->ObR M κ a ob->ObR (MR x0 ρ' M (cellsW w)) κ c ob:=by
 unfold cmpO at e
 split at e
 . simp only [Bool.cond_eq_ite] at e
   split at e
   . rename_i hc
     simp only [Bool.and_eq_true,nbeq,decide_eq_true_eq] at hc
     obtain ⟨rfl,hg⟩:=hc
     obtain ⟨ρ',h1,h2,h3⟩:=cmpL_ok _ _ _ _ e
     refine ⟨ρ',h1,h2,rfl,λ v=>v,λ M w κ ob rr ro=>?_⟩
     obtain ⟨vs,rest,r1,rfl,r2⟩:=ro
     refine ⟨vs,rest,h3 M w vs rr r1,rfl,?_⟩
     rw [sameG_eq hg];exact r2
   . exact e.elim
 . simp only [Bool.cond_eq_ite] at e
   split at e
   . rename_i hc
     simp only [Bool.and_eq_true,beq_iff_eq,nbeq,decide_eq_true_eq] at hc
     obtain ⟨⟨rfl,rfl⟩,rfl⟩:=hc
     obtain ⟨rfl,hcs,hK⟩:=e
     refine ⟨ρ,Ext.refl ρ,hK,rfl,λ v=>v,λ M w κ ob rr ro=>?_⟩
     rename_i ro0 _ _ _ _ _
     cases ro0 with
     | true=>
       obtain ⟨cs,e',fr,r1,q⟩:=ro
       refine ⟨cs,e',fr,r1,λ i hi j hj=>?_⟩
       obtain ⟨v,q1,q2,q3⟩:=q i hi j hj
       exact ⟨v,q1,q2,(cmpP_ok (λ b cs e=>MR_zm e) 3 (cmpJ_ok (hcs i hi) j (by omega) (by omega)) q3).1⟩
     | false=>
       obtain ⟨cs,r1,r2,r3,q⟩:=ro
       refine ⟨cs,r1,r2,r3,λ i hi j hj=>?_⟩
       obtain ⟨v,q1,q2,q3⟩:=q i hi j hj
       exact ⟨v,q1,q2,(cmpP_ok (λ b cs e=>MR_zm e) 3 (cmpJ_ok (hcs i hi) j (by omega) (by omega)) q3).1⟩
   . exact e.elim
 . simp only [Bool.cond_eq_ite] at e
   split at e
   . rename_i hc
     simp only [Bool.and_eq_true,nbeq,nblt,decide_eq_true_eq] at hc
     obtain ⟨⟨⟨rfl,rfl⟩,hz⟩,hl⟩:=hc
     obtain ⟨rfl,hcs,hK⟩:=e
     refine ⟨ρ,Ext.refl ρ,hK,rfl,λ v=>v.elim,λ M w κ ob rr ro=>?_⟩
     obtain ⟨vs,rest,r1,rfl,r2⟩:=ro
     simp only at r2
     have hvl:=RL_length r1
     refine ⟨(vs ++ rest).toArray,rfl,by simpa using r2,?_,λ i hi j hj=>?_⟩
     . refine Nat.le_of_mul_le_mul_right ?_ hz
       rw [hl,<- r2,<- hvl];simp
     . obtain ⟨v,q1,q2,q3⟩:=cmpEs_ok (M':=MR x0 ρ M (cellsW w)) (λ b cs e=>MR_zm e) hcs r1 (Nat.le_of_eq hl) i hi j hj
       rw [Nat.zero_add] at q3
       refine ⟨v,?_,q2,q3⟩
       have hlt:=(List.getElem?_eq_some_iff.1 q1).1
       rw [List.getElem?_toArray,List.getElem?_append_left hlt];exact q1
   . exact e.elim
 . obtain ⟨rfl,e⟩:=e
   obtain ⟨ρ',h1,h2,h3⟩:=cmpM_ok e
   refine ⟨ρ',h1,h2,rfl,λ v=>v,λ M w κ ob rr ro=>?_⟩
   obtain ⟨l,r1,rfl⟩:=ro
   exact ⟨l,h3 M w l rr r1,rfl⟩
 . simp only [Bool.cond_eq_ite] at e
   split at e
   . rename_i hc
     simp only [Bool.and_eq_true] at hc
     obtain rfl:=eqK_eq hc.1
     obtain rfl:=eqK_eq hc.2
     obtain ⟨hx,hK⟩:=e
     refine ⟨ρ,Ext.refl ρ,hK,rfl,λ v=>v,λ M w κ ob _ ro=>?_⟩
     obtain ⟨l,ck,r1,r2⟩:=ro
     refine ⟨l,ck,r1,λ e he=>?_,λ n hn=>r2.has n ((hx n).1 ▸ hn),r2.one⟩
     obtain ⟨n,q1,q2,q3⟩:=r2.ent e he
     have hp:=(hx n).1.trans q3
     exact ⟨n,q1,by rw [q2,(hx n).2 hp],hp⟩
   . exact e.elim
 . obtain ⟨hx,hK⟩:=e
   refine ⟨ρ,Ext.refl ρ,hK,rfl,λ v=>v,λ M w κ ob _ ro=>?_⟩
   obtain ⟨l,r1,rfl⟩:=ro
   obtain rfl:l=[]:=r1
   exact ⟨[],_,rfl,⟨λ e he=>(by cases he),λ n hn=>(by rw [hx n] at hn;cases hn),List.Pairwise.nil⟩⟩
 . simp only [Bool.cond_eq_ite] at e
   split at e
   . rename_i hc
     simp only [Bool.and_eq_true,nbeq,decide_eq_true_eq] at hc
     obtain rfl:=eqK_eq hc.1
     obtain rfl:=hc.2
     obtain ⟨hx,hK⟩:=e
     refine ⟨ρ,Ext.refl ρ,hK,rfl,λ v=>v,λ M w κ ob _ ro=>?_⟩
     obtain ⟨l,ck,r1,r2⟩:=ro
     refine ⟨l,ck,r1,λ e he=>?_,λ n hn=>r2.has n ((hx n).1 ▸ hn),r2.one⟩
     obtain ⟨n,vs,q1,q2,q3,q4,q5⟩:=r2.ent e he
     have hp:=(hx n).1.trans q5
     exact ⟨n,vs,q1,q2,q3,λ j hj=>by
      obtain ⟨v,x1,x2,x3⟩:=q4 j hj
      exact ⟨v,x1,x2,(cmpP_ok (λ b cs e=>MR_zm e) 3 (cmpJ_ok ((hx n).2 hp) j (by omega) (by omega)) x3).1⟩,hp⟩
   . exact e.elim
 . obtain ⟨hx,hK⟩:=e
   refine ⟨ρ,Ext.refl ρ,hK,rfl,λ v=>v,λ M w κ ob _ ro=>?_⟩
   obtain ⟨l,r1,rfl⟩:=ro
   obtain rfl:l=[]:=r1
   exact ⟨[],_,rfl,⟨λ e he=>(by cases he),λ n hn=>(by rw [hx n] at hn;cases hn),List.Pairwise.nil⟩⟩
 . simp only [Bool.cond_eq_ite] at e
   split at e
   . rename_i hc
     simp only [beq_iff_eq] at hc;subst hc
     exact ⟨ρ,Ext.refl ρ,e,rfl,λ v=>v,λ M w κ ob _ ro=>ro⟩
   . exact e.elim
 . exact e.elim
def vacP:AO->Prop
 | .arr false _ _ n _=>n=0
 | _=>False
def cmpTs (x0:Nat)(h:AH)(tm:Tr AV):List (Nat × AV)->Ren->(Ren->Prop)->Prop
 | [],ρ,K=>K ρ
 | (t,v) :: l,ρ,K=>cmpV x0 h v (evT tm (.tmp t)) ρ (λ ρ'=>cmpTs x0 h tm l ρ' K)
def cmpHs (x0:Nat)(h:AH):List (Nat × AO)->Ren->(Ren->Prop)->Prop
 | [],ρ,K=>K ρ
 | (id,c) :: l,ρ,K=>bif Nat.blt id x0 then (match h.get id with | some a=>cmpO x0 h c a ρ (λ ρ'=>cmpHs x0 h l ρ' K) | none=>False)
   else match ρ.at id with
    | none=>vacP c/\cmpHs x0 h l ρ (λ ρ'=>(ρ'.at id).isNone=true/\K ρ')
    | some ia=>match h.get ia with | some a=>cmpO x0 h c a ρ (λ ρ'=>cmpHs x0 h l ρ' K) | none=>False
def memA (a:Nat):Ren->Bool
 | []=>false
 | (_,b) :: l=>bif Nat.beq a b then true else memA a l
def okR (x0 nx1:Nat)(del:List Nat):Ren->Bool
 | []=>true
 | (c,a) :: l=>(Nat.ble x0 a || memN a del) && !memA a l && (Nat.ble 4294967296 c || (Nat.ble x0 c && Nat.blt c nx1)) && okR x0 nx1 del l
def okFz (h:AH):Ren->Bool
 | []=>true
 | (c,a) :: l=>(bif Nat.ble 4294967296 c then (match h.get a with | some o=>!o.ro | none=>false) else true) && okFz h l
def matchS (x0 nx1:Nat)(del:List Nat)(tl:List (Nat × AV))(hl:List (Nat × AO))(s:St):Prop:=
 cmpTs x0 s.h s.tm tl [] λ ρ=>cmpHs x0 s.h hl ρ λ ρ'=>(okR x0 nx1 del ρ' && okFz s.h ρ')=true
theorem cmpTs_ok {tm:Tr AV}:∀ {tl:List (Nat × AV)} {ρ:Ren} {K:Ren->Prop},cmpTs x0 h tm tl ρ K->∃ ρ',Ext ρ ρ'/\K ρ'/\∀ M w,Rel M h w->∀ t v,(t,v) ∈ tl->∀ u,(evT tm (.tmp t)).R M u->v.R (MR x0 ρ' M (cellsW w)) u
 | [],ρ,K,e=>⟨ρ,Ext.refl ρ,e,λ _ _ _ t v hm=>by simp at hm⟩
 | (t,v) :: l,ρ,K,e=>by
   unfold cmpTs at e
   obtain ⟨ρ1,h1,e1,r1⟩:=cmpV_ok _ _ _ _ e
   obtain ⟨ρ2,h2,e2,r2⟩:=cmpTs_ok e1
   refine ⟨ρ2,h1.trans h2,e2,λ M w rr t' v' hm u ru=>?_⟩
   rcases List.mem_cons.1 hm with hm | hm
   . simp only [Prod.mk.injEq] at hm
     obtain ⟨rfl,rfl⟩:=hm
     exact AV.R.mono (MR_le h2 M) _ _ (r1 M w u rr ru)
   . exact r2 M w rr t' v' hm u ru
def Found (x0:Nat)(h:AH)(C:Nat->Option (Array Value))(ρ:Ren)(M:Mp)(id:Nat)(c:AO):Prop:=
 (¬ id < x0/\ρ.at id=none/\c.Vac/\c.ro=false) ∨ ∃ ia a,(id < x0->ia=id)/\(¬ id < x0->ρ.at id=some ia)/\h.get ia=some a/\c.ro=a.ro/\(a.Vac->c.Vac)/\∀ κ ob,ObR M κ a ob->ObR (MR x0 ρ M C) κ c ob
theorem Found.mono {h:AH}{C:Nat->Option (Array Value)}{ρ ρ':Ren}{M:Mp}{id:Nat}{c:AO}(he:Ext ρ ρ')(hn:¬ id < x0->ρ.at id=none->ρ'.at id=none)(f:Found x0 h C ρ M id c):Found x0 h C ρ' M id c:=by
 rcases f with ⟨f1,f2,f3⟩ | ⟨ia,a,f1,f2,f3,f4,f5,f6⟩
 . exact .inl ⟨f1,hn f1 f2,f3⟩
 . exact .inr ⟨ia,a,f1,λ e=>he _ _ (f2 e),f3,f4,f5,λ κ ob e=>ObR.mono (MR_le he M) _ _ (f6 κ ob e)⟩
theorem cmpHs_ok:∀ {hl:List (Nat × AO)} {ρ:Ren} {K:Ren->Prop},cmpHs x0 h hl ρ K->∃ ρ',Ext ρ ρ'/\K ρ'/\∀ M w,Rel M h w->∀ id c,(id,c) ∈ hl->Found x0 h (cellsW w) ρ' M id c
 | [],ρ,K,e=>⟨ρ,Ext.refl ρ,e,λ _ _ _ t v hm=>by simp at hm⟩
 | (id,c) :: l,ρ,K,e=>by
   unfold cmpHs at e
   simp only [Bool.cond_eq_ite] at e
   split at e
   . rename_i hlt
     have hlt:id < x0:=by simpa [nblt] using hlt
     split at e
     . rename_i a ha
       obtain ⟨ρ1,h1,e1,q1,q2,r1⟩:=cmpO_ok e
       obtain ⟨ρ2,h2,e2,r2⟩:=cmpHs_ok e1
       refine ⟨ρ2,h1.trans h2,e2,λ M w rr id' c' hm=>?_⟩
       rcases List.mem_cons.1 hm with hm | hm
       . simp only [Prod.mk.injEq] at hm
         obtain ⟨rfl,rfl⟩:=hm
         exact .inr ⟨id',a,λ _=>rfl,λ e=>absurd hlt e,ha,q1,q2,λ κ ob ho=>ObR.mono (MR_le h2 M) _ _ (r1 M w κ ob rr ho)⟩
       . exact r2 M w rr id' c' hm
     . exact e.elim
   . rename_i hlt
     have hlt:¬ id < x0:=by simpa [nblt] using hlt
     split at e
     . rename_i hat
       obtain ⟨hv,e⟩:=e
       obtain ⟨ρ2,h2,⟨e0,e2⟩,r2⟩:=cmpHs_ok e
       refine ⟨ρ2,h2,e2,λ M w rr id' c' hm=>?_⟩
       rcases List.mem_cons.1 hm with hm | hm
       . simp only [Prod.mk.injEq] at hm
         obtain ⟨rfl,rfl⟩:=hm
         refine .inl ⟨hlt,by simpa using e0,?_⟩
         unfold vacP at hv
         split at hv
         . exact ⟨hv,rfl⟩
         . exact hv.elim
       . exact r2 M w rr id' c' hm
     . rename_i ia hat
       split at e
       . rename_i a ha
         obtain ⟨ρ1,h1,e1,q1,q2,r1⟩:=cmpO_ok e
         obtain ⟨ρ2,h2,e2,r2⟩:=cmpHs_ok e1
         refine ⟨ρ2,h1.trans h2,e2,λ M w rr id' c' hm=>?_⟩
         rcases List.mem_cons.1 hm with hm | hm
         . simp only [Prod.mk.injEq] at hm
           obtain ⟨rfl,rfl⟩:=hm
           exact .inr ⟨ia,a,λ e=>absurd e hlt,λ _=>(h1.trans h2) _ _ hat,ha,q1,q2,λ κ ob ho=>ObR.mono (MR_le h2 M) _ _ (r1 M w κ ob rr ho)⟩
         . exact r2 M w rr id' c' hm
       . exact e.elim
theorem memA_at {a:Nat}:∀ {ρ:Ren} {c:Nat},ρ.at c=some a->memA a ρ=true
 | [],c,e=>by simp [Ren.at] at e
 | (c',b) :: l,c,e=>by
   unfold Ren.at at e
   simp only [nbeq,Bool.cond_decide] at e
   unfold memA
   simp only [nbeq,Bool.cond_decide]
   split at e
   . simp only [sI] at e;subst e;simp
   . split
     . rfl
     . exact memA_at e
theorem okR_at {x0 nx1:Nat}{del:List Nat}:∀ {ρ:Ren} {c a:Nat},okR x0 nx1 del ρ=true->ρ.at c=some a->(x0<=a ∨ a ∈ del)/\(4294967296<=c ∨ (x0<=c/\c < nx1))
 | [],c,a,_,e=>by simp [Ren.at] at e
 | (c',b) :: l,c,a,h,e=>by
   simp only [okR,Bool.and_eq_true,Bool.or_eq_true,nble,nblt,decide_eq_true_eq,memN_iff] at h
   unfold Ren.at at e
   simp only [nbeq,Bool.cond_decide] at e
   split at e
   . rename_i hc
     simp only [sI] at e
     subst e;subst hc
     exact ⟨h.1.1.1,h.1.2⟩
   . exact okR_at h.2 e
theorem okR_inj {x0 nx1:Nat}{del:List Nat}:∀ {ρ:Ren} {c c2 a:Nat},okR x0 nx1 del ρ=true->ρ.at c=some a->ρ.at c2=some a->c=c2
 | [],c,c2,a,_,e,_=>by simp [Ren.at] at e
 | (c',b) :: l,c,c2,a,h,e,e2=>by
   simp only [okR,Bool.and_eq_true,Bool.not_eq_true'] at h
   have hna:memA b l=false:=h.1.1.2
   unfold Ren.at at e e2
   simp only [nbeq,Bool.cond_decide] at e e2
   split at e
   . rename_i hc
     simp only [sI] at e
     split at e2
     . rename_i hc2;omega
     . have:=memA_at e2;rw [<- e,hna] at this;cases this
   . split at e2
     . simp only [sI] at e2
       have:=memA_at e;rw [<- e2,hna] at this;cases this
     . exact okR_inj h.2 e e2
theorem okFz_at {h:AH}:∀ {ρ:Ren} {a:Nat},okFz h ρ=true->ρ.at (frzM a)=some a->∃ o,h.get a=some o/\o.ro=false
 | [],a,_,e=>by simp [Ren.at] at e
 | (c',b) :: l,a,h,e=>by
   simp only [okFz,Bool.and_eq_true] at h
   unfold Ren.at at e
   simp only [nbeq,Bool.cond_decide] at e
   split at e
   . rename_i hc
     simp only [sI] at e
     subst e;subst hc
     have h1:=h.1
     rw [show Nat.ble 4294967296 (frzM b)=true from Nat.ble_eq ▸ (Nat.le_add_right 4294967296 b:4294967296<=frzM b)] at h1
     simp only [cond_true] at h1
     split at h1
     . rename_i o ho;exact ⟨o,ho,by simpa using h1⟩
     . cases h1
   . exact okFz_at h.2 e
end
section
variable {x0 : Nat} {ρ : Ren} {C : Nat -> Option (Array Value)}
theorem FreshA.lt {M:Mp}(f:FreshA M x0){id:Nat}{p:Nat × Nat}(e:M id=some p):id < x0:=by
 cases Nat.lt_or_ge id x0 with
 | inl h=>exact h
 | inr h=>rw [f id h] at e;cases e
theorem MR_lt {M:Mp}{id:Nat}(h:id < x0):MR x0 ρ M C id=M id:=by unfold MR;simp only;rw [if_pos h]
mutual
theorem supp_R {Me M':Mp}(f:FreshA Me x0):∀ (v:AV) (u0 u:Value),v.R Me u0->v.R M' u->v.R (MR x0 ρ M' C) u
 | .b _,_,_,_,r | .i _ _,_,_,_,r | .s _,_,_,_,r | .np,_,_,_,r | .ns,_,_,_,r | .nm,_,_,_,r | .nf,_,_,_,r | .ni,_,_,_,r | .o _,_,_,_,r | .gl _ _,_,_,_,r=>r
 | .es,_,_,_,r=>r
 | .jk,_,_,_,r=>r
 | .y _ _,_,_,_,r | .yb _,_,_,_,r | .ys _,_,_,_,r | .ye _,_,_,_,r=>r
 | .ysl ro nil id z q n,u0,u,r0,r=>by
   simp only [AV.R] at r0 r ⊢
   rcases r with r | r | ⟨h1,b,κ,c,e,h2,h3,h4,h5⟩
   . exact .inl r
   . exact .inr (.inl r)
   . rcases r0 with ⟨_,h,_⟩ | ⟨_,h,_⟩ | ⟨_,b0,κ0,c0,e0,_⟩
     . omega
     . omega
     . exact .inr (.inr ⟨h1,b,κ,c,by rw [MR_lt (f.lt e0)];exact e,h2,h3,h4,h5⟩)
 | .yr nil id z n,u0,u,r0,r=>by
   simp only [AV.R] at r0 r ⊢
   rcases r with r | ⟨h1,b,κ,c,e,h2⟩
   . exact .inl r
   . rcases r0 with ⟨h,_⟩ | ⟨_,b0,κ0,c0,e0,_⟩
     . rw [h1] at h;cases h
     . exact .inr ⟨h1,b,κ,c,by rw [MR_lt (f.lt e0)];exact e,h2⟩
 | .ypt _ id _ _ _,_,_,r0,r=>by
   simp only [AV.R] at r0 r ⊢
   obtain ⟨_,_,e0,_⟩:=r0
   obtain ⟨b,c,e,r⟩:=r;exact ⟨b,c,by rw [MR_lt (f.lt e0)];exact e,r⟩
 | .ptr id _,_,_,r0,r=>by
   simp only [AV.R] at r0 r ⊢
   obtain ⟨_,_,e0,_⟩:=r0
   obtain ⟨b,c,e,r⟩:=r;exact ⟨b,c,by rw [MR_lt (f.lt e0)];exact e,r⟩
 | .sl id _ _ _ _,_,_,r0,r=>by
   simp only [AV.R] at r0 r ⊢
   obtain ⟨_,_,e0,_⟩:=r0
   obtain ⟨b,c,e,r⟩:=r;exact ⟨b,c,by rw [MR_lt (f.lt e0)];exact e,r⟩
 | .mp id,_,_,r0,r=>by
   simp only [AV.R] at r0 r ⊢
   obtain ⟨_,_,e0,_⟩:=r0
   obtain ⟨b,c,e,r⟩:=r;exact ⟨b,c,by rw [MR_lt (f.lt e0)];exact e,r⟩
 | .yl id,_,_,r0,r=>by
   simp only [AV.R] at r0 r ⊢
   obtain ⟨_,_,e0,_⟩:=r0
   obtain ⟨b,c,e,r⟩:=r;exact ⟨b,c,by rw [MR_lt (f.lt e0)];exact e,r⟩
 | .fn _ caps,_,_,r0,r=>by
   simp only [AV.R] at r0 r ⊢
   obtain ⟨vs0,e0,_⟩:=r0
   obtain ⟨vs,e,r⟩:=r;exact ⟨vs,supp_RL f caps vs0 vs e0 e,r⟩
 | .ifc _ x,_,_,r0,r=>by
   simp only [AV.R] at r0 r ⊢
   obtain ⟨vs0,e0,_⟩:=r0
   obtain ⟨vs,e,r⟩:=r;exact ⟨vs,supp_R f x vs0 vs e0 e,r⟩
 | .lst x nil z n g,u0,u,r0,r=>by
   simp only [AV.R] at r0 r ⊢
   rcases r with r | r | ⟨h1,h2,b,off,c,cs,e,h3,h4,h5,h6⟩
   . exact .inl r
   . exact .inr (.inl r)
   . refine .inr (.inr ⟨h1,h2,b,off,c,cs,e,h3,h4,MR_zm h5,λ i hi j hj=>?_⟩)
     obtain ⟨v,q1,q2,q3⟩:=h6 i hi j hj
     rcases r0 with ⟨_,h,_⟩ | ⟨_,h,_⟩ | ⟨_,_,_,_,_,_,_,_,_,_,k6⟩
     . omega
     . omega
     . obtain ⟨v0,_,_,p3⟩:=k6 i hi j hj
       exact ⟨v,q1,q2,supp_R f _ _ _ p3 q3⟩
 | .lp z j g,u0,u,r0,r=>by
   simp only [AV.R] at r0 r ⊢
   obtain ⟨b,off,cs,e,h1,h2⟩:=r
   obtain ⟨_,_,_,_,_,k2⟩:=r0
   refine ⟨b,off,cs,e,MR_zm h1,λ q hq=>?_⟩
   obtain ⟨v,q1,q2,q3⟩:=h2 q hq
   obtain ⟨v0,_,_,p3⟩:=k2 q hq
   exact ⟨v,q1,q2,supp_R f _ _ _ p3 q3⟩
 | .agg l,_,_,r0,r=>by
   simp only [AV.R] at r0 r ⊢
   obtain ⟨vs0,e0,_⟩:=r0
   obtain ⟨vs,e,r⟩:=r;exact ⟨vs,supp_RL f l vs0 vs e0 e,r⟩
 | .tup l,_,_,r0,r=>by
   simp only [AV.R] at r0 r ⊢
   obtain ⟨vs0,e0,_⟩:=r0
   obtain ⟨vs,e,r⟩:=r;exact ⟨vs,supp_RL f l vs0 vs e0 e,r⟩
theorem supp_RL {Me M':Mp}(f:FreshA Me x0):∀ (l:List AV) (us0 us:List Value),AV.RL Me l us0->AV.RL M' l us->AV.RL (MR x0 ρ M' C) l us
 | [],_,_,_,r=>r
 | a :: l,_,_,r0,r=>by
   simp only [AV.RL] at r0 r ⊢
   obtain ⟨v0,vs0,p1,p2,_⟩:=r0
   obtain ⟨v,vs',r1,r2,r3⟩:=r
   exact ⟨v,vs',supp_R f a v0 v p1 r1,supp_RL f l vs0 vs' p2 r2,r3⟩
end
theorem supp_EL {Me M':Mp}(f:FreshA Me x0):∀ (l:List (AV × AV × Nat)) (us0 us:List MapEntry),EL Me l us0->EL M' l us->EL (MR x0 ρ M' C) l us
 | [],_,_,_,r=>r
 | _ :: es,_,_,⟨_,_,_,p1,p2,p3,_⟩,⟨k,v,l',r1,r2,r3,r4⟩=>⟨k,v,l',supp_R f _ _ _ p1 r1,supp_R f _ _ _ p2 r2,supp_EL f es _ _ p3 r3,r4⟩
theorem supp_O {Me M':Mp}(f:FreshA Me x0):∀ (a:AO) {κ0:Nat} {ob0:Obj} {κ:Nat} {ob:Obj},(a.Vac ∨ ObR Me κ0 a ob0)->ObR M' κ a ob->ObR (MR x0 ρ M' C) κ a ob
 | .cells c _ _,_,_,_,_,h0,⟨vs,rest,r,q⟩=>by
   rcases h0 with h0 | ⟨vs0,rest0,r0,_⟩
   . exact absurd h0 (by simp [AO.Vac])
   . exact ⟨vs,rest,supp_RL f c vs0 vs r0 r,q⟩
 | .map es _,_,_,_,_,h0,⟨l,r,q⟩=>by
   rcases h0 with h0 | ⟨l0,r0,_⟩
   . exact absurd h0 (by simp [AO.Vac])
   . exact ⟨l,supp_EL f es l0 l r0 r,q⟩
 | .loop _ _ tm _ _ _ _ D,_,_,_,_,h0,⟨fn,tmps,b,c,r,t,q⟩=>by
   rcases h0 with h0 | ⟨fn0,tmps0,b0,c0,r0,t0,_⟩
   . exact absurd h0 (by simp [AO.Vac])
   . exact ⟨fn,tmps,b,c,by rw [MR_lt (f.lt r0)];exact r,λ n=>supp_R f _ _ _ (t0 n) (t n),q⟩
 | .dfr _,_,_,_,_,_,r=>r
 | .sit _ _,_,_,_,_,_,r=>r
 | .mapy _ _ _ _,_,_,_,_,_,r=>r
 | .mapz k z p g,_,_,_,_,h0,⟨l,ck,e,r⟩=>by
   rcases h0 with h0 | ⟨l0,ck0,e0,r0⟩
   . exact absurd h0 (by simp [AO.Vac])
   . refine ⟨l,ck,e,λ x hx=>?_,r.has,r.one⟩
     obtain ⟨n,vs,q1,q2,q3,q4,q5⟩:=r.ent x hx
     obtain ⟨y,y1,y2⟩:=r0.has n q5
     obtain ⟨n',us,z1,_,_,z4,_⟩:=r0.ent y y1
     obtain rfl:n'=n:=by have:=z1.symm.trans y2;injection this
     exact ⟨n',vs,q1,q2,q3,λ j hj=>by
      obtain ⟨v,x1,x2,x3⟩:=q4 j hj
      obtain ⟨u,_,_,u3⟩:=z4 j hj
      exact ⟨v,x1,x2,supp_R f _ _ _ u3 x3⟩,q5⟩
 | .arr true _ z n g,_,_,_,_,h0,⟨cs,e,fr,r,q⟩=>⟨cs,e,fr,r,λ i hi j hj=>by
   obtain ⟨v,h1,h2,h3⟩:=q i hi j hj
   rcases h0 with h0 | ⟨_,_,_,_,q0⟩
   . simp only [AO.Vac] at h0;omega
   . obtain ⟨v0,_,_,p3⟩:=q0 i hi j hj
     exact ⟨v,h1,h2,supp_R f _ _ _ p3 h3⟩⟩
 | .arr false _ z n g,_,_,_,_,h0,⟨cs,r,q1,q2,q⟩=>⟨cs,r,q1,q2,λ i hi j hj=>by
   obtain ⟨v,h1,h2,h3⟩:=q i hi j hj
   rcases h0 with h0 | ⟨_,_,_,_,q0⟩
   . simp only [AO.Vac] at h0;omega
   . obtain ⟨v0,_,_,p3⟩:=q0 i hi j hj
     exact ⟨v,h1,h2,supp_R f _ _ _ p3 h3⟩⟩
theorem supp_Df {Me M':Mp}(f:FreshA Me x0):∀ (l:List Nat) (ds0 ds:List Deferred),DfR Me l ds0->DfR M' l ds->DfR (MR x0 ρ M' C) l ds
 | [],_,_,_,r=>r
 | _ :: l,_,_,⟨_,_,_,e0,p,_⟩,⟨b,κ,ds',r1,r2,r3⟩=>⟨b,κ,ds',by rw [MR_lt (f.lt e0)];exact r1,supp_Df f l _ _ p r2,r3⟩
theorem supp_Rd {Me M':Mp}(f:FreshA Me x0){l r0 r:Option Nat}(h0:RdR Me l r0)(h:RdR M' l r):RdR (MR x0 ρ M' C) l r:=by
 cases l with
 | none=>exact h
 | some l=>
   obtain ⟨_,_,e0,_⟩:=h0
   obtain ⟨b,κ,e,r⟩:=h
   exact ⟨b,κ,by rw [MR_lt (f.lt e0)];exact e,r⟩
end
theorem Tr.set_some {α:Type}:∀ (f:Nat) (t:Tr α) (p:Nat) (v:Option α),0 < p->p < 2 ^ f->∃ t',Tr.set f t p v=some t'
 | 0,t,p,v,h1,h2=>by simp at h2;omega
 | f + 1,t,p,v,h1,h2=>by
   have hd:Nat.div p 2=p / 2:=rfl
   have hp:p / 2 < 2 ^ f:=by rw [Nat.pow_succ] at h2;omega
   by_cases e1:p=1
   . subst e1
     cases t <;> exact ⟨_,by rw [Tr.set_eq];rfl⟩
   . have h3:0 < p / 2:=by omega
     cases t with
     | lf=>
       obtain ⟨t',ht⟩:=Tr.set_some f .lf (p / 2) v h3 hp
       simp only [Tr.set_eq,nbeq,e1,decide_false,cond_false,hd,ht]
       cases (decide (p.mod 2=0)) <;> exact ⟨_,rfl⟩
     | nd w l r=>
       obtain ⟨l',hl⟩:=Tr.set_some f l (p / 2) v h3 hp
       obtain ⟨r',hr⟩:=Tr.set_some f r (p / 2) v h3 hp
       simp only [Tr.set_eq,nbeq,e1,decide_false,cond_false,hd,hl,hr]
       cases (decide (p.mod 2=0)) <;> exact ⟨_,rfl⟩
def setQ {α:Type}(t:Tr α)(k:Nat)(v:Option α):Tr α:=match Tr.set 64 t (Nat.succ k) v with | some t'=>t' | none=>t
def setQs {α:Type}:Tr α->List (Nat × Option α)->Tr α
 | t,[]=>t
 | t,(k,v) :: l=>setQs (setQ t k v) l
theorem setQ_get {α:Type}{t:Tr α}{k:Nat}{v:Option α}(hk:k < 4294967296)(q:Nat):(setQ t k v).get (q + 1)=if q=k then v else t.get (q + 1):=by
 obtain ⟨t',ht⟩:=Tr.set_some 64 t (Nat.succ k) v (by omega) (by have:(2:Nat) ^ 64=18446744073709551616:=rfl;omega)
 unfold setQ
 rw [ht]
 simp only
 rw [Tr.get_set _ _ _ _ _ ht]
 simp
theorem setQs_ne {α:Type}:∀ {l:List (Nat × Option α)} {t:Tr α},(∀ p ∈ l,p.1 < 4294967296)->∀ q,q ∉ l.map (·.1)->(setQs t l).get (q + 1)=t.get (q + 1)
 | [],t,_,q,_=>rfl
 | (k,v) :: l,t,h,q,hq=>by
   simp only [List.map_cons,List.mem_cons,not_or] at hq
   simp only [setQs]
   rw [setQs_ne (λ p hp=>h p (by simp [hp])) q hq.2,setQ_get (h (k,v) (by simp)) q,if_neg hq.1]
theorem setQs_eq {α:Type}:∀ {l:List (Nat × Option α)} {t:Tr α},(∀ p ∈ l,p.1 < 4294967296)->(l.map (·.1)).Nodup->∀ q v,(q,v) ∈ l->(setQs t l).get (q + 1)=v
 | [],t,_,_,q,v,hm=>by simp at hm
 | (k,w) :: l,t,h,hn,q,v,hm=>by
   simp only [List.map_cons,List.nodup_cons] at hn
   simp only [setQs]
   rcases List.mem_cons.1 hm with hm | hm
   . simp only [Prod.mk.injEq] at hm
     obtain ⟨rfl,rfl⟩:=hm
     rw [setQs_ne (λ p hp=>h p (by simp [hp])) q hn.1,setQ_get (h (q,v) (by simp)) q,if_pos rfl]
   . exact setQs_eq (λ p hp=>h p (by simp [hp])) hn.2 q v hm
theorem setQs_map {α:Type}{g:Nat->Option α}:∀ {W:List Nat} {t:Tr α},(∀ p ∈ W,p < 4294967296)->∀ q,q ∈ W->(setQs t (W.map λ t=>(t,g t))).get (q + 1)=g q
 | [],t,_,q,hq=>by simp at hq
 | k :: W,t,h,q,hq=>by
   simp only [List.map_cons,setQs]
   by_cases hw:q ∈ W
   . exact setQs_map (λ p hp=>h p (by simp [hp])) q hw
   . have hk:q=k:=by simpa [hw] using hq
     subst hk
     rw [setQs_ne (λ p hp=>by obtain ⟨x,hx,rfl⟩:=List.mem_map.1 hp;exact h x (by simp [hx])) q (by simpa using hw),setQ_get (h q (by simp)) q,if_pos rfl]
structure LoopA where
 ι:Type
 tms:List Nat
 tmU:ι->List AV
 ids:List Nat
 hpU:ι->List AO
 del:List Nat
 ex:Nat
 pre:ι->Prop
 ms:ι->Nat
def tlA (A:LoopA)(i:A.ι):List (Nat × AV):=A.tms.zip (A.tmU i)
def hlA (A:LoopA)(i:A.ι):List (Nat × AO):=A.ids.zip (A.hpU i)
def headS (s:St)(W:List Nat)(A:LoopA)(g:Nat->AV)(i:A.ι):St:=
 { s with
   tm:=setQs (setQs s.tm (W.map λ t=>(t,some (g t)))) ((tlA A i).map λ p=>(p.1,some p.2))
   h:=⟨setQs (setQs s.h.t (A.del.map λ d=>(d,none))) ((hlA A i).map λ p=>(p.1,some p.2)),s.h.nx + A.ex,s.h.nx,[]⟩ }
def allLt (n:Nat):List Nat->Bool
 | []=>true
 | x :: l=>bif Nat.blt x n then allLt n l else false
def nodupB:List Nat->Bool
 | []=>true
 | x :: l=>bif memN x l then false else nodupB l
def apartB (a:List Nat):List Nat->Bool
 | []=>true
 | x :: l=>bif memN x a then false else apartB a l
def okA (s:St)(W:List Nat)(A:LoopA):Bool:=
 allLt 4294967296 W && allLt 4294967296 A.tms && allLt 4294967296 A.ids && allLt 4294967296 A.del && nodupB A.tms && nodupB A.ids && apartB A.del A.ids && allLt (s.h.nx + A.ex) A.ids
theorem allLt_ok {n:Nat}:∀ {l:List Nat},allLt n l=true->∀ x ∈ l,x < n
 | [],_,x,hx=>by simp at hx
 | y :: l,h,x,hx=>by
   simp only [allLt,nblt,Bool.cond_decide] at h
   split at h
   . rcases List.mem_cons.1 hx with rfl | hx
     . assumption
     . exact allLt_ok h x hx
   . cases h
theorem nodupB_ok:∀ {l:List Nat},nodupB l=true->l.Nodup
 | [],_=>List.nodup_nil
 | y :: l,h=>by
   simp only [nodupB,Bool.cond_eq_ite] at h
   split at h
   . cases h
   . rename_i hm
     exact List.nodup_cons.2 ⟨λ e=>hm (memN_iff.2 e),nodupB_ok h⟩
theorem apartB_ok {a:List Nat}:∀ {l:List Nat},apartB a l=true->∀ x ∈ l,x ∉ a
 | [],_,x,hx=>by simp at hx
 | y :: l,h,x,hx=>by
   simp only [apartB,Bool.cond_eq_ite] at h
   split at h
   . cases h
   . rename_i hm
     rcases List.mem_cons.1 hx with rfl | hx
     . exact λ e=>hm (memN_iff.2 e)
     . exact apartB_ok h x hx
theorem zip_fst {α:Type}:∀ (l:List Nat) (k:List α),∃ n,(l.zip k).map (·.1)=l.take n
 | [],k=>⟨0,by simp⟩
 | x :: l,[]=>⟨0,by simp⟩
 | x :: l,y :: k=>by
   obtain ⟨n,h⟩:=zip_fst l k
   exact ⟨n + 1,by simp [h]⟩
theorem zip_mem {α:Type}{l:List Nat}{k:List α}{x:Nat}{v:α}(h:(x,v) ∈ l.zip k):x ∈ l:=(List.of_mem_zip h).1
section
variable {s : St} {W : List Nat} {A : LoopA}
theorem head_tm {g:Nat->AV}{i:A.ι}(ok:okA s W A=true)(t:Nat):
 (∃ v,(t,v) ∈ tlA A i/\(headS s W A g i).tm.get (t + 1)=some v) ∨ (t ∈ W/\(headS s W A g i).tm.get (t + 1)=some (g t)) ∨ (t ∉ W/\(∀ v,(t,v) ∉ tlA A i)/\(headS s W A g i).tm.get (t + 1)=s.tm.get (t + 1)):=by
 simp only [okA,Bool.and_eq_true] at ok
 obtain ⟨⟨⟨⟨⟨⟨⟨o1,o2⟩,o3⟩,o4⟩,o5⟩,o6⟩,o7⟩,o8⟩:=ok
 have hl:∀ p ∈ (tlA A i).map (λ p=>(p.1,some p.2)),p.1 < 4294967296:=λ p hp=>by
  obtain ⟨q,hq,rfl⟩:=List.mem_map.1 hp
  exact allLt_ok o2 _ (zip_mem (v:=q.2) hq)
 have hw:∀ p ∈ W.map (λ t=>(t,some (g t))),p.1 < 4294967296:=λ p hp=>by
  obtain ⟨q,hq,rfl⟩:=List.mem_map.1 hp
  exact allLt_ok o1 _ hq
 have hfst:((tlA A i).map (λ p=>(p.1,some p.2))).map (·.1)=(tlA A i).map (·.1):=by simp [List.map_map,Function.comp_def]
 have hnd:(((tlA A i).map (λ p=>(p.1,some p.2))).map (·.1)).Nodup:=by
  rw [hfst]
  obtain ⟨n,hn⟩:=zip_fst A.tms (A.tmU i)
  unfold tlA
  rw [hn]
  exact (nodupB_ok o5).sublist (List.take_sublist n _)
 by_cases ht:t ∈ (tlA A i).map (·.1)
 . obtain ⟨⟨t',v⟩,hq,rfl⟩:=List.mem_map.1 ht
   exact .inl ⟨v,hq,setQs_eq hl hnd _ _ (List.mem_map.2 ⟨(t',v),hq,rfl⟩)⟩
 . right
   have e:(headS s W A g i).tm.get (t + 1)=(setQs s.tm (W.map λ t=>(t,some (g t)))).get (t + 1):=setQs_ne hl t (by rw [hfst];exact ht)
   rw [e]
   by_cases hW:t ∈ W
   . exact .inl ⟨hW,setQs_map (g:=λ t=>some (g t)) (allLt_ok o1) t hW⟩
   . exact .inr ⟨hW,λ v hv=>ht (List.mem_map.2 ⟨(t,v),hv,rfl⟩),setQs_ne hw t (by simpa using hW)⟩
theorem head_get {g:Nat->AV}{i:A.ι}(ok:okA s W A=true)(id:Nat):
 (∃ c,(id,c) ∈ hlA A i/\(headS s W A g i).h.get id=some c) ∨ ((∀ c,(id,c) ∉ hlA A i)/\id ∈ A.del/\(headS s W A g i).h.get id=none) ∨ ((∀ c,(id,c) ∉ hlA A i)/\id ∉ A.del/\(headS s W A g i).h.get id=s.h.get id):=by
 simp only [okA,Bool.and_eq_true] at ok
 obtain ⟨⟨⟨⟨⟨⟨⟨o1,o2⟩,o3⟩,o4⟩,o5⟩,o6⟩,o7⟩,o8⟩:=ok
 have hl:∀ p ∈ (hlA A i).map (λ p=>(p.1,some p.2)),p.1 < 4294967296:=λ p hp=>by
  obtain ⟨q,hq,rfl⟩:=List.mem_map.1 hp
  exact allLt_ok o3 _ (zip_mem (v:=q.2) hq)
 have hw:∀ p ∈ A.del.map (λ d=>((d,none):Nat × Option AO)),p.1 < 4294967296:=λ p hp=>by
  obtain ⟨q,hq,rfl⟩:=List.mem_map.1 hp
  exact allLt_ok o4 _ hq
 have hfst:((hlA A i).map (λ p=>(p.1,some p.2))).map (·.1)=(hlA A i).map (·.1):=by simp [List.map_map,Function.comp_def]
 have hnd:(((hlA A i).map (λ p=>(p.1,some p.2))).map (·.1)).Nodup:=by
  rw [hfst]
  obtain ⟨n,hn⟩:=zip_fst A.ids (A.hpU i)
  unfold hlA
  rw [hn]
  exact (nodupB_ok o6).sublist (List.take_sublist n _)
 by_cases ht:id ∈ (hlA A i).map (·.1)
 . obtain ⟨⟨t',v⟩,hq,rfl⟩:=List.mem_map.1 ht
   exact .inl ⟨v,hq,setQs_eq hl hnd _ _ (List.mem_map.2 ⟨(t',v),hq,rfl⟩)⟩
 . right
   have hno:∀ c,(id,c) ∉ hlA A i:=λ c hc=>ht (List.mem_map.2 ⟨(id,c),hc,rfl⟩)
   have e:(headS s W A g i).h.get id=(setQs s.h.t (A.del.map λ d=>((d,none):Nat × Option AO))).get (id + 1):=setQs_ne hl id (by rw [hfst];exact ht)
   rw [e]
   by_cases hW:id ∈ A.del
   . exact .inl ⟨hno,hW,setQs_map (g:=λ _=>(none:Option AO)) (allLt_ok o4) id hW⟩
   . exact .inr ⟨hno,hW,setQs_ne hw id (by simpa using hW)⟩
end
structure Frm (c:Code)(s s':St):Prop where
 tm:∀ t,t ∉ wrC c->frzM t ∉ s'.h.wl->s'.tm.get (t + 1)=s.tm.get (t + 1)
 nx:s.h.nx<=s'.h.nx
 bs:s'.h.bs=s.h.bs
 wl:∀ x,x ∈ s.h.wl->x ∈ s'.h.wl
 log:∀ x,x < s.h.bs->x < s.h.nx->x ∉ s'.h.wl->s'.h.get x=s.h.get x
 sz:s'.sz=s.sz
 rd:s'.rd=s.rd
theorem Frm.trans {a b c:Code}{s s1 s2:St}(h:Frm a s s1)(k:Frm b s1 s2)(hc:∀ t,t ∉ wrC c->t ∉ wrC a/\t ∉ wrC b):Frm c s s2:=
 ⟨λ t ht hf=>(k.tm t (hc t ht).2 hf).trans (h.tm t (hc t ht).1 (λ q=>hf (k.wl _ q))),Nat.le_trans h.nx k.nx,k.bs.trans h.bs,λ x hx=>k.wl x (h.wl x hx),λ x h1 h2 h3=>(k.log x (by rw [h.bs];exact h1) (Nat.lt_of_lt_of_le h2 h.nx) h3).trans (h.log x h1 h2 (λ e=>h3 (k.wl x e))),k.sz.trans h.sz,k.rd.trans h.rd⟩
theorem Frm.code {a b:Code}{s s1:St}(h:Frm a s s1)(hc:∀ t,t ∉ wrC b->t ∉ wrC a):Frm b s s1:=⟨λ t ht hf=>h.tm t (hc t ht) hf,h.nx,h.bs,h.wl,h.log,h.sz,h.rd⟩
def eqNs:List Nat->List Nat->Bool
 | [],[]=>true
 | a :: l,b :: k=>Nat.beq a b && eqNs l k
 | _,_=>false
theorem eqNs_ok:∀ {a b:List Nat},eqNs a b=true->a=b
 | [],[],_=>rfl
 | a :: l,b :: k,h=>by
   simp only [eqNs,Bool.and_eq_true] at h
   rw [beqN h.1,eqNs_ok h.2]
 | [],_ :: _,h=>by cases h
 | _ :: _,[],h=>by cases h
def endOk (s:St)(A:LoopA)(s':St):Bool:=s'.h.wl.all (λ x=>memN x A.ids || memN x A.del || (Nat.ble 4294967296 x && memN (Nat.sub x 4294967296) A.tms)) && eqNs s'.df s.df && Nat.ble s.h.nx 4294967296
def lenOk (A:LoopA)(i:A.ι):Bool:=Nat.beq (A.hpU i).length A.ids.length && Nat.beq (A.tmU i).length A.tms.length
def nl:Code->Nat
 | .seq a b=>nl a + nl b
 | .cond _ a b=>nl a + nl b
 | .block _ c=>nl c
 | .loop c=>nl c + 1
 | .scope c=>nl c
 | .rangeFunc ..=>1
 | _=>0
def filtLt (n:Nat):List Nat->List Nat
 | []=>[]
 | x :: l=>bif Nat.blt x n then x :: filtLt n l else filtLt n l
def filtGe:List Nat->List Nat
 | []=>[]
 | x :: l=>bif Nat.ble 4294967296 x then x :: filtGe l else filtGe l
def logT (W:List Nat):List Nat->List Nat
 | []=>[]
 | x :: l=>bif memN x W then logT W l else frzM x :: logT W l
theorem filtGe_mem {x:Nat}:∀ {l:List Nat},x ∈ l->4294967296<=x->x ∈ filtGe l
 | [],h,_=>by simp at h
 | y :: l,h,hn=>by
   simp only [filtGe,nble,Bool.cond_decide]
   rcases List.mem_cons.1 h with rfl | h
   . rw [if_pos hn];simp
   . split
     . exact List.mem_cons_of_mem _ (filtGe_mem h hn)
     . exact filtGe_mem h hn
theorem logT_mem {W:List Nat}{x:Nat}:∀ {l:List Nat},x ∈ l->x ∉ W->frzM x ∈ logT W l
 | [],h,_=>by simp at h
 | y :: l,h,hn=>by
   simp only [logT,Bool.cond_eq_ite]
   rcases List.mem_cons.1 h with rfl | h
   . rw [if_neg (by rw [memN_iff];exact hn)];simp
   . split
     . exact logT_mem h hn
     . exact List.mem_cons_of_mem _ (logT_mem h hn)
def backS (s:St)(W:List Nat)(A:LoopA)(s':St):St:={ s' with h:=⟨s'.h.t,s'.h.nx,s.h.bs,filtLt s.h.bs (A.ids ++ A.del ++ s'.h.wl) ++ (logT W A.tms ++ filtGe s'.h.wl) ++ s.h.wl⟩ }
def loopW (wxc:St->(AX->St->Prop)->Prop):Nat->St->(AX->St->Prop)->Prop
 | 0,_,_=>False
 | m + 1,s,K=>wxc s (λ e s'=>match e with | .nm=>loopW wxc m s' K | e=>K e s')
def rangeIn (g:Operand)(ps:Array Tmp)(asg bo:Code)(s:St):Option (FuncId × List AV × Nat × List Nat × AH):=
 match evT s.tm g with
 | .fn gf caps=>match s.rd with
   | none=>match s.h.new (.dfr true) with
     | some h=>match h.new (.loop .ready none s.tm s.sz ps asg bo s.h.nx) with
       | some h1=>some (gf,.yl h.nx :: caps,h.nx,s.h.nx :: s.df,h1)
       | none=>none
     | none=>none
   | some _=>none
 | _=>none
def busyB:LoopState->Bool
 | .busy=>true
 | _=>false
def outR (s:St):Option Code->Option (AX × St)
 | none=>some (.nm,s)
 | some .ret=>some (.rt,s)
 | some (.exit id)=>some (.ex id,s)
 | some _=>none
def rangeOut (s:St)(df:List Nat)(l:Nat)(h2:AH):Option (AX × St):=
 match h2.get l with
 | some (.loop st pe tm sz ps asg bo D)=>match h2.put l (some (.loop .exhausted pe tm sz ps asg bo D)) with
   | some h3=>bif busyB st then none else outR { s with df:=df,h:=h3 } pe
   | none=>none
 | _=>none
def wx (P:Program)(sm:FuncId->Option Sm)(ann:Nat->Option (St->LoopA)):Nat->Code->Nat->St->(AX->St->Prop)->Prop
 | 0,_,_,_,_=>False
 | n + 1,c,b,s,K=>match c with
   | .seq x y=>wx P sm ann n x b s (λ e s'=>match e with | .nm=>wx P sm ann n y (b + nl x) s' K | e=>K e s')
   | .block id x=>wx P sm ann n x b s (λ e s'=>match e with | .ex j=>bif Nat.beq j id then K .nm s' else K (.ex j) s' | e=>K e s')
   | .scope x=>wx P sm ann n x b s K
   | .cond t x y=>match evT s.tm t with
     | .b q=>bif q then wx P sm ann n x b s K else wx P sm ann n y (b + nl x) s K
     | .yb q=>(q=true->wx P sm ann n x b s K)/\(q=false->wx P sm ann n y (b + nl x) s K)
     | _=>False
   | .loop x=>match ann b with
     | none=>loopW (wx P sm ann n x (b + 1)) n s K
     | some A0=>okA s (wrC x) (A0 s)=true/\(∃ i0,(A0 s).pre i0/\lenOk (A0 s) i0=true/\matchS s.h.nx (s.h.nx + (A0 s).ex) (A0 s).del (tlA (A0 s) i0) (hlA (A0 s) i0) s) ∧
        ∀ (g:Nat->AV) (i:(A0 s).ι),(A0 s).pre i->wx P sm ann n x (b + 1) (headS s (wrC x) (A0 s) g i) (λ e s'=>match e with
          | .nm=>endOk s (A0 s) s'=true/\∃ i',(A0 s).pre i'/\(A0 s).ms i' < (A0 s).ms i/\lenOk (A0 s) i'=true/\matchS s.h.nx (s.h.nx + (A0 s).ex) (A0 s).del (tlA (A0 s) i') (hlA (A0 s) i') s'
          | e=>K e (backS s (wrC x) (A0 s) s'))
   | .rangeFunc g ps asg bo=>match ann (b + 1000) with
     | none=>(execT P sm n (.rangeFunc g ps asg bo) s).all λ p=>K p.1 p.2
     | some _=>match rangeIn g ps asg bo s with
       | some (gf,args,l,df,h1)=>match P.funcs[gf]? with
         | some fn=>bif okFn fn then match fn.body with
           | some cb=>match initT .lf 0 args with
             | some tm=>wx P sm ann n cb (b + 1000) ⟨tm,max fn.ntmps args.length,[],none,h1⟩ (λ x s'=>match finA P fn x s' with
               | some (_,h2)=>match rangeOut s df l h2 with | some (x',s'')=>K x' s'' | none=>False
               | none=>False)
             | none=>False
           | none=>False
           else False
         | none=>False
       | none=>False
   | c=>(execT P sm n c s).all λ p=>K p.1 p.2
section
variable {P : Program}
theorem found_head {s s':St}{W:List Nat}{A:LoopA}{i:A.ι}(ok:okA s W A=true)(hm:matchS s.h.nx (s.h.nx + A.ex) A.del (tlA A i) (hlA A i) s')
 (htm:∀ t,t ∉ W->(∀ v,(t,v) ∉ tlA A i)->s'.tm.get (t + 1)=s.tm.get (t + 1)) (hh:∀ id,id < s.h.nx->(∀ c,(id,c) ∉ hlA A i)->id ∉ A.del->s'.h.get id=s.h.get id) (hsz:s'.sz=s.sz) (hdf:s'.df=s.df) (hrd:s'.rd=s.rd)
 {Me:Mp} {ae:Act} {we:World} {re:Option Nat} (se:StR Me s ae we) (rde:RdR Me s.rd re) (fe:FreshA Me s.h.nx) :
 ∀ (M:Mp) (a:Act) (w:World),StR M s' a w->FreshA M s'.h.nx->∃ g M1,StR M1 (headS s W A g i) a w/\FreshA M1 (headS s W A g i).h.nx/\(∀ r,RdR M s'.rd r->RdR M1 (headS s W A g i).rd r)/\Wid (OwnP M s'.h) (OwnP M1 (headS s W A g i).h)/\∀ id,id < s.h.nx->M1 id=M id:=by
 intro M a w st fr
 obtain ⟨ρ1,_,e1,t1⟩:=cmpTs_ok hm
 obtain ⟨ρ,h2,okr,t2⟩:=cmpHs_ok e1
 have t2:=t2 M w st.h
 simp only [Bool.and_eq_true] at okr
 obtain ⟨okr,okf⟩:=okr
 let g:Nat->AV:=λ t=>.o (a.tmps.getD t undef)
 have hids:∀ id c,(id,c) ∈ hlA A i->id < s.h.nx + A.ex:=λ id c hc=>by
  have ok2:=ok
  simp only [okA,Bool.and_eq_true] at ok2
  exact allLt_ok ok2.2 _ (zip_mem (v:=c) hc)
 have hap:∀ id c,(id,c) ∈ hlA A i->id ∉ A.del:=λ id c hc=>by
  have ok2:=ok
  simp only [okA,Bool.and_eq_true] at ok2
  exact apartB_ok ok2.1.2 _ (zip_mem (v:=c) hc)
 -- a block at the head,in s'
 have key:∀ id o,(headS s W A g i).h.get id=some o->(MR s.h.nx ρ M (cellsW w) id=none/\o.Vac) ∨ ∃ ia a',(id < s.h.nx->ia=id)/\(¬ id < s.h.nx->ρ.at id=some ia/\id < 4294967296)/\s'.h.get ia=some a'/\o.ro=a'.ro/\(a'.Vac->o.Vac)/\∀ κ ob,ObR M κ a' ob->ObR (MR s.h.nx ρ M (cellsW w)) κ o ob:=by
  intro id o ho
  rcases head_get (g:=g) (i:=i) ok id with ⟨c,hc,e⟩ | ⟨_,_,e⟩ | ⟨hno,hd,e⟩
  . rw [ho] at e
    simp only [sI] at e;subst e
    rcases t2 id o hc with ⟨f1,f2,f3,_⟩ | f
    . exact .inl ⟨by unfold MR;simp only;rw [if_neg f1,f2];simp,f3⟩
    . obtain ⟨ia,a',f1,f2,f3⟩:=f
      have ok2:=ok
      simp only [okA,Bool.and_eq_true] at ok2
      exact .inr ⟨ia,a',f1,λ e=>⟨f2 e,allLt_ok ok2.1.1.1.1.1.2 _ (zip_mem (v:=o) hc)⟩,f3⟩
  . rw [ho] at e;cases e
  . rw [ho] at e
    have hlt:id < s.h.nx:=se.h.wf id (by rw [<- e];simp)
    have hs':=hh id hlt hno hd
    rw [<- e] at hs'
    refine .inr ⟨id,o,λ _=>rfl,λ h=>absurd hlt h,hs',rfl,λ v=>v,λ κ ob hob=>?_⟩
    rcases se.h.obj id o e.symm with ⟨hv,_⟩ | ⟨_,κ0,ob0,_,_,h0⟩
    . exact supp_O fe o (κ0:=0) (ob0:=ob) (.inl hv) hob
    . exact supp_O fe o (.inr h0) hob
 have hMR:∀ id ia,(id < s.h.nx->ia=id)->(¬ id < s.h.nx->ρ.at id=some ia/\id < 4294967296)->MR s.h.nx ρ M (cellsW w) id=M ia:=λ id ia h1 h2=>by
  unfold MR
  simp only
  split
  . rename_i h;rw [h1 h]
  . rename_i h
    have hr:=h2 h
    rw [if_neg (by omega),hr.1]
 refine ⟨g,MR s.h.nx ρ M (cellsW w),⟨λ t=>?_,?_,?_,?_⟩,?_,?_,?_,λ id hid=>MR_lt hid⟩
 . rcases head_tm (g:=g) (i:=i) ok t with ⟨v,hv,e⟩ | ⟨_,e⟩ | ⟨hW,hT,e⟩
   . rw [e]
     exact AV.R.mono (MR_le h2 M) _ _ (t1 M w st.h t v hv (a.tmps.getD t undef) (by rw [evT_tmp];exact st.tm t))
   . rw [e];rfl
   . rw [e]
     have:=st.tm t
     rw [htm t hW hT] at this
     exact supp_R fe _ _ _ (se.tm t) this
 . rw [st.sz,hsz];rfl
 . have:=st.df
   rw [hdf] at this
   exact supp_Df fe _ _ _ se.df this
 . refine ⟨λ id o ho=>?_,λ x y b κ κ' o hx hr hy e1 e2=>?_,λ x hx=>?_,st.h.gw,λ x b κ o hx hro hM=>?_,λ b cs hz=>?_,λ x b κ o hx hr hM=>?_⟩
   . rcases key id o ho with ⟨k1,k2⟩ | ⟨ia,a',k1,k2,k3,k4,k5,k6⟩
     . exact .inl ⟨k2,k1⟩
     . rcases st.h.obj ia a' k3 with ⟨hv,hM⟩ | ⟨b,κ,ob,hM,hb,hob⟩
       . exact .inl ⟨k5 hv,by rw [hMR id ia k1 k2];exact hM⟩
       . exact .inr ⟨b,κ,ob,by rw [hMR id ia k1 k2];exact hM,hb,k6 κ ob hob⟩
   . cases hyy:(headS s W A g i).h.get y with
     | none=>exact absurd hyy hy
     | some oy=>
       rcases key x o hx with ⟨k1,_⟩ | ⟨ia,a',k1,k2,k3,k4,_,_⟩
       . rw [k1] at e1;cases e1
       . rcases key y oy hyy with ⟨l1,_⟩ | ⟨ja,b',l1,l2,l3,_,_,_⟩
         . rw [l1] at e2;cases e2
         . rw [hMR x ia k1 k2] at e1
           rw [hMR y ja l1 l2] at e2
           have hij:=st.h.inj ia ja b κ κ' a' k3 (by rw [<- k4];exact hr) (by rw [l3];simp) e1 e2
           subst hij
           have hnd:∀ z oz,(headS s W A g i).h.get z=some oz->z < s.h.nx->z ∉ A.del:=λ z oz hz _=>by
            rcases head_get (g:=g) (i:=i) ok z with ⟨c,hc,_⟩ | ⟨_,_,e⟩ | ⟨_,hd,_⟩
            . exact hap z c hc
            . rw [hz] at e;cases e
            . exact hd
           by_cases hx0:x < s.h.nx <;> by_cases hy0:y < s.h.nx
           . rw [<- k1 hx0,l1 hy0]
           . have:=okR_at okr (l2 hy0).1
             have hxi:=k1 hx0
             rcases this.1 with q | q
             . omega
             . rw [hxi] at q;exact absurd q (hnd x o hx hx0)
           . have:=okR_at okr (k2 hx0).1
             have hyi:=l1 hy0
             rcases this.1 with q | q
             . omega
             . rw [hyi] at q;exact absurd q (hnd y oy hyy hy0)
           . exact okR_inj okr (k2 hx0).1 (l2 hy0).1
   . show x < s.h.nx + A.ex
     rcases head_get (g:=g) (i:=i) ok x with ⟨c,hc,_⟩ | ⟨_,_,e⟩ | ⟨_,_,e⟩
     . exact hids x c hc
     . exact absurd e hx
     . rw [e] at hx;have:=se.h.wf x hx;omega
   . rcases key x o hx with ⟨k1,_⟩ | ⟨ia,a',k1,k2,k3,k4,_,_⟩
     . rw [k1] at hM;cases hM
     . rw [hMR x ia k1 k2] at hM
       exact st.h.gf ia b κ _ k3 (k4.symm.trans hro) hM
   . unfold MR at hz
     simp only at hz
     split at hz
     . rename_i cs' hz'
       simp only [sI] at hz;subst hz
       exact st.h.fz b _ hz'
     . split at hz
       . rename_i hf
         obtain ⟨a,κ2,f1,f2⟩:=frzB_iff.1 hf
         obtain ⟨oa,f3,f4⟩:=okFz_at okf f1
         unfold cellsW at hz
         split at hz
         . rename_i cs' e fr hb
           simp only [sI] at hz;subst hz
           exact ⟨e,fr,hb⟩
         . cases hz
       . cases hz
   . rcases key x o hx with ⟨k1,_⟩ | ⟨ia,a',k1,k2,k3,k4,_,_⟩
     . rw [k1] at hM;cases hM
     . rw [hMR x ia k1 k2] at hM
       have hz:=st.h.fo ia b κ a' k3 (by rw [<- k4];exact hr) hM
       unfold MR
       simp only [hz]
       cases hf:frzB ρ M b with
       | false=>rfl
       | true=>
         exfalso
         obtain ⟨a,κ2,f1,f2⟩:=frzB_iff.1 hf
         obtain ⟨oa,f3,f4⟩:=okFz_at okf f1
         have hij:=st.h.inj a ia b κ2 κ oa f3 f4 (by rw [k3];simp) f2 hM
         subst hij
         by_cases hx0:x < s.h.nx
         . have hxi:=k1 hx0
           rcases (okR_at okr f1).1 with q | q
           . omega
           . rw [hxi] at q
             rcases head_get (g:=g) (i:=i) ok x with ⟨c,hc,_⟩ | ⟨_,_,e⟩ | ⟨_,hd,_⟩
             . exact hap x c hc q
             . rw [hx] at e;cases e
             . exact hd q
         . have h3:=okR_inj okr (k2 hx0).1 f1
           have h4:=(k2 hx0).2
           rw [h3] at h4
           have h5:4294967296<=frzM a:=Nat.le_add_right _ _
           omega
 . intro id hid
   have hid:s.h.nx + A.ex<=id:=hid
   unfold MR
   simp only
   rw [if_neg (by omega)]
   split
   . rfl
   . rename_i h32
     cases ha:ρ.at id with
     | none=>rfl
     | some ia=>have:=(okR_at okr ha).2;omega
 . intro r hr
   rw [hrd] at hr
   exact supp_Rd fe rde hr
 . refine ⟨λ b ⟨id,κ,o,h1,h2,h3⟩=>?_,λ b cs e=>MR_zm (x0:=s.h.nx) e,λ b cs e=>?_⟩
   rcases key id o h1 with ⟨k1,_⟩ | ⟨ia,a',k1,k2,k3,k4,_,_⟩
   . rw [k1] at h3;cases h3
   . exact ⟨ia,κ,a',k3,by rw [<- k4];exact h2,by rw [<- hMR id ia k1 k2];exact h3⟩
   unfold OwnP MR at e
   simp only at e
   split at e
   . rename_i cs' hz
     simp only [sI] at e;subst e
     exact .inl hz
   . split at e
     . rename_i hf
       obtain ⟨a,κ2,f1,f2⟩:=frzB_iff.1 hf
       obtain ⟨oa,f3,f4⟩:=okFz_at okf f1
       exact .inr ⟨a,κ2,oa,f3,f4,f2⟩
     . cases e
end
def TriF (P:Program)(f:FuncId)(args:List AV)(h:AH)(K:AV->AH->Prop):Prop:=∀ (M:Mp) (us:List Value) (w:World) (r:Option Nat) (R:Ending->World->Prop),AV.RL M args us->Rel M h w->FreshA M h.nx →
 (∀ v h' M' u w',K v h'->v.R M' u->Rel M' h' w'->FreshA M' h'.nx->FrO (OwnP M h) w (OwnP M' h') w'->(∀ id,id < h.nx->M' id=M id)->R (.returned u) w') →
 (callFunc f us.toArray).run P w=.ok (.enter f us.toArray) w/\CallsIn (FW r) 0 P f us.toArray w R
section
variable {P : Program} {sm : FuncId -> Option Sm}
theorem leaf_ok (hm:P.follows .mixedOrders=true)(hs:SmOK P sm){n:Nat}{c:Code}{s:St}{K:AX->St->Prop}(h:(execT P sm n c s).all λ p=>K p.1 p.2):TriC P c s λ x s'=>K x s'/\Frm c s s':=by
 obtain ⟨⟨x,s'⟩,h1,h2⟩:=T.all_sel h
 rw [execT_sel] at h1
 obtain ⟨⟨g1,ga⟩,g2,g3,_⟩:=(exec_good hm hs n).code _ _ _ _ h1
 exact tri_exec hm hs h1 ⟨h2,λ t ht _=>exec_wr n c s x s' h1 t ht,g1,ga.bs,ga.wl,ga.log,g2,g3⟩
theorem loopW_ok {x:Code}{wxc:St->(AX->St->Prop)->Prop}(hw:∀ s K,wxc s K->TriC P x s λ e s'=>K e s'/\Frm x s s'){s0:St}{K:AX->St->Prop}:∀ (m:Nat) (s:St),Frm (.loop x) s0 s->loopW wxc m s K →
 ∀ (M:Mp) (a:Act) (w:World) (r:Option Nat) (Q:Exit->Act->World->Prop),StR M s a w->RdR M s.rd r->FreshA M s.h.nx →
   (∀ e s' M' a' w',(K e s'/\Frm (.loop x) s0 s')->StR M' s' a' w'->RdR M' s'.rd r->FreshA M' s'.h.nx->FrO (OwnP M s.h) w (OwnP M' s'.h) w'->(s.h.nx<=s'.h.nx/\∀ id,id < s.h.nx->M' id=M id)->Q (exitOf e) a' w')->Code.roundsIn (FW r) 0 P x Q m a w
 | 0,s,_,h=>h.elim
 | m + 1,s,hf,h=>λ M a w r Q st rd fr q=>by
   rw [roundsIn_succ]
   refine hw s _ h M a w r _ st rd fr λ e s' M' a' w' ⟨hk,hfr⟩ st' rd' fr' f' k'=>?_
   have hf':Frm (.loop x) s0 s':=hf.trans (hfr.code (b:=.loop x) λ t ht=>ht) (λ t ht=>⟨ht,ht⟩)
   cases e with
   | nm=>exact loopW_ok hw m s' hf' hk M' a' w' r Q st' rd' fr' λ e s2 M2 a2 w2 hk2 st2 rd2 fr2 f2 k2=>q e s2 M2 a2 w2 hk2 st2 rd2 fr2 (f'.trans f2) ⟨Nat.le_trans k'.1 k2.1,λ id hid=>(k2.2 id (Nat.lt_of_lt_of_le hid k'.1)).trans (k'.2 id hid)⟩
   | ex id=>exact q _ s' M' a' w' ⟨hk,hf'⟩ st' rd' fr' f' k'
   | rt=>exact q _ s' M' a' w' ⟨hk,hf'⟩ st' rd' fr' f' k'
theorem filtLt_mem {n x:Nat}:∀ {l:List Nat},x ∈ l->x < n->x ∈ filtLt n l
 | [],h,_=>by simp at h
 | y :: l,h,hn=>by
   simp only [filtLt,nblt,Bool.cond_decide]
   rcases List.mem_cons.1 h with rfl | h
   . rw [if_pos hn];simp
   . split
     . exact List.mem_cons_of_mem _ (filtLt_mem h hn)
     . exact filtLt_mem h hn
theorem zip_full {α:Type}:∀ {l:List Nat} {k:List α},k.length=l.length->∀ x ∈ l,∃ v,(x,v) ∈ l.zip k
 | [],_,_,x,hx=>by simp at hx
 | y :: l,[],h,x,hx=>by simp at h
 | y :: l,v :: k,h,x,hx=>by
   rcases List.mem_cons.1 hx with rfl | hx
   . exact ⟨v,by simp⟩
   . obtain ⟨u,hu⟩:=zip_full (l:=l) (k:=k) (by simpa using h) x hx
     exact ⟨u,by simp [hu]⟩
theorem body_call {f:FuncId}{fn:Func}{c:Code}(hf:P.funcs[f]?=some fn)(hok:okFn fn=true)(hb:fn.body=some c){args:List AV}{tm:Tr AV}(htm:initT .lf 0 args=some tm){h:AH}{KB:AX->St->Prop}{K:AV->AH->Prop}
 (hw:TriC P c ⟨tm,max fn.ntmps args.length,[],none,h⟩ KB) (hk:∀ x s',KB x s'->∃ v h',finA P fn x s'=some (v,h')/\K v h'):TriF P f args h K:=by
 intro M us w r R ra rr fr k
 refine ⟨?_,?_⟩
 · have hnn : ¬ (fn.name = "runtime.NumGoroutine") := by simpa [okFn] using hok
   simp [callFunc,hf,hnn,hb]
 . show CallsIn (FW none) 0 P f us.toArray w R
   refine callsIn_of_wp_marks hf hb trivial ?_
   have hl:=RL_length ra
   refine hw M _ w none _ ⟨?_,?_,rfl,rr⟩ rfl fr ?_
   . simp only
     exact initT_TR htm ra
   . simp only [Array.size_append,List.size_toArray,Array.size_replicate,hl];omega
   . intro x s' M' a' w' hkb st _ fr' f' k'
     obtain ⟨v,h',hfin,hK⟩:=hk x s' hkb
     have main:∀ {h2:AH},takeAll s'.h s'.df=some h2->(match resA P s'.tm h2 fn.results.toList with | some v=>some (v,h2) | none=>none)=some (v,h')->LeavesInM (FW none) 0 P fn a'.tmps R a'.defers .returning w':=λ {h2} htk hres=>by
      split at hres
      . rename_i v2 hv2
        simp only [sI,Prod.mk.injEq] at hres
        obtain ⟨rfl,rfl⟩:=hres
        have tk:=takeAll_ok (M:=M') (fn:=fn) (tmps:=a'.tmps) (R:=R) (r:=none) (P:=P) htk st.df st.h
        exact tk.2 (λ w2 t1 t2 t3=>by
         obtain ⟨u,e1,e2⟩:=resA_ok (a:=a') hv2 st.tm t1
         exact ⟨u,e1,k v2 h2 M' u w2 hK e2 t1 (λ id hi=>fr' id (by rw [tk.1];exact hi)) (f'.trans t2.frO) k'.2⟩)
      . cases hres
     unfold finA at hfin
     split at hfin
     . cases hfin
     . rename_i hne
       split at hfin
       . rename_i h2 htk
         have:=main htk hfin
         cases x with
         | nm=>exact this
         | rt=>exact this
         | ex id=>exact absurd rfl (hne id)
       . cases hfin
theorem finA_ab {fn:Func}{x:AX}{s:St}{v:AV}{h':AH}(e:finA P fn x s=some (v,h')):Ab s.h h':=by
 unfold finA at e
 split at e
 . cases e
 . split at e
   . rename_i h2 htk
     split at e
     . simp only [sI,Prod.mk.injEq] at e
       obtain ⟨_,rfl⟩:=e
       exact takeAll_ab htk
     . cases e
   . cases e
theorem range_tri {g:Operand}{ps:Array Tmp}{asg bo:Code}{s:St}{gf:FuncId}{args:List AV}{l:Nat}{df:List Nat}{h1:AH}(hin:rangeIn g ps asg bo s=some (gf,args,l,df,h1)){K:AX->St->Prop}
 (hF:TriF P gf args h1 λ _ h2=>(h1.nx<=h2.nx/\h2.bs=h1.bs/\(∀ x,x ∈ h1.wl->x ∈ h2.wl)/\∀ x,x < h1.bs->x < h1.nx->x ∉ h2.wl->h2.get x=h1.get x)/\∃ x' s'',rangeOut s df l h2=some (x',s'')/\K x' s'') :
 TriC P (.rangeFunc g ps asg bo) s λ x s'=>K x s'/\Frm (.rangeFunc g ps asg bo) s s':=by
 unfold rangeIn at hin
 split at hin
 case h_2=>cases hin
 rename_i gf' caps hgf
 split at hin
 case h_2=>cases hin
 rename_i hrd
 split at hin
 case h_2=>cases hin
 rename_i hd0 hn0
 split at hin
 case h_2=>cases hin
 rename_i h1' hn1
 simp only [sI,Prod.mk.injEq] at hin
 obtain ⟨rfl,rfl,rfl,rfl,rfl⟩:=hin
 intro M a w r Q sr rr fr q
 have hnx0:=(AH.new_nx hn0).1
 have hnx1:=(AH.new_nx hn1).1
 have ab0:=(new_ab hn0).trans (new_ab hn1)
 rw [hrd] at rr
 simp only [RdR] at rr;subst rr
 refine wpIn_rangeFunc (λ fn _=>?_)
 obtain ⟨p1,p2,p3⟩:=new_ok (ob:=.deferred (some [])) (κ:=0) sr.h hn0 (fr s.h.nx (Nat.le_refl _)) (by simp [ObR])
 have hD:updM M s.h.nx (w.heap.size,0) s.h.nx=some (w.heap.size,0):=by simp [updM]
 have erun:(Instr.enterLoop fn a.tmps ps asg bo none).run P w=.ok ((w.alloc (.deferred (some []))).heap.size,[{ target:=.collected w.heap.size,args:=#[] }]) ((w.alloc (.deferred (some []))).alloc (.loop { state:=.ready,pending:=none,fn,tmps:=a.tmps,params:=ps,assign:=asg,body:=bo,defers:=w.heap.size })):=by
  rw [run_enterLoop_outer,World.size_alloc]
 have frs:FreshA (updM M s.h.nx (w.heap.size,0)) hd0.nx:=λ id hid=>by
  simp only [updM]
  have:id ≠ s.h.nx:=by omega
  simp only [this,if_false]
  exact fr id (by omega)
 obtain ⟨q1,q2,q3⟩:=new_ok (κ:=0) (ob:=.loop { state:=.ready,pending:=none,fn,tmps:=a.tmps,params:=ps,assign:=asg,body:=bo,defers:=w.heap.size }) p1 hn1 (frs hd0.nx (Nat.le_refl _)) ⟨fn,a.tmps,w.heap.size,0,hD,sr.tm.mono p2.ext,sr.sz,rfl⟩
 have hev:=ev_ok sr.tm g
 rw [hgf] at hev
 simp only [AV.R] at hev
 obtain ⟨cvs,rcv,hev⟩:=hev
 have f12:=p2.trans (by omega) (by omega) q2
 have hL:updM (updM M s.h.nx (w.heap.size,0)) hd0.nx ((w.alloc (.deferred (some []))).heap.size,0) hd0.nx=some ((w.alloc (.deferred (some []))).heap.size,0):=by simp [updM]
 have ra:AV.RL (updM (updM M s.h.nx (w.heap.size,0)) hd0.nx ((w.alloc (.deferred (some []))).heap.size,0)) (.yl hd0.nx :: caps) (.func (.yield (w.alloc (.deferred (some []))).heap.size) #[] #[] :: cvs):=by
  simp only [AV.RL]
  exact ⟨_,_,by simp only [AV.R];exact ⟨_,0,hL,rfl⟩,AV.RL.mono f12.ext _ _ rcv,rfl⟩
 have frs2:FreshA (updM (updM M s.h.nx (w.heap.size,0)) hd0.nx ((w.alloc (.deferred (some []))).heap.size,0)) h1'.nx:=λ id hid=>by
  have h1:id ≠ hd0.nx:=by omega
  have:(updM (updM M s.h.nx (w.heap.size,0)) hd0.nx ((w.alloc (.deferred (some []))).heap.size,0)) id=(updM M s.h.nx (w.heap.size,0)) id:=by simp only [updM,h1,if_false]
  rw [this];exact frs id (by omega)
 obtain ⟨cf,cc⟩:=hF _ (.func (.yield (w.alloc (.deferred (some []))).heap.size) #[] #[] :: cvs) _ none (rangePost (FW none) 0 P (w.alloc (.deferred (some []))).heap.size Q { a with defers:=[{ target:=.collected w.heap.size,args:=#[] }] ++ a.defers }) ra q1 frs2 (λ v h2 M' u w' hK rv rh2 fr2 f2 k2=>by
  obtain ⟨⟨x1,x2,x3,x4⟩,x',s'',hout,hk⟩:=hK
  have hM2:M' hd0.nx=some ((w.alloc (.deferred (some []))).heap.size,0):=by rw [k2 _ (by omega)];exact hL
  unfold rangeOut at hout
  split at hout
  case h_2=>cases hout
  rename_i st pe tm2 sz2 ps2 asg2 bo2 D2 hg2
  have hfin:∃ h3,st ≠ .busy/\h2.put hd0.nx (some (.loop .exhausted pe tm2 sz2 ps2 asg2 bo2 D2))=some h3/\outR { s with df:=s.h.nx :: s.df,h:=h3 } pe=some (x',s''):=by
   split at hout
   . rename_i h3 hp
     cases hnb:busyB st with
     | true=>rw [hnb] at hout;cases hout
     | false=>rw [hnb] at hout;exact ⟨h3,(λ e=>by rw [e] at hnb;cases hnb),hp,hout⟩
   . cases hout
  obtain ⟨h3,hst,hp3,hout⟩:=hfin
  obtain ⟨ob,hb,fn2,tmps2,bD2,cD2,hD2,rt2,hsz2,rfl⟩:=Ob_of rh2 hg2 hM2
  obtain ⟨y1,y2,y3⟩:=put_ok (w':=w'.putObj (w.alloc (.deferred (some []))).heap.size (.loop { state:=.exhausted,pending:=pe,fn:=fn2,tmps:=tmps2,params:=ps2,assign:=asg2,body:=bo2,defers:=bD2 })) rh2 hg2 hp3 hM2 (upd_setObj (heap_lt hb)) ⟨fn2,tmps2,bD2,cD2,hD2,rt2,hsz2,rfl⟩
  have hle:Le M M':=⟨λ id p e=>by
   have:=f12.ext _ _ e
   rw [k2 id (Classical.byContradiction λ hc=>by rw [frs2 id (by omega)] at this;cases this)];exact this,λ b cs e=>f2.zm b cs (f12.ext.z b cs e)⟩
  have hleD:M' s.h.nx=some (w.heap.size,0):=by rw [k2 _ (by omega)];exact q2.ext _ _ hD
  have hnx3:=(AH.put_nx hp3).1
  have abp:=put_ab hg2 hp3
  have frm:∀ x s2,s2={ s with df:=s.h.nx :: s.df,h:=h3 }->K x s2->K x s2/\Frm (.rangeFunc g ps asg bo) s s2:=λ x s2 e hk=>by
   subst e
   refine ⟨hk,λ _ _ _=>rfl,by show s.h.nx<=h3.nx;omega,?_,λ y hy=>?_,λ y y1 y2 y3=>?_,rfl,rfl⟩
   . show h3.bs=s.h.bs
     rw [abp.bs,x2,ab0.bs]
   . exact abp.wl y (x3 y (ab0.wl y hy))
   . show h3.get y=s.h.get y
     have n2:y ∉ h2.wl:=λ e=>y3 (abp.wl y e)
     have n1:y ∉ h1'.wl:=λ e=>n2 (x3 y e)
     rw [abp.log y (by rw [x2,ab0.bs];exact y1) (by omega) y3,x4 y (by rw [ab0.bs];exact y1) (by omega) n2,ab0.log y y1 y2 n1]
  have hfr:FreshA M' h3.nx:=λ id hid=>fr2 id (by omega)
  have hfo:FrO (OwnP M s.h) w (OwnP M' h3) (w'.putObj (w.alloc (.deferred (some []))).heap.size (.loop { state:=.exhausted,pending:=pe,fn:=fn2,tmps:=tmps2,params:=ps2,assign:=asg2,body:=bo2,defers:=bD2 })):=(f12.frO.trans f2).trans y2.frO
  have hids:s.h.nx<=h3.nx/\∀ id,id < s.h.nx->M' id=M id:=⟨by omega,λ id hid=>by
   rw [k2 id (by omega)]
   have e1:id ≠ hd0.nx:=by omega
   have e2:id ≠ s.h.nx:=by omega
   simp only [updM,e1,e2,if_false]⟩
  have hstr:StR M' { s with df:=s.h.nx :: s.df,h:=h3 } { a with defers:=[{ target:=.collected w.heap.size,args:=#[] }] ++ a.defers } (w'.putObj (w.alloc (.deferred (some []))).heap.size (.loop { state:=.exhausted,pending:=pe,fn:=fn2,tmps:=tmps2,params:=ps2,assign:=asg2,body:=bo2,defers:=bD2 })):=
   ⟨sr.tm.mono hle,sr.sz,⟨w.heap.size,0,_,hleD,sr.df.mono hle,rfl⟩,y1⟩
  have fin:∀ x,K x { s with df:=s.h.nx :: s.df,h:=h3 }->Q (exitOf x) { a with defers:=[{ target:=.collected w.heap.size,args:=#[] }] ++ a.defers } (w'.putObj (w.alloc (.deferred (some []))).heap.size (.loop { state:=.exhausted,pending:=pe,fn:=fn2,tmps:=tmps2,params:=ps2,assign:=asg2,body:=bo2,defers:=bD2 })):=λ x hk=>
   q x _ M' _ _ (frm x _ rfl hk) hstr (by rw [show ({ s with df:=s.h.nx :: s.df,h:=h3 }:St).rd=s.rd from rfl,hrd];rfl) hfr hfo hids
  refine afterR_post (run_endLoop hb hst) ?_
  unfold outR at hout
  split at hout
  . simp only [sI,Prod.mk.injEq] at hout
    obtain ⟨rfl,rfl⟩:=hout
    exact fin .nm hk
  . simp only [sI,Prod.mk.injEq] at hout
    obtain ⟨rfl,rfl⟩:=hout
    exact wpIn_ret (fin .rt hk)
  . simp only [sI,Prod.mk.injEq] at hout
    obtain ⟨rfl,rfl⟩:=hout
    exact wpIn_exit (fin (.ex _) hk)
  . cases hout)
 refine ⟨(w.alloc (.deferred (some []))).heap.size,[{ target:=.collected w.heap.size,args:=#[] }],(w.alloc (.deferred (some []))).alloc (.loop { state:=.ready,pending:=none,fn,tmps:=a.tmps,params:=ps,assign:=asg,body:=bo,defers:=w.heap.size }),{ target:=.fn (.func gf') cvs.toArray,args:=#[.func (.yield (w.alloc (.deferred (some []))).heap.size) #[] #[]] },(w.alloc (.deferred (some []))).alloc (.loop { state:=.ready,pending:=none,fn,tmps:=a.tmps,params:=ps,assign:=asg,body:=bo,defers:=w.heap.size }),gf',(.func (.yield (w.alloc (.deferred (some []))).heap.size) #[] #[] :: cvs).toArray,(w.alloc (.deferred (some []))).alloc (.loop { state:=.ready,pending:=none,fn,tmps:=a.tmps,params:=ps,assign:=asg,body:=bo,defers:=w.heap.size }),erun,?_,λ _ _=>trivial,?_,λ e=>by simp [FW] at e,cc⟩
 . have hcn:∀ v,a.eval (.const v)=v:=λ _=>rfl
   simp [resolve,hev,hcn,Deferred.ofValue]
 . have e:(#[Value.func (.yield (w.alloc (.deferred (some []))).heap.size) #[] #[]] ++ cvs.toArray)=(.func (.yield (w.alloc (.deferred (some []))).heap.size) #[] #[] :: cvs).toArray:=by apply Array.ext';simp
   simp only [invoke,e]
   exact cf
theorem wx_ok (hm:P.follows .mixedOrders=true)(hs:SmOK P sm){ann:Nat->Option (St->LoopA)}:∀ (n:Nat) (c:Code) (b:Nat) (s:St) (K:AX->St->Prop),wx P sm ann n c b s K->TriC P c s λ x s'=>K x s'/\Frm c s s'
 | 0,c,b,s,K,h=>h.elim
 | n + 1,c,b,s,K,h=>by
   unfold wx at h
   split at h
   . rename_i x y
     refine tri_seq ((wx_ok hm hs n x b s _ h).mono λ e s' ⟨hk,hf⟩=>?_)
     cases e with
     | nm=>exact (wx_ok hm hs n y _ s' _ hk).mono λ e s2 ⟨hk2,hf2⟩=>⟨hk2,hf.trans hf2 (λ t ht=>by simpa [wrC] using ht)⟩
     | ex id=>exact ⟨hk,hf.code λ t ht=>by simp [wrC] at ht;exact ht.1⟩
     | rt=>exact ⟨hk,hf.code λ t ht=>by simp [wrC] at ht;exact ht.1⟩
   . rename_i id x
     refine tri_block ((wx_ok hm hs n x b s _ h).mono λ e s' ⟨hk,hf⟩=>?_)
     have hf':Frm (.block id x) s s':=hf.code λ t ht=>ht
     cases e with
     | nm=>exact ⟨hk,hf'⟩
     | rt=>exact ⟨hk,hf'⟩
     | ex j=>
       simp only [Bool.cond_eq_ite] at hk ⊢
       split at hk
       . rename_i hj;rw [if_pos hj];exact ⟨hk,hf'⟩
       . rename_i hj;rw [if_neg hj];exact ⟨hk,hf'⟩
   . rename_i x
     exact tri_scope ((wx_ok hm hs n x b s K h).mono λ e s' ⟨hk,hf⟩=>⟨hk,hf.code λ t ht=>ht⟩)
   . rename_i t x y
     have hx:∀ e s',(K e s'/\Frm x s s')->K e s'/\Frm (.cond t x y) s s':=λ e s' ⟨hk,hf⟩=>⟨hk,hf.code λ t ht=>by simp [wrC] at ht;exact ht.1⟩
     have hy:∀ e s',(K e s'/\Frm y s s')->K e s'/\Frm (.cond t x y) s s':=λ e s' ⟨hk,hf⟩=>⟨hk,hf.code λ t ht=>by simp [wrC] at ht;exact ht.2⟩
     split at h
     . rename_i q hq
       refine tri_cond (.inl hq) (λ e=>?_) (λ e=>?_)
       . subst e;exact (wx_ok hm hs n x b s K h).mono hx
       . subst e;exact (wx_ok hm hs n y _ s K h).mono hy
     . rename_i q hq
       exact tri_cond (.inr hq) (λ e=>(wx_ok hm hs n x b s K (h.1 e)).mono hx) (λ e=>(wx_ok hm hs n y _ s K (h.2 e)).mono hy)
     . exact h.elim
   . rename_i x
     split at h
     . intro M a w r Q st rd fr q
       exact wpIn_loop_rounds n (loopW_ok (λ s K h=>wx_ok hm hs n x (b + 1) s K h) n s ⟨λ _ _ _=>rfl,Nat.le_refl _,rfl,λ _ e=>e,λ _ _ _ _=>rfl,rfl,rfl⟩ h M a w r Q st rd fr q)
     . rename_i A0 hA
       obtain ⟨ok,⟨i0,hp0,hl0,hm0⟩,hbody⟩:=h
       clear hA
       generalize hA:A0 s=A at i0 ok hp0 hl0 hm0 hbody
       intro M a w r Q st rd fr q
       obtain ⟨g0,M1,z1,z2,z3,z4,z5⟩:=found_head ok hm0 (λ _ _ _=>rfl) (λ _ _ _ _=>rfl) rfl rfl rfl st rd fr M a w st fr
       -- a round ends where another one begins,or leaves
       have main:=tri_loop (P:=P) (c:=x) (K:=λ e s'=>K e (backS s (wrC x) A s')/\Frm (.loop x) s (backS s (wrC x) A s')) s.h.nx (λ m s1=>∃ g i,A.pre i/\A.ms i=m/\s1=headS s (wrC x) A g i) (λ m s1 ⟨g,i,hp,hms,he⟩=>by subst he;exact Nat.le_add_right _ _) (λ m s1 ⟨g,i,hp,hms,he⟩=>by
        subst he
        refine (wx_ok hm hs n x (b + 1) _ _ (hbody g i hp)).mono λ e s' ⟨hk,hf⟩=>?_
        have htm:∀ t,t ∉ wrC x->t ∉ A.tms->frzM t ∉ s'.h.wl->s'.tm.get (t + 1)=s.tm.get (t + 1):=λ t ht htt hlg=>by
         rw [hf.tm t ht hlg]
         rcases head_tm (g:=g) (i:=i) ok t with ⟨v,hv,_⟩ | ⟨hW,_⟩ | ⟨_,_,e⟩
         . exact absurd (zip_mem (v:=v) hv) htt
         . exact absurd hW ht
         . exact e
        have hget:∀ id,id < s.h.nx->id ∉ A.ids->id ∉ A.del->id ∉ s'.h.wl->s'.h.get id=s.h.get id:=λ id h1 h2 h3 h4=>by
         rw [hf.log id h1 (show id < s.h.nx + A.ex by omega) h4]
         rcases head_get (g:=g) (i:=i) ok id with ⟨c,hc,_⟩ | ⟨_,hd,_⟩ | ⟨_,_,e⟩
         . exact absurd (zip_mem (v:=c) hc) h2
         . exact absurd hd h3
         . exact e
        have leave:∀ e:AX,K e (backS s (wrC x) A s')->K e (backS s (wrC x) A s')/\Frm (.loop x) s (backS s (wrC x) A s'):=λ e hk=>by
         refine ⟨hk,λ t ht hlg=>?_,?_,rfl,λ y hy=>List.mem_append_right _ hy,λ y h1 h2 h3=>?_,hf.sz,hf.rd⟩
         . have hlg:frzM t ∉ filtLt s.h.bs (A.ids ++ A.del ++ s'.h.wl) ++ (logT (wrC x) A.tms ++ filtGe s'.h.wl) ++ s.h.wl:=hlg
           simp only [List.mem_append,not_or] at hlg
           exact htm t ht (λ q=>hlg.1.2.1 (logT_mem q ht)) (λ q=>hlg.1.2.2 (filtGe_mem q (Nat.le_add_right _ _)))
         . have:=hf.nx
           have:s.h.nx + A.ex<=s'.h.nx:=this
           show s.h.nx<=s'.h.nx
           omega
         . have h3:y ∉ filtLt s.h.bs (A.ids ++ A.del ++ s'.h.wl) ++ (logT (wrC x) A.tms ++ filtGe s'.h.wl) ++ s.h.wl:=h3
           have hn:y ∉ A.ids ++ A.del ++ s'.h.wl:=λ hy=>h3 (List.mem_append_left _ (List.mem_append_left _ (filtLt_mem hy h1)))
           simp only [List.mem_append,not_or] at hn
           exact hget y h2 hn.1.1 hn.1.2 hn.2
        cases e with
        | nm=>
          obtain ⟨hend,i',hp',hlt,hl',hm'⟩:=hk
          simp only [endOk,Bool.and_eq_true,List.all_eq_true,Bool.or_eq_true,memN_iff,nble,decide_eq_true_eq] at hend
          refine ⟨A.ms i',by rw [<- hms];exact hlt,λ M' a' w' st' fr'=>?_⟩
          simp only [lenOk,Bool.and_eq_true] at hl'
          have hl2:(A.tmU i').length=A.tms.length:=beqN hl'.2
          have hl':(A.hpU i').length=A.ids.length:=beqN hl'.1
          obtain ⟨g',M2,y1,y2,y3,y4,y5⟩:=found_head ok hm' (λ t ht hT=>by
           have hnt:t ∉ A.tms:=λ hi=>by
            obtain ⟨v,hv⟩:=zip_full hl2 t hi
            exact hT v hv
           refine htm t ht hnt (λ hw=>?_)
           have h32:4294967296<=frzM t:=Nat.le_add_right _ _
           have ok2:=ok
           simp only [okA,Bool.and_eq_true] at ok2
           rcases hend.1.1 _ hw with (q | q) | q
           . have:=allLt_ok ok2.1.1.1.1.1.2 _ q;omega
           . have:=allLt_ok ok2.1.1.1.1.2 _ q;omega
           . have e:Nat.sub (frzM t) 4294967296=t:=Nat.add_sub_cancel_left _ _
             rw [e] at q;exact hnt q.2) (λ id h1 h2 h3=>by
           have hni:id ∉ A.ids:=λ hi=>by
            obtain ⟨v,hv⟩:=zip_full hl' id hi
            exact h2 v hv
           exact hget id h1 hni h3 (λ hw=>by
            rcases hend.1.1 id hw with (q | q) | q
            . exact hni q
            . exact h3 q
            . have h9:=q.1
              have h10:=hend.2
              omega)) hf.sz (eqNs_ok hend.1.2) hf.rd st rd fr M' a' w' st' fr'
          exact ⟨_,M2,⟨g',i',hp',rfl,rfl⟩,y1,y2,y3,y4,y5⟩
        | ex id=>exact leave _ hk
        | rt=>exact leave _ hk) (A.ms i0) (headS s (wrC x) A g0 i0) ⟨g0,i0,hp0,rfl,rfl⟩
       refine main M1 a w r Q z1 (z3 r rd) z2 λ e s' M' a' w' hk st' rd' fr' f' k'=>?_
       exact q e (backS s (wrC x) A s') M' a' w' hk ⟨st'.tm,st'.sz,st'.df,⟨st'.h.obj,st'.h.inj,st'.h.wf,st'.h.gw,st'.h.gf,st'.h.fz,st'.h.fo⟩⟩ rd' fr' (f'.more z4) ⟨k'.1,λ id hid=>(k'.2 id hid).trans (z5 id hid)⟩
   . rename_i g ps asg bo
     split at h
     . exact leaf_ok hm hs h
     . split at h
       case h_2=>exact h.elim
       rename_i gf args l df h1 hin
       split at h
       case h_2=>exact h.elim
       rename_i fn hf
       cases hok:okFn fn with
       | false=>rw [hok] at h;exact h.elim
       | true=>
         rw [hok,cond_true] at h
         split at h
         case h_2=>exact h.elim
         rename_i cb hb
         split at h
         case h_2=>exact h.elim
         rename_i tm htm
         refine range_tri hin (body_call hf hok hb htm (wx_ok hm hs n cb _ _ _ h) λ x s' ⟨hk,hf'⟩=>?_)
         split at hk
         case h_2=>exact hk.elim
         rename_i v h2 hfin
         have ab:=finA_ab hfin
         split at hk
         case h_2=>exact hk.elim
         rename_i x' s'' hout
         refine ⟨v,h2,hfin,⟨Nat.le_trans hf'.nx ab.nx,ab.bs.trans hf'.bs,λ y hy=>ab.wl y (hf'.wl y hy),λ y y1 y2 y3=>?_⟩,x',s'',hout,hk⟩
         rw [ab.log y (by rw [hf'.bs];exact y1) (Nat.lt_of_lt_of_le y2 hf'.nx) y3,hf'.log y y1 y2 (λ e=>y3 (ab.wl y e))]
   . exact leaf_ok hm hs h
end
def wxF (P:Program)(sm:FuncId->Option Sm)(ann:Nat->Option (St->LoopA))(n:Nat)(f:FuncId)(args:List AV)(h:AH)(K:AV->AH->Prop):Prop:=
 match P.funcs[f]? with
 | some fn=>bif okFn fn then match fn.body with
   | some c=>match initT .lf 0 args with
     | some tm=>wx P sm ann n c 0 ⟨tm,max fn.ntmps args.length,[],none,h⟩ (λ x s=>match finA P fn x s with | some (v,h')=>K v h' | none=>False)
     | none=>False
   | none=>False
   else False
 | none=>False
section
variable {P : Program} {sm : FuncId -> Option Sm}
theorem wxF_ok (hm:P.follows .mixedOrders=true)(hs:SmOK P sm){ann:Nat->Option (St->LoopA)}{n:Nat}{f:FuncId}{args:List AV}{h:AH}{K:AV->AH->Prop}(hw:wxF P sm ann n f args h K):TriF P f args h K:=by
 unfold wxF at hw
 split at hw
 case h_2=>exact hw.elim
 rename_i fn hf
 cases hok:okFn fn with
 | false=>rw [hok] at hw;exact hw.elim
 | true=>
   rw [hok,cond_true] at hw
   split at hw
   case h_2=>exact hw.elim
   rename_i c hb
   split at hw
   case h_2=>exact hw.elim
   rename_i tm htm
   intro M us w r R ra rr fr k
   refine ⟨?_,?_⟩
   · have hnn : ¬ (fn.name = "runtime.NumGoroutine") := by simpa [okFn] using hok
     simp [callFunc,hf,hnn,hb]
   . show CallsIn (FW none) 0 P f us.toArray w R
     refine callsIn_of_wp_marks hf hb trivial ?_
     have hl:=RL_length ra
     refine wx_ok hm hs n c 0 _ _ hw M _ w none _ ⟨?_,?_,rfl,rr⟩ rfl fr ?_
     . simp only
       exact initT_TR htm ra
     . simp only [Array.size_append,List.size_toArray,Array.size_replicate,hl];omega
     . intro x s' M' a' w' ⟨hk,_⟩ st _ fr' f' k'
       split at hk
       case h_2=>exact hk.elim
       rename_i v h' hfin
       have main:∀ {h2:AH},takeAll s'.h s'.df=some h2->(match resA P s'.tm h2 fn.results.toList with | some v=>some (v,h2) | none=>none)=some (v,h')->LeavesInM (FW none) 0 P fn a'.tmps R a'.defers .returning w':=λ {h2} htk hres=>by
        split at hres
        . rename_i v2 hv2
          simp only [sI,Prod.mk.injEq] at hres
          obtain ⟨rfl,rfl⟩:=hres
          have tk:=takeAll_ok (M:=M') (fn:=fn) (tmps:=a'.tmps) (R:=R) (r:=none) (P:=P) htk st.df st.h
          exact tk.2 (λ w2 t1 t2 t3=>by
           obtain ⟨u,e1,e2⟩:=resA_ok (a:=a') hv2 st.tm t1
           exact ⟨u,e1,k v2 h2 M' u w2 hk e2 t1 (λ id hi=>fr' id (by rw [tk.1];exact hi)) (f'.trans t2.frO) k'.2⟩)
        . cases hres
       unfold finA at hfin
       split at hfin
       . cases hfin
       . rename_i hne
         split at hfin
         . rename_i h2 htk
           have:=main htk hfin
           cases x with
           | nm=>exact this
           | rt=>exact this
           | ex id=>exact absurd rfl (hne id)
         . cases hfin
end
def scalB:AV->Bool
 | .i _ _ | .y _ _ | .b _ | .yb _ | .s _ | .ys _=>true
 | _=>false
theorem scalB_R {a:AV}(h:scalB a=true){M M':Mp}{u:Value}(r:a.R M u):a.R M' u/\u.oneCell'=true:=by
 cases a <;> simp only [scalB,Bool.false_eq_true] at h <;> (simp only [AV.R] at r ⊢;subst r;exact ⟨rfl,rfl⟩)
inductive K1 where
 | int (k:IntKind)
 | bool
 | str
inductive CK where
 | int (k:IntKind)
 | bool
 | str
 | ls (ks:List K1)
inductive Cl2 where
 | int (k:IntKind) (x:Nat->Nat->Int)
 | bool (x:Nat->Nat->Bool)
 | str (x:Nat->Nat->List UInt8)
inductive Col where
 | int (k:IntKind) (x:Nat->Int)
 | bool (x:Nat->Bool)
 | str (x:Nat->List UInt8)
 | ls (nil:Nat->Bool) (n:Nat->Nat) (l:List Cl2)
def Cl2.at (c:Cl2)(i p:Nat):AV:=
 match c with
 | .int k x=>.y k (x i p)
 | .bool x=>.yb (x i p)
 | .str x=>.ys (x i p)
def cl2F:List Cl2->Nat->Nat->Nat->AV
 | [],_,_,_=>.np
 | c :: l,i,p,j=>match j with | 0=>c.at i p | Nat.succ j=>cl2F l i p j
def Col.at (c:Col)(i:Nat):AV:=
 match c with
 | .int k x=>.y k (x i)
 | .bool x=>.yb (x i)
 | .str x=>.ys (x i)
 | .ls nil n l=>.lst false (nil i) l.length (n i) (cl2F l i)
def colF:List Col->Nat->Nat->AV
 | [],_,_=>.np
 | c :: l,i,j=>match j with | 0=>c.at i | Nat.succ j=>colF l i j
inductive Dc where
 | v (a:AV)
 | rows (nil:Bool) (n:Nat) (cols:List Col)
abbrev Cs:=Option (TypeId × List CK)
inductive Ag where
 | cell (c:Cs)
 | agg (l:List Cs)
inductive Da where
 | cell (d:Dc)
 | agg (l:List Dc)
def canC (c:Cs)(d:Dc)(bl:List AO):AV × List AO:=
 match c,d with
 | none,.v a=>(a,bl)
 | some (e,ks),.rows nil n cols=>(.ysl true nil bl.length ks.length 0 n,bl ++ [.arr true e ks.length n (colF cols)])
 | _,_=>(.np,bl)
def canL:List Cs->List Dc->List AO->List AV × List AO
 | c :: cs,d :: ds,bl=>match canC c d bl with | (a,bl1)=>match canL cs ds bl1 with | (l,bl2)=>(a :: l,bl2)
 | _,_,bl=>([],bl)
def canG (g:Ag)(d:Da)(bl:List AO):AV × List AO:=
 match g,d with
 | .cell c,.cell d=>canC c d bl
 | .agg cs,.agg ds=>match canL cs ds bl with | (l,bl1)=>(.agg l,bl1)
 | _,_=>(.np,bl)
def canA:List Ag->List Da->List AO->List AV × List AO
 | g :: gs,d :: ds,bl=>match canG g d bl with | (a,bl1)=>match canA gs ds bl1 with | (l,bl2)=>(a :: l,bl2)
 | _,_,bl=>([],bl)
def numL {α:Type}:Nat->List α->List (Nat × Option α)
 | _,[]=>[]
 | k,a :: l=>(k,some a) :: numL (Nat.succ k) l
def heapOf (bl:List AO):AH:=⟨setQs .lf (numL 0 bl),bl.length,0,[]⟩
theorem Le_noM (M:Mp):Le noM M:=⟨λ _ _ e=>(by cases e),λ _ _ e=>(by cases e)⟩
def BlkR (w:World)(ao:AO)(base:Option (Nat × Nat)):Prop:=∃ e z n f,ao=.arr true e z n f/\((n=0/\base=none) ∨ ∃ b off cs e' fr,base=some (b,off)/\w.heap[b]?=some (.cells cs e' fr)/\∀ i,i < n->∀ j,j < z->∃ v,cs[off + i * z + j]?=some v/\v.oneCell'=true/\(f i j).R noM v)
def BlR (w:World):List AO->List (Option (Nat × Nat))->Prop
 | [],bs=>bs=[]
 | a :: l,bs=>∃ b bs',bs=b :: bs'/\BlkR w a b/\BlR w l bs'
def Mof (bs:List (Option (Nat × Nat))):Mp:=⟨λ id=>match bs[id]? with | some (some p)=>some p | _=>none,λ _=>none⟩
theorem BlR.len {w:World}:∀ {l:List AO} {bs:List (Option (Nat × Nat))},BlR w l bs->bs.length=l.length
 | [],bs,h=>by simp only [BlR] at h;subst h;rfl
 | a :: l,bs,h=>by obtain ⟨b,bs',rfl,_,h2⟩:=h;simp [h2.len]
theorem BlR.app {w:World}:∀ {l k:List AO} {bs cs:List (Option (Nat × Nat))},BlR w l bs->BlR w k cs->BlR w (l ++ k) (bs ++ cs)
 | [],k,bs,cs,h,h2=>by simp only [BlR] at h;subst h;exact h2
 | a :: l,k,bs,cs,h,h2=>by obtain ⟨b,bs',rfl,h3,h4⟩:=h;exact ⟨b,bs' ++ cs,rfl,h3,h4.app h2⟩
theorem BlR.get {w:World}:∀ {l:List AO} {bs:List (Option (Nat × Nat))} {id:Nat} {a:AO},BlR w l bs->l[id]?=some a->∃ b,bs[id]?=some b/\BlkR w a b
 | [],bs,id,a,_,e=>by simp at e
 | x :: l,bs,0,a,h,e=>by obtain ⟨b,bs',rfl,h3,_⟩:=h;simp at e;subst e;exact ⟨b,rfl,h3⟩
 | x :: l,bs,id + 1,a,h,e=>by obtain ⟨b,bs',rfl,_,h4⟩:=h;simpa using h4.get (by simpa using e)
theorem Mof_le (bs cs:List (Option (Nat × Nat))):Le (Mof bs) (Mof (bs ++ cs)):=⟨λ id p e=>by
 unfold Mof at e ⊢
 simp only at e ⊢
 cases h:bs[id]? with
 | none=>rw [h] at e;cases e
 | some o=>
   have hlt:=(List.getElem?_eq_some_iff.1 h).1
   rw [List.getElem?_append_left hlt,h]
   rw [h] at e;exact e,λ b cs e=>by cases e⟩
theorem numL_get {α:Type}:∀ {l:List α} {k:Nat} (q:Nat),k + l.length < 4294967296->∀ t:Tr α,(setQs t (numL k l)).get (q + 1)=if k<=q/\q < k + l.length then l[q - k]? else t.get (q + 1)
 | [],k,q,_,t=>by rw [if_neg (by simp only [List.length_nil];omega)];rfl
 | a :: l,k,q,h,t=>by
   simp only [List.length_cons] at h
   simp only [numL,setQs]
   rw [numL_get q (by omega),setQ_get (by omega)]
   by_cases e:q=k
   . subst e;rw [if_neg (by omega),if_pos rfl,if_pos (by simp)];simp
   . rw [if_neg e]
     by_cases h2:k<=q/\q < k + (a :: l).length
     . rw [if_pos h2,if_pos (by simp at h2;omega),show q - k=(q - Nat.succ k) + 1 by omega];simp
     . rw [if_neg h2,if_neg (by simp at h2;omega)]
theorem heapOf_get {bl:List AO}(h:bl.length < 4294967296)(id:Nat):(heapOf bl).get id=bl[id]?:=by
 have:=numL_get (l:=bl) (k:=0) id (by omega) .lf
 show (setQs .lf (numL 0 bl)).get (id + 1)=_
 rw [this]
 by_cases hlt:id < bl.length
 . rw [if_pos (by omega)];simp
 . rw [if_neg (by omega)];simp [Tr.get_lf];omega
theorem heapOf_rel {w:World}{bl:List AO}{bs:List (Option (Nat × Nat))}(h:BlR w bl bs)(hl:bl.length < 4294967296)(gw:GW w):Rel (Mof bs) (heapOf bl) w/\FreshA (Mof bs) (heapOf bl).nx:=by
 have key:∀ id o,(heapOf bl).get id=some o->∃ b,bs[id]?=some b/\BlkR w o b:=λ id o e=>by
  rw [heapOf_get hl] at e;exact h.get e
 refine ⟨⟨λ id o e=>?_,λ i j b κ κ' o hi hr _ _ _=>?_,λ x hx=>?_,gw,λ x b κ o hx hro hM=>?_,λ b cs e=>(by cases e),λ i b κ o _ _ _=>rfl⟩,λ id hid=>?_⟩
 . obtain ⟨b,h1,et,z,n,f,rfl,h2⟩:=key id o e
   rcases h2 with ⟨h0,h3⟩ | ⟨bk,off,cs,e',fr,h3,h4,h6⟩
   . exact .inl ⟨h0,by unfold Mof;simp only [h1,h3]⟩
   . refine .inr ⟨bk,off,_,by unfold Mof;simp only [h1,h3],h4,cs,e',fr,rfl,λ i hi j hj=>?_⟩
     obtain ⟨v,q1,q2,q3⟩:=h6 i hi j hj
     exact ⟨v,q1,q2,AV.R.mono (Le_noM _) _ _ q3⟩
 . obtain ⟨_,_,et,z,n,f,rfl,_⟩:=key i o hi
   cases hr
 . rw [heapOf_get hl] at hx
   have:x < bl.length:=by
    cases hh:bl[x]? with
    | none=>exact absurd hh hx
    | some _=>exact (List.getElem?_eq_some_iff.1 hh).1
   exact this
 . obtain ⟨_,_,et,z,n,f,rfl,_⟩:=key x o hx
   cases hro
 . have hid:bl.length<=id:=hid
   unfold Mof
   simp only
   rw [List.getElem?_eq_none (by rw [h.len];exact hid)]
def DcR (w:World)(c:Cs)(d:Dc)(u:Value):Prop:=
 match c,d with
 | none,.v a=>a.R noM u
 | some (_,ks),.rows nil n cols=>(nil=true/\n=0/\u=.slice none 0 0) ∨ (nil=false/\∃ p k,u=.slice (some p) n k/\n<=k ∧
    (n=0 ∨ ∃ b off,p=⟨b,off,none⟩/\(∃ cs e fr,w.heap[b]?=some (.cells cs e fr)/\∀ i,i < n->∀ j,j < ks.length->∃ v,cs[off + i * ks.length + j]?=some v/\v.oneCell'=true/\(colF cols i j).R noM v)))
 | _,_=>False
def DcRs (w:World):List Cs->List Dc->List Value->Prop
 | [],ds,us=>ds=[]/\us=[]
 | c :: cs,ds,us=>∃ d ds' u us',ds=d :: ds'/\us=u :: us'/\DcR w c d u/\DcRs w cs ds' us'
def DaR (w:World)(g:Ag)(d:Da)(u:Value):Prop:=
 match g,d with
 | .cell c,.cell d=>DcR w c d u
 | .agg cs,.agg ds=>∃ us,u=.agg us.toArray/\DcRs w cs ds us
 | _,_=>False
def DaRs (w:World):List Ag->List Da->List Value->Prop
 | [],ds,us=>ds=[]/\us=[]
 | g :: gs,ds,us=>∃ d ds' u us',ds=d :: ds'/\us=u :: us'/\DaR w g d u/\DaRs w gs ds' us'
theorem canC_ok {w:World}{c:Cs}{d:Dc}{u:Value}{bl:List AO}{bs:List (Option (Nat × Nat))}(h:DcR w c d u)(hb:BlR w bl bs):∃ cs,BlR w (canC c d bl).2 (bs ++ cs)/\(canC c d bl).1.R (Mof (bs ++ cs)) u:=by
 unfold DcR at h
 split at h
 . rename_i a
   exact ⟨[],by simpa [canC] using hb,AV.R.mono (Le_noM _) _ _ h⟩
 . rename_i e ks nil n cols
   have hat:∀ o,(Mof (bs ++ [o])) bl.length=o:=λ o=>by
    unfold Mof
    simp only
    rw [List.getElem?_append_right (by rw [hb.len];exact Nat.le_refl _),hb.len]
    cases o <;> simp
   rcases h with ⟨rfl,rfl,rfl⟩ | ⟨rfl,p,k,rfl,hnk,h⟩
   . refine ⟨[none],hb.app ⟨none,[],rfl,⟨e,ks.length,0,colF cols,rfl,.inl ⟨rfl,rfl⟩⟩,rfl⟩,?_⟩
     simp only [canC,AV.R]
     exact .inl ⟨trivial,trivial,trivial⟩
   . by_cases hn:n=0
     . subst hn
       refine ⟨[none],hb.app ⟨none,[],rfl,⟨e,ks.length,0,colF cols,rfl,.inl ⟨rfl,rfl⟩⟩,rfl⟩,?_⟩
       simp only [canC,AV.R]
       exact .inr (.inl ⟨trivial,trivial,_,_,rfl,λ e=>by simp at e⟩)
     . rcases h with h | ⟨b,off,rfl,cs,e',fr,h1,h2⟩
       . exact absurd h hn
       . refine ⟨[some (b,off)],hb.app ⟨_,[],rfl,⟨e,ks.length,n,colF cols,rfl,.inr ⟨b,off,cs,e',fr,rfl,h1,h2⟩⟩,rfl⟩,?_⟩
         simp only [canC,AV.R]
         exact .inr (.inr ⟨trivial,b,off,k,hat _,by simp,hnk,by omega,λ e=>by simp at e⟩)
 . exact h.elim
theorem canL_ok {w:World}:∀ {cs:List Cs} {ds:List Dc} {us:List Value} {bl:List AO} {bs:List (Option (Nat × Nat))},DcRs w cs ds us->BlR w bl bs->∃ ks,BlR w (canL cs ds bl).2 (bs ++ ks)/\AV.RL (Mof (bs ++ ks)) (canL cs ds bl).1 us
 | [],ds,us,bl,bs,h,hb=>by
   obtain ⟨rfl,rfl⟩:=h
   exact ⟨[],by simpa [canL] using hb,rfl⟩
 | c :: cs,ds,us,bl,bs,h,hb=>by
   obtain ⟨d,ds',u,us',rfl,rfl,h1,h2⟩:=h
   obtain ⟨k1,q1,q2⟩:=canC_ok h1 hb
   obtain ⟨k2,q3,q4⟩:=canL_ok h2 q1
   refine ⟨k1 ++ k2,?_,?_⟩
   . simp only [canL];rw [<- List.append_assoc];exact q3
   . simp only [canL,AV.RL]
     rw [<- List.append_assoc]
     exact ⟨u,us',AV.R.mono (Mof_le _ _) _ _ q2,q4,rfl⟩
theorem canG_ok {w:World}{g:Ag}{d:Da}{u:Value}{bl:List AO}{bs:List (Option (Nat × Nat))}(h:DaR w g d u)(hb:BlR w bl bs):∃ cs,BlR w (canG g d bl).2 (bs ++ cs)/\(canG g d bl).1.R (Mof (bs ++ cs)) u:=by
 unfold DaR at h
 split at h
 . exact canC_ok h hb
 . obtain ⟨us,rfl,h⟩:=h
   obtain ⟨k,q1,q2⟩:=canL_ok h hb
   exact ⟨k,q1,by simp only [canG,AV.R];exact ⟨us,q2,rfl⟩⟩
 . exact h.elim
theorem canA_ok {w:World}:∀ {gs:List Ag} {ds:List Da} {us:List Value} {bl:List AO} {bs:List (Option (Nat × Nat))},DaRs w gs ds us->BlR w bl bs->∃ ks,BlR w (canA gs ds bl).2 (bs ++ ks)/\AV.RL (Mof (bs ++ ks)) (canA gs ds bl).1 us
 | [],ds,us,bl,bs,h,hb=>by
   obtain ⟨rfl,rfl⟩:=h
   exact ⟨[],by simpa [canA] using hb,rfl⟩
 | g :: gs,ds,us,bl,bs,h,hb=>by
   obtain ⟨d,ds',u,us',rfl,rfl,h1,h2⟩:=h
   obtain ⟨k1,q1,q2⟩:=canG_ok h1 hb
   obtain ⟨k2,q3,q4⟩:=canA_ok h2 q1
   refine ⟨k1 ++ k2,?_,?_⟩
   . simp only [canA];rw [<- List.append_assoc];exact q3
   . simp only [canA,AV.RL]
     rw [<- List.append_assoc]
     exact ⟨u,us',AV.R.mono (Mof_le _ _) _ _ q2,q4,rfl⟩
def toY:AV->AV
 | .i k n=>.y k n
 | .b x=>.yb x
 | .s l=>.ys l
 | a=>a
def kOk1 (k:K1)(a:AV):Bool:=
 match k with
 | .int k=>match yI a with | some (k',_)=>eqK k k' | none=>false
 | .bool=>match yB a with | some _=>true | none=>false
 | .str=>match yS a with | some _=>true | none=>false
def row1 (f:Nat->AV):List K1->Nat->Bool
 | [],_=>true
 | k :: ks,j=>kOk1 k (f j) && row1 f ks (Nat.succ j)
def lsOf (z:Nat)(a:AV):Option (Bool × Nat × (Nat->Nat->AV)):=
 match a with
 | .lst _ nil z' n f=>bif Nat.beq z z' then some (nil,n,f) else none
 | .ns=>some (true,0,λ _ _=>.np)
 | .es=>some (false,0,λ _ _=>.np)
 | .ye nil=>some (nil,0,λ _ _=>.np)
 | _=>none
def flatK (k:CK):Bool:=match k with | .ls _=>false | _=>true
def flatKs:List CK->Bool
 | []=>true
 | k :: ks=>flatK k && flatKs ks
def ZLe (M M':Mp):Prop:=∀ b cs,M.z b=some cs->M'.z b=some cs
def kOk (k:CK)(a:AV):Bool:=
 match k with
 | .int k=>match yI a with | some (k',_)=>eqK k k' | none=>false
 | .bool=>match yB a with | some _=>true | none=>false
 | .str=>match yS a with | some _=>true | none=>false
 | .ls ks=>match lsOf ks.length a with
   | some (_,n,f)=>(List.range n).all λ p=>row1 (f p) ks 0
   | none=>false
def rowOk (f:Nat->AV):List CK->Nat->Bool
 | [],_=>true
 | k :: ks,j=>kOk k (f j) && rowOk f ks (Nat.succ j)
def yCol (k:CK)(n:Nat)(c:Nat->AV):Bool:=(List.range n).all λ i=>kOk k (c i)
theorem yCol_ok {k:CK}{n:Nat}{c:Nat->AV}:yCol k n c=true ↔ ∀ i,i < n->kOk k (c i)=true:=by
 simp [yCol,List.all_eq_true]
def mustCols {α:Type}(n:Nat)(f:Nat->Nat->AV):List CK->Nat->T α->T α
 | [],_,t=>t
 | k :: ks,j,t=>.must (yCol k n (λ i=>f i j)) (mustCols n f ks (Nat.succ j) t)
theorem mustCols_ok {α:Type}{n:Nat}{f:Nat->Nat->AV}{t:T α}{x:α}:∀ {ks:List CK} {j:Nat},(mustCols n f ks j t).sel=some x->(∀ i,i < n->rowOk (f i) ks j=true)/\t.sel=some x
 | [],j,h=>⟨λ _ _=>rfl,h⟩
 | k :: ks,j,h=>by
   obtain ⟨h1,h2⟩:=T.sel_must h
   obtain ⟨h3,h4⟩:=mustCols_ok h2
   exact ⟨λ i hi=>by simp only [rowOk,Bool.and_eq_true];exact ⟨yCol_ok.1 h1 i hi,h3 i hi⟩,h4⟩
def toI (a:AV):Int:=match yI a with | some (_,n)=>n | none=>0
def toB (a:AV):Bool:=match yB a with | some b=>b | none=>false
def toS (a:AV):List UInt8:=match yS a with | some l=>l | none=>[]
def cl2Of (f:Nat->Nat->Nat->AV):List K1->Nat->List Cl2
 | [],_=>[]
 | k :: ks,j=>(match k with | .int k=>.int k (λ i p=>toI (f i p j)) | .bool=>.bool (λ i p=>toB (f i p j)) | .str=>.str (λ i p=>toS (f i p j))) :: cl2Of f ks (Nat.succ j)
def lsNil (z:Nat)(a:AV):Bool:=match lsOf z a with | some (nil,_,_)=>nil | none=>false
def lsN (z:Nat)(a:AV):Nat:=match lsOf z a with | some (_,n,_)=>n | none=>0
def lsF (z:Nat)(a:AV):Nat->Nat->AV:=match lsOf z a with | some (_,_,f)=>f | none=>λ _ _=>.np
def colOf (f:Nat->Nat->AV)(k:CK)(j:Nat):Col:=
 match k with
 | .int k=>.int k (λ i=>toI (f i j))
 | .bool=>.bool (λ i=>toB (f i j))
 | .str=>.str (λ i=>toS (f i j))
 | .ls ks=>.ls (λ i=>lsNil ks.length (f i j)) (λ i=>lsN ks.length (f i j)) (cl2Of (λ i=>lsF ks.length (f i j)) ks 0)
def colsOf (f:Nat->Nat->AV):List CK->Nat->List Col
 | [],_=>[]
 | k :: ks,j=>colOf f k j :: colsOf f ks (Nat.succ j)
theorem cl2Of_len {f:Nat->Nat->Nat->AV}:∀ {ks:List K1} {j:Nat},(cl2Of f ks j).length=ks.length
 | [],_=>rfl
 | _ :: ks,j=>by simp [cl2Of,cl2Of_len]
theorem kOk1_R {k:K1}{f:Nat->Nat->Nat->AV}{i p j:Nat}{M M':Mp}{v:Value}(h:kOk1 k (f i p j)=true)(r:(f i p j).R M v):
 ((match k with | .int k=>Cl2.int k (λ i p=>toI (f i p j)) | .bool=>.bool (λ i p=>toB (f i p j)) | .str=>.str (λ i p=>toS (f i p j))).at i p).R M' v/\v.oneCell'=true:=by
 cases k with
 | int k=>
   simp only [kOk1] at h
   split at h
   . rename_i k' n hy
     obtain rfl:=eqK_eq h
     obtain rfl:=yI_ok hy r
     exact ⟨by simp only [Cl2.at,toI,hy,AV.R],rfl⟩
   . cases h
 | bool=>
   simp only [kOk1] at h
   split at h
   . rename_i b hy
     obtain rfl:=yB_ok hy r
     exact ⟨by simp only [Cl2.at,toB,hy,AV.R],rfl⟩
   . cases h
 | str=>
   simp only [kOk1] at h
   split at h
   . rename_i b hy
     obtain rfl:=yS_ok hy r
     exact ⟨by simp only [Cl2.at,toS,hy,AV.R],rfl⟩
   . cases h
theorem cl2Of_R {f:Nat->Nat->Nat->AV}{i p:Nat}{M M':Mp}{v:Value}:∀ {ks:List K1} {j0 j:Nat},row1 (f i p) ks j0=true->j < ks.length->(f i p (j0 + j)).R M v->(cl2F (cl2Of f ks j0) i p j).R M' v/\v.oneCell'=true
 | [],j0,j,_,hj,_=>by simp at hj
 | k :: ks,j0,j,h,hj,r=>by
   simp only [row1,Bool.and_eq_true] at h
   cases j with
   | zero=>exact kOk1_R h.1 r
   | succ j=>exact cl2Of_R (j0:=j0 + 1) h.2 (by simpa using hj) (by rwa [show j0 + 1 + j=j0 + (j + 1) by omega])
theorem lsOf_R {z:Nat}{a:AV}{nil:Bool}{n:Nat}{f:Nat->Nat->AV}(h:lsOf z a=some (nil,n,f)){M:Mp}{v:Value}(r:a.R M v):(AV.lst false nil z n f).R M v:=by
 cases a <;> simp only [lsOf,reduceCtorEq,sI,Prod.mk.injEq] at h
 case lst x nil' z' n' f'=>
  obtain ⟨h1,h2⟩:z=z'/\some (nil',n',f')=some (nil,n,f):=by
   cases hb:Nat.beq z z' with
   | false=>rw [hb] at h;cases h
   | true=>rw [hb] at h;exact ⟨beqN hb,h⟩
  subst h1
  simp only [sI,Prod.mk.injEq] at h2
  obtain ⟨rfl,rfl,rfl⟩:=h2
  simp only [AV.R] at r ⊢
  rcases r with r | ⟨r1,r2,a,c,r3,_⟩ | ⟨r1,r2,b,off,c,cs,r3,r4,_,r5⟩
  . exact .inl r
  . exact .inr (.inl ⟨r1,r2,a,c,r3,λ e=>by cases e⟩)
  . exact .inr (.inr ⟨r1,r2,b,off,c,cs,r3,r4,(λ e=>by cases e),r5⟩)
 case ns=>
  obtain ⟨rfl,rfl,_⟩:=h
  simp only [AV.R] at r ⊢
  exact .inl ⟨trivial,trivial,r⟩
 case es=>
  obtain ⟨rfl,rfl,_⟩:=h
  simp only [AV.R] at r ⊢
  obtain ⟨a,c,r⟩:=r
  exact .inr (.inl ⟨trivial,trivial,a,c,r,λ e=>by cases e⟩)
 case ye nil'=>
  obtain ⟨rfl,rfl,_⟩:=h
  simp only [AV.R] at r ⊢
  rcases r with ⟨r1,r2⟩ | ⟨r1,a,r2⟩
  . exact .inl ⟨r1,trivial,r2⟩
  . exact .inr (.inl ⟨r1,trivial,a,0,r2,λ _=>rfl⟩)
theorem lst_can {x nil:Bool}{z n:Nat}{f f':Nat->Nat->AV}{M M':Mp}{v:Value}(hz:ZLe M M')(hf:∀ i,i < n->∀ j,j < z->∀ u,(f i j).R M u->(f' i j).R M' u)(r:(AV.lst x nil z n f).R M v):(AV.lst false nil z n f').R M' v/\v.oneCell'=true:=by
 simp only [AV.R] at r ⊢
 rcases r with ⟨r1,r2,rfl⟩ | ⟨r1,r2,a,c,rfl,_⟩ | ⟨r1,r2,b,off,c,cs,rfl,r4,_,r5,r6⟩
 . exact ⟨.inl ⟨r1,r2,rfl⟩,rfl⟩
 . exact ⟨.inr (.inl ⟨r1,r2,a,c,rfl,λ e=>by cases e⟩),rfl⟩
 . refine ⟨.inr (.inr ⟨r1,r2,b,off,c,cs,rfl,r4,(λ e=>by cases e),hz _ _ r5,λ i hi j hj=>?_⟩),rfl⟩
   obtain ⟨u,q1,q2,q3⟩:=r6 i hi j hj
   exact ⟨u,q1,q2,hf i hi j hj u q3⟩
theorem kOk_R {k:CK}{f:Nat->Nat->AV}{i j:Nat}{M M':Mp}{v:Value}(hz:flatK k=true ∨ ZLe M M')(h:kOk k (f i j)=true)(r:(f i j).R M v):
 ((colOf f k j).at i).R M' v/\v.oneCell'=true:=by
 unfold colOf
 cases k with
 | ls ks=>
   rcases hz with hz | hz
   . cases hz
   simp only [kOk] at h
   split at h
   . rename_i nil n g hg
     have r:=lsOf_R hg r
     have hx:=lst_can (f':=cl2F (cl2Of (λ i=>lsF ks.length (f i j)) ks 0) i) hz (λ p hp q hq u ru=>by
      simp only [List.all_eq_true,List.mem_range] at h
      have h1:=h p hp
      have e:lsF ks.length (f i j)=g:=by unfold lsF;rw [hg]
      refine (cl2Of_R (M:=M) (M':=M') (j0:=0) ?_ hq ?_).1
      . show row1 (lsF ks.length (f i j) p) ks 0=true;rw [e];exact h1
      . rw [Nat.zero_add];show (lsF ks.length (f i j) p q).R M u;rw [e];exact ru) r
     refine ⟨?_,hx.2⟩
     have e1:lsNil ks.length (f i j)=nil:=by unfold lsNil;rw [hg]
     have e2:lsN ks.length (f i j)=n:=by unfold lsN;rw [hg]
     simp only [Col.at,e1,e2,cl2Of_len]
     exact hx.1
   . cases h
 | int k=>
   simp only [kOk] at h
   split at h
   . rename_i k' n hy
     obtain rfl:=eqK_eq h
     obtain rfl:=yI_ok hy r
     exact ⟨by simp only [Col.at,toI,hy,AV.R],rfl⟩
   . cases h
 | bool=>
   simp only [kOk] at h
   split at h
   . rename_i b hy
     obtain rfl:=yB_ok hy r
     exact ⟨by simp only [Col.at,toB,hy,AV.R],rfl⟩
   . cases h
 | str=>
   simp only [kOk] at h
   split at h
   . rename_i b hy
     obtain rfl:=yS_ok hy r
     exact ⟨by simp only [Col.at,toS,hy,AV.R],rfl⟩
   . cases h
theorem colsOf_R {f:Nat->Nat->AV}{i:Nat}{M M':Mp}{v:Value}:∀ {ks:List CK} {j0 j:Nat},(flatKs ks=true ∨ ZLe M M')->rowOk (f i) ks j0=true->j < ks.length->(f i (j0 + j)).R M v->(colF (colsOf f ks j0) i j).R M' v/\v.oneCell'=true
 | [],j0,j,_,_,hj,_=>by simp at hj
 | k :: ks,j0,j,hz,h,hj,r=>by
   simp only [rowOk,Bool.and_eq_true] at h
   have hz1:flatK k=true ∨ ZLe M M':=hz.imp (λ e=>by simp only [flatKs,Bool.and_eq_true] at e;exact e.1) id
   have hz2:flatKs ks=true ∨ ZLe M M':=hz.imp (λ e=>by simp only [flatKs,Bool.and_eq_true] at e;exact e.2) id
   cases j with
   | zero=>exact kOk_R hz1 h.1 r
   | succ j=>exact colsOf_R (j0:=j0 + 1) hz2 h.2 (by simpa using hj) (by rwa [show j0 + 1 + j=j0 + (j + 1) by omega])
def shiftF (o:Nat)(f:Nat->Nat->AV):Nat->Nat->AV:=
 match o with
 | 0=>f
 | Nat.succ o=>λ i j=>f (yNadd (Nat.succ o) i) j
theorem shiftF_eq (o:Nat)(f:Nat->Nat->AV)(i j:Nat):shiftF o f i j=f (o + i) j:=by
 cases o <;> simp [shiftF,yNadd]
def litF (z:Nat)(l:List AV)(i j:Nat):AV:=match nthA l (i * z + j) with | some v=>v | none=>.np
def litI (z:Nat)(l:List AV)(j i:Nat):Int:=toI (litF z l i j)
def litB (z:Nat)(l:List AV)(j i:Nat):Bool:=toB (litF z l i j)
def litS (z:Nat)(l:List AV)(j i:Nat):List UInt8:=toS (litF z l i j)
def colL (z:Nat)(l:List AV)(k:CK)(j:Nat):Col:=
 match k with
 | .int k=>.int k (litI z l j)
 | .bool=>.bool (litB z l j)
 | .str=>.str (litS z l j)
 | .ls ks=>colOf (litF z l) (.ls ks) j
def colsL (z:Nat)(l:List AV):List CK->Nat->List Col
 | [],_=>[]
 | k :: ks,j=>colL z l k j :: colsL z l ks (Nat.succ j)
theorem colsL_eq {z:Nat}{l:List AV}:∀ {ks:List CK} {j:Nat},colsL z l ks j=colsOf (litF z l) ks j
 | [],_=>rfl
 | k :: ks,j=>by simp only [colsL,colsOf];rw [colsL_eq];cases k <;> rfl
def litOk (ks:List CK):Nat->List AV->Bool
 | 0,_=>true
 | n + 1,l=>rowOk (λ j=>match nthA l j with | some v=>v | none=>.np) ks 0 && litOk ks n (l.drop ks.length)
def emptyCols (ks:List CK):List Col:=colsOf (λ _ _=>.np) ks 0
def rdC (h:AH)(c:Cs)(a:AV):T Dc:=
 match c with
 | none=>bif scalB a then .ret (.v (toY a)) else .no
 | some (_,ks)=>bif !flatKs ks then .no else match a with
   | .ysl ro nil id z' o n=>match h.get id with
     | some (.arr ro' _ z2 n2 f)=>bif (ro == ro') && Nat.beq ks.length z' && Nat.beq ks.length z2 then .must (yNle (yNadd o n) n2) (mustCols n (shiftF o f) ks 0 (.ret (.rows nil n (colsOf (shiftF o f) ks 0)))) else .no
     | _=>.no
   | .lst _ nil z' n f=>bif Nat.beq ks.length z' then mustCols n f ks 0 (.ret (.rows nil n (colsOf f ks 0))) else .no
   | .yr nil id z' n=>match h.get id with
     | some (.arr false _ z2 n2 f)=>bif Nat.beq ks.length z' && Nat.beq ks.length z2 then .must (yNle n n2) (mustCols n f ks 0 (.ret (.rows nil n (colsOf f ks 0)))) else .no
     | _=>.no
   | .ns=>.ret (.rows true 0 (emptyCols ks))
   | .ye nil=>.ret (.rows nil 0 (emptyCols ks))
   | .es=>.ret (.rows false 0 (emptyCols ks))
   | .sl id off len cap u=>match h.get id with
     | some (.cells c _ g)=>match sliceA c off (len * ks.length) with
       | some l=>bif litOk ks len l && roomOk u g ks.length cap len c.length then .ret (.rows false len (colsL ks.length l ks 0)) else .no
       | none=>.no
     | _=>.no
   | _=>.no
def rdL (h:AH):List Cs->List AV->T (List Dc)
 | [],[]=>.ret []
 | c :: cs,a :: l=>(rdC h c a).bind λ d=>(rdL h cs l).bind λ ds=>.ret (d :: ds)
 | _,_=>.no
def rdG (h:AH)(g:Ag)(a:AV):T Da:=
 match g with
 | .cell c=>(rdC h c a).bind λ d=>.ret (.cell d)
 | .agg cs=>match a with
   | .agg l=>(rdL h cs l).bind λ ds=>.ret (.agg ds)
   | _=>.no
def rdA (h:AH):List Ag->List AV->T (List Da)
 | [],[]=>.ret []
 | g :: gs,a :: l=>(rdG h g a).bind λ d=>(rdA h gs l).bind λ ds=>.ret (d :: ds)
 | _,_=>.no
section
variable {P : Program} {M : Mp} {h : AH} {w : World}
theorem toY_R {a:AV}{M':Mp}{u:Value}(hs:scalB a=true)(r:a.R M u):(toY a).R M' u/\u.oneCell'=true:=by
 cases a <;> simp only [scalB,Bool.false_eq_true] at hs <;> (simp only [AV.R] at r;subst r;exact ⟨rfl,rfl⟩)
theorem litOk_row {ks:List CK}:∀ {n:Nat} {l:List AV},litOk ks n l=true->∀ i,i < n->rowOk (λ j=>litF ks.length l i j) ks 0=true
 | 0,l,_,i,hi=>by omega
 | n + 1,l,h,i,hi=>by
   simp only [litOk,Bool.and_eq_true] at h
   cases i with
   | zero=>simpa only [litF,Nat.zero_mul,Nat.zero_add] using h.1
   | succ i=>
     have:=litOk_row h.2 i (by omega)
     have e:∀ (l:List AV) (a b:Nat),nthA (l.drop a) b=nthA l (a + b):=by
      intro l
      induction l with
      | nil=>intro a b;simp [nthA_nil]
      | cons x l ih=>
        intro a b
        cases a with
        | zero=>simp
        | succ a=>rw [List.drop_succ_cons,ih,Nat.add_right_comm];rfl
     have e2:(λ j=>litF ks.length (l.drop ks.length) i j)=λ j=>litF ks.length l (i + 1) j:=by
      funext j
      simp only [litF,e]
      rw [show ks.length + (i * ks.length + j)=(i + 1) * ks.length + j by rw [Nat.add_mul];omega]
     rwa [e2] at this
theorem rdC_ok {c:Cs}{a:AV}{d:Dc}{u:Value}(e:(rdC h c a).sel=some d)(ra:a.R M u)(r:Rel M h w):DcR w c d u:=by
 unfold rdC at e
 simp only [colsL_eq] at e
 split at e
 . simp only [Bool.cond_eq_ite] at e
   split at e
   . rename_i hs
     obtain rfl:=(T.sel_ret e).symm
     exact (toY_R hs ra).1
   . cases e
 . rename_i et ks
   cases hfl:flatKs ks with
   | false=>rw [hfl] at e;cases e
   | true=>
   rw [hfl] at e
   simp only [Bool.not_true,cond_false] at e
   have hfl:flatKs ks=true ∨ ZLe M noM:=.inl hfl
   split at e
   . rename_i ro nil id z' o n
     split at e
     . rename_i ro' e' z2 n2 f hg
       simp only [Bool.cond_eq_ite] at e
       split at e
       . rename_i hc
         simp only [Bool.and_eq_true,beq_iff_eq,nbeq,decide_eq_true_eq] at hc
         obtain ⟨⟨rfl,hz1⟩,hz2⟩:=hc
         subst hz1 hz2
         obtain ⟨h1,e⟩:=T.sel_must e
         obtain ⟨h2,e⟩:=mustCols_ok e
         obtain rfl:=(T.sel_ret e).symm
         have h1:o + n<=n2:=of_decide_eq_true h1
         simp only [AV.R] at ra
         rcases ra with ⟨rfl,rfl,rfl⟩ | ⟨rfl,rfl,p,k,rfl,_⟩ | ⟨rfl,b,κ,k,hM,rfl,hnk,h0,_⟩
         . exact .inl ⟨rfl,rfl,rfl⟩
         . exact .inr ⟨rfl,p,k,rfl,Nat.zero_le _,.inl rfl⟩
         . refine .inr ⟨rfl,_,k,rfl,hnk,.inr ⟨b,_,rfl,?_⟩⟩
           obtain ⟨ob,hb,ho⟩:=Ob_of r hg hM
           cases ro with
           | true=>
             obtain ⟨cs,e',fr,rfl,q⟩:=ho
             refine ⟨cs,e',fr,hb,λ i hi j hj=>?_⟩
             obtain ⟨v,q1,q2,q3⟩:=q (o + i) (by omega) j hj
             refine ⟨v,?_,q2,?_⟩
             . rw [<- q1];congr 1;simp only [if_true,Nat.add_mul];omega
             . exact (colsOf_R (M:=M) hfl (h2 i hi) hj (by rw [shiftF_eq,Nat.zero_add];exact q3)).1
           | false=>
             obtain ⟨cs,rfl,_,_,q⟩:=ho
             refine ⟨cs,e',_,hb,λ i hi j hj=>?_⟩
             obtain ⟨v,q1,q2,q3⟩:=q (o + i) (by omega) j hj
             refine ⟨v,?_,q2,?_⟩
             . rw [<- q1];congr 1;simp only [Bool.false_eq_true,if_false,Nat.add_mul];omega
             . exact (colsOf_R (M:=M) hfl (h2 i hi) hj (by rw [shiftF_eq,Nat.zero_add];exact q3)).1
       . cases e
     . cases e
   . rename_i x nil z' n f
     simp only [Bool.cond_eq_ite] at e
     split at e
     . rename_i hc
       simp only [nbeq,decide_eq_true_eq] at hc
       subst hc
       obtain ⟨h2,e⟩:=mustCols_ok e
       obtain rfl:=(T.sel_ret e).symm
       simp only [AV.R] at ra
       rcases ra with ⟨rfl,rfl,rfl⟩ | ⟨rfl,rfl,p,k,rfl,_⟩ | ⟨rfl,h0,b,off,k,cs,rfl,hnk,_,hz,q⟩
       . exact .inl ⟨rfl,rfl,rfl⟩
       . exact .inr ⟨rfl,p,k,rfl,Nat.zero_le _,.inl rfl⟩
       . obtain ⟨e',fr,hb⟩:=r.fz b cs hz
         refine .inr ⟨rfl,_,k,rfl,hnk,.inr ⟨b,off,rfl,cs,e',fr,hb,λ i hi j hj=>?_⟩⟩
         obtain ⟨v,q1,q2,q3⟩:=q i hi j hj
         exact ⟨v,q1,q2,(colsOf_R (M:=M) hfl (h2 i hi) hj (by rw [Nat.zero_add];exact q3)).1⟩
     . cases e
   . rename_i nil id z' n
     split at e
     . rename_i e' z2 n2 f hg
       simp only [Bool.cond_eq_ite] at e
       split at e
       . rename_i hc
         simp only [Bool.and_eq_true,nbeq,decide_eq_true_eq] at hc
         obtain ⟨hz1,hz2⟩:=hc
         subst hz1 hz2
         obtain ⟨h1,e⟩:=T.sel_must e
         obtain ⟨h2,e⟩:=mustCols_ok e
         obtain rfl:=(T.sel_ret e).symm
         have h1:n<=n2:=of_decide_eq_true h1
         simp only [AV.R] at ra
         rcases ra with ⟨rfl,rfl,rfl⟩ | ⟨rfl,b,κ,c,hM,rfl,hnk,_⟩
         . exact .inl ⟨rfl,rfl,rfl⟩
         . refine .inr ⟨rfl,_,c,rfl,hnk,.inr ⟨b,_,rfl,?_⟩⟩
           obtain ⟨ob,hb,ho⟩:=Ob_of r hg hM
           obtain ⟨cs,rfl,_,_,q⟩:=ho
           refine ⟨cs,e',_,hb,λ i hi j hj=>?_⟩
           obtain ⟨v,q1,q2,q3⟩:=q i (by omega) j hj
           refine ⟨v,?_,q2,?_⟩
           . rw [<- q1];congr 1;omega
           . exact (colsOf_R (M:=M) hfl (h2 i hi) hj (by rw [Nat.zero_add];exact q3)).1
       . cases e
     . cases e
   . obtain rfl:=(T.sel_ret e).symm
     simp only [AV.R] at ra;subst ra
     exact .inl ⟨rfl,rfl,rfl⟩
   . obtain rfl:=(T.sel_ret e).symm
     simp only [AV.R] at ra
     rcases ra with ⟨rfl,rfl⟩ | ⟨rfl,a,rfl⟩
     . exact .inl ⟨rfl,rfl,rfl⟩
     . exact .inr ⟨rfl,a,0,rfl,Nat.le_refl _,.inl rfl⟩
   . obtain rfl:=(T.sel_ret e).symm
     simp only [AV.R] at ra
     obtain ⟨a,c,rfl⟩:=ra
     exact .inr ⟨rfl,a,c,rfl,Nat.zero_le _,.inl rfl⟩
   . rename_i id off len cap un
     split at e
     . rename_i c et2 g hg
       split at e
       . rename_i l hl
         simp only [Bool.cond_eq_ite] at e
         split at e
         . rename_i hc
           simp only [Bool.and_eq_true] at hc
           obtain rfl:=(T.sel_ret e).symm
           simp only [AV.R] at ra
           obtain ⟨b,κ,hM,rfl⟩:=ra
           obtain ⟨ob,hb,vs,rest,rl,rfl,hκ⟩:=Ob_of r hg hM
           have hvl:=RL_length rl
           have hroom:len<=(if un=true then κ - cap else cap):=by
            have h2:=hc.2
            unfold roomOk at h2
            cases un with
            | false=>simpa [nble] using h2
            | true=>
              simp only at h2
              cases g with
              | none=>cases h2
              | some z'=>
                simp only [Bool.and_eq_true,nbeq,nblt,nble,decide_eq_true_eq] at h2
                obtain ⟨⟨hz1,hz⟩,hle⟩:=h2
                subst hz1
                simp only at hκ
                have:(cap + len) * ks.length<=κ * ks.length:=by
                 rw [<- hκ];refine Nat.le_trans hle ?_;rw [<- hvl];simp
                have:=Nat.le_of_mul_le_mul_right this hz
                simp only [if_true];omega
           refine .inr ⟨rfl,_,_,rfl,hroom,.inr ⟨b,off,rfl,(vs ++ rest).toArray,et2,_,hb,λ i hi j hj=>?_⟩⟩
           obtain ⟨e1,e2⟩:=sliceA_eq hl
           have hp:=place_lt hi hj
           have hln:i * ks.length + j < l.length:=by rw [e1];simp;omega
           obtain ⟨a,ha⟩:=nthA_lt hln
           have rl2:AV.RL M l ((vs.drop off).take (len * ks.length)):=by rw [e1];exact RL_take _ (RL_drop _ rl)
           obtain ⟨v,q1,q2⟩:=nthA_get ha rl2
           obtain ⟨q3,q4⟩:=colsOf_R (M':=noM) (j0:=0) (f:=litF ks.length l) hfl (litOk_row hc.1 i hi) hj (show (litF ks.length l i (0 + j)).R M v by rw [Nat.zero_add];simp only [litF,ha];exact q2)
           refine ⟨v,?_,q4,q3⟩
           rw [List.getElem?_take,if_pos hp,List.getElem?_drop] at q1
           have hlt:=(List.getElem?_eq_some_iff.1 q1).1
           rw [List.getElem?_toArray,Nat.add_assoc,List.getElem?_append_left hlt];exact q1
         . cases e
       . cases e
     . cases e
   . cases e
theorem rdL_ok:∀ {cs:List Cs} {l:List AV} {ds:List Dc} {us:List Value},(rdL h cs l).sel=some ds->AV.RL M l us->Rel M h w->DcRs w cs ds us
 | [],[],ds,us,e,ra,r=>by
   obtain rfl:=(T.sel_ret e).symm
   simp only [AV.RL] at ra
   exact ⟨rfl,ra⟩
 | c :: cs,a :: l,ds,us,e,ra,r=>by
   obtain ⟨d,e1,e⟩:=T.sel_bind_some e
   obtain ⟨ds',e2,e⟩:=T.sel_bind_some e
   obtain rfl:=(T.sel_ret e).symm
   simp only [AV.RL] at ra
   obtain ⟨u,us',r1,r2,rfl⟩:=ra
   exact ⟨d,ds',u,us',rfl,rfl,rdC_ok e1 r1 r,rdL_ok e2 r2 r⟩
 | [],_ :: _,_,_,e,_,_=>by cases e
 | _ :: _,[],_,_,e,_,_=>by cases e
theorem rdG_ok {g:Ag}{a:AV}{d:Da}{u:Value}(e:(rdG h g a).sel=some d)(ra:a.R M u)(r:Rel M h w):DaR w g d u:=by
 unfold rdG at e
 split at e
 . obtain ⟨d',e1,e⟩:=T.sel_bind_some e
   obtain rfl:=(T.sel_ret e).symm
   exact rdC_ok e1 ra r
 . split at e
   . obtain ⟨ds,e1,e⟩:=T.sel_bind_some e
     obtain rfl:=(T.sel_ret e).symm
     simp only [AV.R] at ra
     obtain ⟨us,r1,rfl⟩:=ra
     exact ⟨us,rfl,rdL_ok e1 r1 r⟩
   . cases e
theorem rdA_ok:∀ {gs:List Ag} {l:List AV} {ds:List Da} {us:List Value},(rdA h gs l).sel=some ds->AV.RL M l us->Rel M h w->DaRs w gs ds us
 | [],[],ds,us,e,ra,r=>by
   obtain rfl:=(T.sel_ret e).symm
   simp only [AV.RL] at ra
   exact ⟨rfl,ra⟩
 | c :: cs,a :: l,ds,us,e,ra,r=>by
   obtain ⟨d,e1,e⟩:=T.sel_bind_some e
   obtain ⟨ds',e2,e⟩:=T.sel_bind_some e
   obtain rfl:=(T.sel_ret e).symm
   simp only [AV.RL] at ra
   obtain ⟨u,us',r1,r2,rfl⟩:=ra
   exact ⟨d,ds',u,us',rfl,rfl,rdG_ok e1 r1 r,rdA_ok e2 r2 r⟩
 | [],_ :: _,_,_,e,_,_=>by cases e
 | _ :: _,[],_,_,e,_,_=>by cases e
end
def cntC:Cs->Nat
 | none=>0
 | some _=>1
def cntL:List Cs->Nat
 | []=>0
 | c :: l=>cntC c + cntL l
def cntA:List Ag->Nat
 | []=>0
 | .cell c :: l=>cntC c + cntA l
 | .agg cs :: l=>cntL cs + cntA l
theorem canC_len (c:Cs)(d:Dc)(bl:List AO):(canC c d bl).2.length<=bl.length + cntC c:=by
 unfold canC
 split <;> simp [cntC]
theorem canL_len:∀ (cs:List Cs) (ds:List Dc) (bl:List AO),(canL cs ds bl).2.length<=bl.length + cntL cs
 | [],ds,bl=>by simp [canL,cntL]
 | c :: cs,[],bl=>by simp [canL]
 | c :: cs,d :: ds,bl=>by
   have h1:=canC_len c d bl
   have h2:=canL_len cs ds (canC c d bl).2
   simp only [canL,cntL];omega
theorem canA_len:∀ (gs:List Ag) (ds:List Da) (bl:List AO),(canA gs ds bl).2.length<=bl.length + cntA gs
 | [],ds,bl=>by simp [canA,cntA]
 | g :: gs,[],bl=>by simp [canA]
 | g :: gs,d :: ds,bl=>by
   have h2:=canA_len gs ds (canG g d bl).2
   have h1:(canG g d bl).2.length<=bl.length + (match g with | .cell c=>cntC c | .agg cs=>cntL cs):=by
    unfold canG
    split
    . exact canC_len _ _ _
    . exact canL_len _ _ _
    . simp
   cases g <;> (simp only [canA,cntA] at *;omega)
section
variable {P : Program} {sm : FuncId -> Option Sm}
theorem own_none {w:World}{bl:List AO}{bs:List (Option (Nat × Nat))}(h:BlR w bl bs)(hl:bl.length < 4294967296)(b:Nat):¬ OwnP (Mof bs) (heapOf bl) b:=λ ⟨i,κ,o,h1,h2,_⟩=>by
 rw [heapOf_get hl] at h1
 obtain ⟨_,_,e,z,n,f,rfl,_⟩:=h.get h1
 cases h2
theorem cmpC_R {a v:AV}(h:cmpC a v){M M':Mp}{u:Value}(r:v.R M u):a.R M' u:=(cmpC_ok h r).1
def ctS (gs:List Ag)(F:List Da->Option (Bool × AV))(args:List AV)(h:AH):T (AV × AH):=
 (rdA h gs args).bind λ ds=>match F ds with
   | some (b,a)=>.must b (.ret (a,h))
   | none=>.no
theorem ctS_ok (hm:P.follows .mixedOrders=true)(hs:SmOK P sm){f:FuncId}{gs:List Ag}{F:List Da->Option (Bool × AV)}(hc:cntA gs < 4294967296)
 (hw:∀ ds a,F ds=some (true,a)->∃ ann n,wxF P sm ann n f (canA gs ds []).1 (heapOf (canA gs ds []).2) (λ v _=>cmpC a v)):SmCall P f (λ args h=>(ctS gs F args h).sel):=by
 intro args h v h' hg
 obtain ⟨ds,e1,e⟩:=T.sel_bind_some hg
 split at e
 case h_2=>cases e
 rename_i b a hF
 obtain ⟨rfl,e⟩:=T.sel_must e
 have e:=T.sel_ret e
 simp only [Prod.mk.injEq] at e
 obtain ⟨rfl,rfl⟩:=e
 refine ⟨⟨Nat.le_refl _,Ab.refl _⟩,λ M us w r R ra rr fr k=>?_⟩
 have hd:=rdA_ok e1 ra rr
 obtain ⟨ks,q1,q2⟩:=canA_ok (bl:=[]) (bs:=[]) hd rfl
 rw [List.nil_append] at q1 q2
 have hlen:(canA gs ds []).2.length < 4294967296:=by have:=canA_len gs ds [];simp at this;omega
 obtain ⟨q3,q4⟩:=heapOf_rel q1 hlen rr.gw
 obtain ⟨ann,n,hw⟩:=hw ds a hF
 refine wxF_ok hm hs hw (Mof ks) us w r R q2 q3 q4 λ v2 h2 M2 u w' hk rv rel2 _ fo _=>?_
 have hsame:∀ b,b < w.heap.size->w'.heap[b]?=w.heap[b]?:=λ b hb=>fo.keep b hb (own_none q1 hlen b)
 refine k M u w' (cmpC_R hk rv) ⟨λ id o e=>?_,rr.inj,rr.wf,λ g c hg=>?_,rr.gf,fz_kept rr (λ b hb _=>hsame b hb),rr.fo⟩ ⟨fo.os,fo.tape,fo.output,fo.size,Le.refl M,λ _ e=>absurd rfl e,λ q hq _=>hsame q hq,λ id b2 κ o q1 q2=>.inr ⟨id,κ,o,q1,q2,λ e=>e⟩,λ b cs e=>.inl e⟩ (Ab.refl _)
 . rcases rr.obj id o e with hv | ⟨b,κ,ob,h1,h2,h3⟩
   . exact .inl hv
   . exact .inr ⟨b,κ,ob,h1,by rw [hsame b (heap_lt h2)];exact h2,h3⟩
 . obtain ⟨vs,e,fr,h1,h2⟩:=rr.gw g c hg
   exact ⟨vs,e,fr,by rw [hsame g (heap_lt h1)];exact h1,h2⟩
end
end Go.Proofs.Ytknfdbilpfblnaa.Ex
end
section
noncomputable section
namespace Go.Proofs.Ytknfdbilpfblnaa.Lw
open Go Go.RowKit Go.WideShapes Go.ChangeShapes
theorem own:ownKnob Try.prog.godebug=none:=by kernel_rfl
theorem laidOut:laidOutB Try.prog=true:=by kernel_rfl
section
variable {H : Type} {enc : TypeId × Value -> H} {P : Program}
theorem stays_all (hl:laidOutB P=true){W W':World}(hb:Below W.heap.size W W'):∀ (ts:List TypeId) (vs:List Value) (ds:List (DataW H)) (ps:List MemPlace),(∀ t ∈ ts,P.readableRec t=true/\t < P.types.size) →
 DataW.TrodAll enc P W 0 (λ _=>true) true ts vs ds ps->(∀ x ∈ ps,x.block < W.heap.size)->∀ sp:Nat->Bool,(∀ p ∈ ps,sp p.block=true)->DataW.TrodAll enc P W' 0 sp true ts vs ds ps
 | [],vs,ds,ps,_,h,_,sp,_=>by
   obtain ⟨rfl,rfl,rfl⟩:=trodAll_nil h
   rfl
 | t :: ts,vs,ds,ps,hr,h,hlt,sp,hs=>by
   obtain ⟨v,vs',d,ds',p,q,rfl,rfl,rfl,hd,hrest⟩:=trodAll_cons h
   obtain ⟨h1,h2⟩:=hr t (by simp)
   exact ⟨p,q,WideElems.Trod_stays hl h1 h2 hd (λ x hx=>hb.same (hlt x (by simp [hx]))) (λ x hx=>hs x (by simp [hx])),
    stays_all hl hb ts vs' ds' q (λ t ht=>hr t (by simp [ht])) hrest (λ x hx=>hlt x (by simp [hx])) sp (λ x hx=>hs x (by simp [hx])),rfl⟩
theorem post_of_below {f:Func}{s:ChangeSpec}{apart fresh handsOn again:Bool}{W W':World}{args:Array Value}{v:Value}{ds gs:List (DataW H)}{before pa pv:List MemPlace}
 (hW:DataW.Whole enc P f.params.toList s.vars apart W args.toList ds gs before)
 (hres:∀ (b:Nat) (sp:Nat->Bool) (hd:Bool),DataW.TrodAll enc P W' b sp hd f.resultTypes.toList (v.resultList f.resultTypes.size) (s.fn H (ds ++ gs)).results [])
 (hargs:∀ sp:Nat->Bool,(∀ p ∈ before,sp p.block=true)->DataW.TrodAll enc P W' 0 sp true f.params.toList args.toList (s.fn H (ds ++ gs)).args pa)
 (hvars:∀ sp:Nat->Bool,(∀ p ∈ before,sp p.block=true)->DataW.TrodVars enc P W' sp s.vars (s.fn H (ds ++ gs)).vars pv)
 (hps:before=pa ++ pv) (hb:Below W.heap.size W W')
 (hok:∀ (j:Nat) (t:TypeId) (r:Value),f.resultTypes[j]?=some t->(v.resultList f.resultTypes.size)[j]?=some r->Value.okWide P W' .any 0 t r) :
 s.post enc P f apart fresh handsOn again W args v W':=by
 have hlt:∀ p ∈ before,p.block < W.heap.size:=λ p hp=>hW.lt p hp
 have hold:∀ p ∈ before,(λ b=>decide (b < W.heap.size)) p.block=true:=λ p hp=>by simpa using hlt p hp
 refine ⟨ds,gs,before,[],pa,pv,hW,hres _ _ _,hargs _ hold,hvars _ hold,World.keptBut_mono (λ p hp=>⟨hp,?_⟩) (hb.frame (· ∈ before)),λ _=>?_⟩
 . rw [hps,List.mem_append] at hp
   exact Or.inr hp
 . obtain ⟨_,_,_,_,_,hz,hn⟩:=hW
   refine ⟨hok,_,_,([] ++ pa) ++ pv,⟨[] ++ pa,pv,trodAll_append (hargs _ (λ _ _=>rfl)) (hres _ _ _),hvars _ (λ _ _=>rfl),rfl,?_,?_⟩,?_⟩
   . intro b off hp
     have hin:MemPlace.cell b off ∈ before:=by rw [hps];simpa using hp
     rw [hb.frozen (hlt _ hin)]
     exact hz b off hin
   . intro ha
     have:=hn ha
     rw [hps] at this
     simpa using this
   . intro p hp _
     rw [hps]
     simpa using hp
theorem law_post {f:Func}{s:ChangeSpec}{apart fresh handsOn again:Bool}{W W':World}{args:Array Value}{ds:List (DataW H)}{before:List MemPlace}
 (hW:DataW.Whole enc P f.params.toList s.vars apart W args.toList ds [] before) (hvs:s.vars=[]) (hres:f.resultTypes=#[4]) (hu:P.underlying 4=some .bool)
 (hs:s.fn H (ds ++ [])={ results:=[.lit (.bool true)],args:=ds }) (hl:laidOutB P=true) (hr:∀ t ∈ f.params.toList,P.readableRec t=true/\t < P.types.size) (hb:Below W.heap.size W W') :
 s.post enc P f apart fresh handsOn again W args (.bool true) W':=by
 have hlt:∀ p ∈ before,p.block < W.heap.size:=λ p hp=>hW.lt p hp
 obtain ⟨pa,pv,hA,hV,hps,hz,hn⟩:=id hW
 rw [hvs] at hV
 obtain ⟨_,rfl⟩:=trodVars_none hV
 simp only [List.append_nil] at hps
 subst hps
 exact post_of_below (pa:=before) (pv:=[]) hW (λ b sp hd=>by rw [hs,hres];exact trodAll_mk1 (shut_bool hu _)) (λ sp hsp=>by rw [hs];exact stays_all hl hb _ _ _ _ hr hA hlt sp hsp) (λ sp _=>by rw [hvs,hs];rfl) (by simp) hb (ok_one hres rfl (okWide_bool_mk hu _))
end
end Go.Proofs.Ytknfdbilpfblnaa.Lw
end
section
noncomputable section
namespace Go.Proofs.Ytknfdbilpfblnaa.Ex
open Go
def mst (b:Bool)(p:Prop):Prop:=(b=true->p)/\(b=false->False)
theorem ft' {p:Prop}(h:p=True):p:=of_eq_true h
theorem mstI {p:Bool}{X:Prop}(h:p=true)(x:X):mst p X:=⟨λ _=>x,λ e=>absurd (h.symm.trans e) (by decide)⟩
theorem fork_t {p:Bool}{X Y:Prop}(h:p=true)(x:X):(p=true->X)/\(p=false->Y):=⟨λ _=>x,λ e=>absurd (h.symm.trans e) (by decide)⟩
theorem fork_f {p:Bool}{X Y:Prop}(h:p=false)(y:Y):(p=true->X)/\(p=false->Y):=⟨λ e=>absurd (h.symm.trans e) (by decide),λ _=>y⟩
theorem yLt_t {a b:Int}:(yLt a b=true)=(a < b):=by simp [yLt]
theorem yLt_f {a b:Int}:(yLt a b=false)=(b<=a):=by simp [yLt]
theorem yLe_t {a b:Int}:(yLe a b=true)=(a<=b):=by simp [yLe]
theorem yLe_f {a b:Int}:(yLe a b=false)=(b < a):=by simp [yLe]
theorem yEq_t {a b:Int}:(yEq a b=true)=(a=b):=by simp [yEq]
theorem yEq_f {a b:Int}:(yEq a b=false)=(a ≠ b):=by simp [yEq]
theorem yNot_t {a:Bool}:(yNot a=true)=(a=false):=by simp [yNot]
theorem yNot_f {a:Bool}:(yNot a=false)=(a=true):=by simp [yNot]
theorem yAnd_t {a b:Bool}:(yAnd a b=true)=(a=true/\b=true):=by simp [yAnd]
theorem yAnd_f {a b:Bool}:(yAnd a b=false)=(a=false ∨ b=false):=by cases a <;> simp [yAnd]
theorem yOr_t {a b:Bool}:(yOr a b=true)=(a=true ∨ b=true):=by simp [yOr]
theorem yOr_f {a b:Bool}:(yOr a b=false)=(a=false/\b=false):=by simp [yOr]
theorem yIff_t {a b:Bool}:(yIff a b=true)=(a=b):=by simp [yIff]
theorem yIff_f {a b:Bool}:(yIff a b=false)=(a ≠ b):=by simp [yIff]
theorem yIn_t {a:Int}{n:Nat}:(yIn a n=true)=(0<=a/\a < n):=by simp [yIn]
theorem yIn_f {a:Int}{n:Nat}:(yIn a n=false)=¬ (0<=a/\a < n):=by simp [yIn]
theorem yNlt_t {a b:Nat}:(yNlt a b=true)=(a < b):=by simp [yNlt]
theorem yNlt_f {a b:Nat}:(yNlt a b=false)=(b<=a):=by simp [yNlt]
theorem yNle_t {a b:Nat}:(yNle a b=true)=(a<=b):=by simp [yNle]
theorem yNle_f {a b:Nat}:(yNle a b=false)=(b < a):=by simp [yNle]
theorem yNeq_t {a b:Nat}:(yNeq a b=true)=(a=b):=by simp [yNeq]
theorem yNeq_f {a b:Nat}:(yNeq a b=false)=(a ≠ b):=by simp [yNeq]
theorem yGrow_t {n b:Nat}:(yGrow n b=true)=(4 * n * b<=140737488355328):=by simp [yGrow,growOk]
theorem yGrow_f {n b:Nat}:(yGrow n b=false)=(140737488355328 < 4 * n * b):=by simp [yGrow,growOk,nble]
theorem yInt_e {n:Nat}:yInt n=(n:Int):=rfl
theorem yNat_e {n:Nat}:yNat (n:Int)=n:=by simp [yNat]
theorem yNadd_e {a b:Nat}:yNadd a b=a + b:=rfl
theorem yNsub_e {a b:Nat}:yNsub a b=a - b:=rfl
theorem yAdd_e {a b:Int}:yAdd a b=a + b:=rfl
theorem ySub_e {a b:Int}:ySub a b=a - b:=rfl
theorem yMul_e {a b:Int}:yMul a b=a * b:=rfl
theorem wrap64 {n:Int}(h1:-9223372036854775808<=n)(h2:n < 9223372036854775808):yWrap .i64 n=n:=wrap_id _ _ (by simp only [negLim];omega) (by simp only [posLim];omega)
theorem yCol_int {k:IntKind}{n:Nat}{x:Nat->Int}:yCol (.int k) n (λ i=>.y k (x i))=true:=by
 rw [yCol_ok];intro i _;simp only [kOk,yI];cases k <;> rfl
theorem yCol_bool {n:Nat}{x:Nat->Bool}:yCol .bool n (λ i=>.yb (x i))=true:=by
 rw [yCol_ok];intro i _;rfl
theorem vS:(∀ {a:Bool},(yNot a=true)=(a=false))/\(∀ {a:Bool},(yNot a=false)=(a=true))/\(∀ {a b:Int},(yEq a b=true)=(a=b))/\(∀ {a b:Int},(yEq a b=false)=(a ≠ b))/\(∀ {a b:Bool},(yAnd a b=true)=(a=true/\b=true))/\(∀ {a b:Bool},(yAnd a b=false)=(a=false ∨ b=false))/\(∀ {a b:Bool},(yOr a b=true)=(a=true ∨ b=true))/\(∀ {a b:Bool},(yOr a b=false)=(a=false/\b=false))/\(∀ {a b:Bool},(yIff a b=true)=(a=b))/\(∀ {a b:Bool},(yIff a b=false)=(a ≠ b))/\(∀ {a b:Int},(yLt a b=true)=(a < b))/\(∀ {a b:Int},(yLt a b=false)=(b<=a))/\(∀ {a b:Int},(yLe a b=true)=(a<=b))/\(∀ {a b:Int},(yLe a b=false)=(b < a))/\(∀ {a:Int} {n:Nat},(yIn a n=true)=(0<=a/\a < n))/\(∀ {a:Int} {n:Nat},(yIn a n=false)=¬ (0<=a/\a < n))/\(∀ {a b:Nat},(yNlt a b=true)=(a < b))/\(∀ {a b:Nat},(yNlt a b=false)=(b<=a))/\(∀ {a b:Nat},(yNle a b=true)=(a<=b))/\(∀ {a b:Nat},(yNle a b=false)=(b < a))/\(∀ {a b:Nat},(yNeq a b=true)=(a=b))/\(∀ {a b:Nat},(yNeq a b=false)=(a ≠ b))/\(∀ {n b:Nat},(yGrow n b=true)=(4 * n * b<=140737488355328))/\(∀ {n b:Nat},(yGrow n b=false)=(140737488355328 < 4 * n * b))/\(∀ {n:Nat},yInt n=(n:Int))/\(∀ {n:Nat},yNat (n:Int)=n)/\(∀ {a b:Nat},yNadd a b=a + b)/\(∀ {a b:Nat},yNsub a b=a - b)/\(∀ {a b:Int},yAdd a b=a + b)/\(∀ {a b:Int},ySub a b=a - b)/\(∀ {a b:Int},yMul a b=a * b)/\(∀ {k:IntKind} {n:Nat} {x:Nat->Int},yCol (.int k) n (λ i=>.y k (x i))=true)/\(∀ {n:Nat} {x:Nat->Bool},yCol .bool n (λ i=>.yb (x i))=true)/\(∀ (p:Prop),(True/\p)=p)/\(∀ (p:Prop),(p/\True)=p)/\(∀ (n:Nat),0 + n=n)/\(∀ (n:Nat),n + 0=n)/\(∀ (n:Nat),n<=n)/\(∀ (p:Prop),(True->p)=p)/\((true=false)=False)/\((false=true)=False)/\(∀ (p:Prop),(False->p)=True)/\(∀ (b:Bool) (p:Prop),mst b p=((b=true->p)/\(b=false->False))):=
 ⟨@yNot_t,@yNot_f,@yEq_t,@yEq_f,@yAnd_t,@yAnd_f,@yOr_t,@yOr_f,@yIff_t,@yIff_f,@yLt_t,@yLt_f,@yLe_t,@yLe_f,@yIn_t,@yIn_f,@yNlt_t,@yNlt_f,@yNle_t,@yNle_f,@yNeq_t,@yNeq_f,@yGrow_t,@yGrow_f,@yInt_e,@yNat_e,@yNadd_e,@yNsub_e,@yAdd_e,@ySub_e,@yMul_e,@yCol_int,@yCol_bool,true_and,and_true,Nat.zero_add,Nat.add_zero,Nat.le_refl,true_implies,by simp,by simp,false_implies,λ _ _=>rfl⟩
theorem kernel_go {p q:Prop}(h:p=q)(hq:q):p:=h ▸ hq
def smL:List (Nat × Sm)->FuncId->Option Sm
 | [],_=>none
 | (g,s) :: l,f=>bif Nat.beq f g then some s else smL l f
def SmE (P:Program)(f:FuncId):Sm->Prop
 | .call g=>SmCall P f g
 | .ct g=>SmCall P f λ a h=>(g a h).sel
 | .val g=>SmVal P f g
def SmAll (P:Program):List (Nat × Sm)->Prop
 | []=>True
 | (g,s) :: l=>SmE P g s/\SmAll P l
theorem smL_get {P:Program}:∀ {l:List (Nat × Sm)} {f:FuncId} {s:Sm},SmAll P l->smL l f=some s->SmE P f s
 | [],f,s,_,h=>by simp [smL] at h
 | (g,x) :: l,f,s,a,h=>by
   simp only [smL] at h
   cases hb:Nat.beq f g with
   | true=>
     rw [hb,cond_true,sI] at h
     obtain rfl:=Nat.eq_of_beq_eq_true hb
     subst h
     exact a.1
   | false=>
     rw [hb,cond_false] at h
     exact smL_get a.2 h
theorem smL_ok {P:Program}{l:List (Nat × Sm)}(h:SmAll P l):SmOK P (smL l):=λ _=>
 ⟨λ _ e=>smL_get h e,λ _ e=>smL_get h e,λ _ e=>smL_get h e⟩
inductive Sx where
 | sc
 | ro (e:TypeId) (ks:List CK)
 | own (e:TypeId) (ks:List CK)
 | ptr (t:TypeId) (l:List Sx)
 | agg (l:List Sx)
 | tup (l:List Sx)
 | fn (f:FuncId) (l:List Sx)
 | pl (ks:List CK)
 | mut (e:TypeId) (ks:List CK)
 /- a new map from numbers to structs (a result only) -/
 | mpz (k:IntKind) (ks:List CK)
 /- rows of one's own,maybe none,with room behind them -/
 | owr (e:TypeId) (ks:List CK)
inductive Dx where
 | v (a:AV)
 | rows (nil:Bool) (n:Nat) (cols:List Col)
 | l (l:List Dx)
 | np
 /- which keys are there,and in which row of the columns the value of each lies -/
 | m (p:Int->Bool) (g:Int->Nat) (cols:List Col)
def nmI (n:Nat):Nat:=n
mutual
def canX (nm:Nat->Nat):Sx->Dx->List AO->AV × List AO
 | .sc,d,bl=>match d with | .v a=>(bif scalB a then a else .np,bl) | _=>(.np,bl)
 | .ro e ks,d,bl=>match d with | .rows nil n cols=>(.ysl true nil (nm bl.length) ks.length 0 n,bl ++ [.arr true e ks.length n (colF cols)]) | _=>(.np,bl)
 | .own e ks,d,bl=>match d with | .rows nil n cols=>(.ysl false nil (nm bl.length) ks.length 0 n,bl ++ [.arr false e ks.length n (colF cols)]) | _=>(.np,bl)
 | .ptr t l,d,bl=>match d with | .l ds=>(match canXs nm l ds bl with | (vs,bl1)=>(.ptr (nm bl1.length) 0,bl1 ++ [.cells vs t none])) | _=>(.np,bl)
 | .agg l,d,bl=>match d with | .l ds=>(match canXs nm l ds bl with | (vs,bl1)=>(.agg vs,bl1)) | _=>(.np,bl)
 | .tup l,d,bl=>match d with | .l ds=>(match canXs nm l ds bl with | (vs,bl1)=>(.tup vs,bl1)) | _=>(.np,bl)
 | .fn f l,d,bl=>match d with | .l ds=>(match canXs nm l ds bl with | (vs,bl1)=>(.fn f vs,bl1)) | _=>(.np,bl)
 | .pl ks,d,bl=>match d with | .rows nil n cols=>(.lst false nil ks.length n (colF cols),bl) | _=>(.np,bl)
 | .mut e ks,d,bl=>match d with | .rows nil n cols=>(.ysl false nil (nm bl.length) ks.length 0 n,bl ++ [.arr false e ks.length n (colF cols)]) | _=>(.np,bl)
 | .owr e ks,d,bl=>match d with | .rows nil n cols=>(.yr nil (nm bl.length) ks.length n,bl ++ [.arr false e ks.length n (colF cols)]) | _=>(.np,bl)
 | .mpz k ks,d,bl=>match d with | .m p g cols=>(.mp (nm bl.length),bl ++ [.mapz k ks.length p (λ x=>colF cols (g x))]) | _=>(.np,bl)
def canXs (nm:Nat->Nat):List Sx->List Dx->List AO->List AV × List AO
 | [],_,bl=>([],bl)
 | s :: ss,ds,bl=>match ds with | d :: ds'=>(match canX nm s d bl with | (a,bl1)=>match canXs nm ss ds' bl1 with | (l,bl2)=>(a :: l,bl2)) | []=>([],bl)
end
def idOf (h:AH)(a:AV):Option Nat:=
 match a with
 | .ysl _ _ id _ _ _=>match h.get id with | some _=>some id | none=>none
 | .yr _ id _ _=>match h.get id with | some _=>some id | none=>none
 | .sl id _ _ _ _=>match h.get id with | some _=>some id | none=>none
 | _=>none
mutual
def rdX (h:AH):Sx->AV->T (Dx × List (Option Nat))
 | .sc,a=>bif scalB a then .ret (.v (toY a),[]) else .no
 | .ro e ks,a=>(rdC h (some (e,ks)) a).bind λ d=>match d with
   | .rows nil n cols=>.ret (.rows nil n cols,[idOf h a])
   | _=>.no
 | .own e ks,a=>match a with
   | .ysl false nil id z q n=>match h.get id with
     | some (.arr false e' z2 n2 f)=>bif Nat.beq e e' && Nat.beq z ks.length && Nat.beq z2 ks.length then .must (yNeq q 0) (.must (yNeq n n2) (mustCols n f ks 0 (.ret (.rows nil n (colsOf f ks 0),[some id])))) else .no
     | _=>.no
   | .ns=>.ret (.rows true 0 (emptyCols ks),[none])
   | .ye nil=>.ret (.rows nil 0 (emptyCols ks),[none])
   | .sl id 0 len 0 true=>match h.get id with
     | some (.cells c e' (some z))=>bif Nat.beq e e' && Nat.beq z ks.length && Nat.blt 0 z && Nat.beq c.length (len * z) && Nat.blt 0 len && litOk ks len c then .ret (.rows false len (colsL ks.length c ks 0),[some id]) else .no
     | _=>.no
   | _=>.no
 | .ptr t l,a=>match a with
   | .np=>.ret (.np,[])
   | .ptr id off=>match h.get id with
     | some (.cells cs t' none)=>bif Nat.beq off 0 && Nat.beq t t' then (rdXs h l cs).bind λ p=>.ret (.l p.1,p.2 ++ [some id]) else .no
     | _=>.no
   | _=>.no
 | .agg l,a=>match a with
   | .agg vs=>(rdXs h l vs).bind λ p=>.ret (.l p.1,p.2)
   | _=>.no
 | .tup _,_=>.no
 | .mpz _ _,_=>.no
 | .owr e ks,a=>match a with
   | .yr nil id z n=>match h.get id with
     | some (.arr false e' z2 n2 f)=>bif Nat.beq e e' && Nat.beq z ks.length && Nat.beq z2 ks.length then .must (yNeq n n2) (mustCols n f ks 0 (.ret (.rows nil n (colsOf f ks 0),[some id]))) else .no
     | _=>.no
   | .ns=>.ret (.rows true 0 (emptyCols ks),[none])
   | _=>.no
 | .fn f l,a=>match a with
   | .fn f' vs=>bif Nat.beq f f' then (rdXs h l vs).bind λ p=>.ret (.l p.1,p.2) else .no
   | _=>.no
 | .pl ks,a=>match a with
   | .ysl false nil id z o n=>match h.get id with
     | some (.arr false _ z2 n2 f)=>bif Nat.beq ks.length z && Nat.beq ks.length z2 then .must (yNle (yNadd o n) n2) (mustCols n (shiftF o f) ks 0 (.ret (.rows nil n (colsOf (shiftF o f) ks 0),[]))) else .no
     | _=>.no
   | .sl id off len cap u=>match h.get id with
     | some (.cells c _ g)=>match sliceA c off (len * ks.length) with
       | some l=>bif litOk ks len l && Nat.blt 0 len && roomOk u g ks.length cap len c.length then .ret (.rows false len (colsL ks.length l ks 0),[]) else .no
       | none=>.no
     | _=>.no
   | a=>match lsOf ks.length a with
     | some (nil,n,f)=>mustCols n f ks 0 (.ret (.rows nil n (colsOf f ks 0),[]))
     | none=>.no
 | .mut e ks,a=>match a with
   | .ysl false nil id z q n=>match h.get id with
     | some (.arr false e' z2 n2 f)=>bif Nat.beq e e' && Nat.beq z ks.length && Nat.beq z2 ks.length then .must (yNeq q 0) (.must (yNeq n n2) (mustCols n f ks 0 (.ret (.rows nil n (colsOf f ks 0),[some id])))) else .no
     | _=>.no
   | _=>.no
def rdXs (h:AH):List Sx->List AV->T (List Dx × List (Option Nat))
 | [],vs=>match vs with | []=>.ret ([],[]) | _=>.no
 | s :: ss,vs=>match vs with
   | a :: l=>(rdX h s a).bind λ p=>(rdXs h ss l).bind λ q=>.ret (p.1 :: q.1,p.2 ++ q.2)
   | []=>.no
end
mutual
def lendX (h:AH):Sx->AV->List Nat
 | .pl _,a=>match a with
   | .ysl false _ id _ _ _=>[id]
   | .sl id _ _ _ _=>[id]
   | _=>[]
 | .ptr _ l,a=>match a with
   | .ptr id _=>match h.get id with
     | some (.cells cs _ _)=>lendXs h l cs
     | _=>[]
   | _=>[]
 | .agg l,a=>match a with | .agg vs=>lendXs h l vs | _=>[]
 | .fn _ l,a=>match a with | .fn _ vs=>lendXs h l vs | _=>[]
 | _,_=>[]
def lendXs (h:AH):List Sx->List AV->List Nat
 | [],_=>[]
 | s :: ss,vs=>match vs with
   | a :: l=>lendX h s a ++ lendXs h ss l
   | []=>[]
end
def zL (M:Mp)(w:World)(L:List Nat)(b:Nat):Option (Array Value):=
 match M.z b with
 | some cs=>some cs
 | none=>bif L.any (λ id=>match M id with | some (b',_)=>Nat.beq b b' | none=>false) then cellsW w b else none
theorem zL_le {M:Mp}{w:World}{L:List Nat}{b:Nat}{cs:Array Value}(h:M.z b=some cs):zL M w L b=some cs:=by unfold zL;rw [h]
theorem zL_at {M:Mp}{h:AH}{w:World}{L:List Nat}{id b κ:Nat}{o:AO}{cs:Array Value}{e:TypeId}{fr:Nat × Nat}(r:Rel M h w)(hL:id ∈ L)(hg:h.get id=some o)(hr:o.ro=false)(hM:M id=some (b,κ))(hb:w.heap[b]?=some (.cells cs e fr)):zL M w L b=some cs:=by
 unfold zL
 rw [r.fo id b κ o hg hr hM]
 have:L.any (λ id=>match M id with | some (b',_)=>Nat.beq b b' | none=>false)=true:=List.any_eq_true.2 ⟨id,hL,by rw [hM];simp⟩
 simp only [this,cond_true,cellsW,hb]
theorem zL_inv {M:Mp}{w:World}{L:List Nat}{b:Nat}{cs:Array Value}(h:zL M w L b=some cs):M.z b=some cs ∨ ∃ id κ e fr,id ∈ L/\M id=some (b,κ)/\w.heap[b]?=some (.cells cs e fr):=by
 unfold zL at h
 split at h
 . rename_i cs' hz
   simp only [sI] at h;subst h
   exact .inl hz
 . simp only [Bool.cond_eq_ite] at h
   split at h
   . rename_i ha
     obtain ⟨id,h1,h2⟩:=List.any_eq_true.1 ha
     split at h2
     . rename_i b' κ hM
       obtain rfl:=beqN h2
       unfold cellsW at h
       split at h
       . rename_i cs' e fr hb
         simp only [sI] at h;subst h
         exact .inr ⟨id,κ,e,fr,h1,hM,hb⟩
       . cases h
     . cases h2
   . cases h
def MofZ (Z:Nat->Option (Array Value))(bs:List (Option (Nat × Nat))):Mp:=⟨(Mof bs).f,Z⟩
theorem MofZ_le {Z:Nat->Option (Array Value)}(bs cs:List (Option (Nat × Nat))):Le (MofZ Z bs) (MofZ Z (bs ++ cs)):=⟨(Mof_le bs cs).1,λ _ _ e=>e⟩
theorem zle_of {Z:Nat->Option (Array Value)}{M:Mp}{w:World}{L:List Nat}(hZ:Z=zL M w L)(bs:List (Option (Nat × Nat))):ZLe M (MofZ Z bs):=λ b cs e=>by subst hZ;exact zL_le e
theorem zlat_of {Z:Nat->Option (Array Value)}{M:Mp}{h:AH}{w:World}{L:List Nat}{id b κ:Nat}{o:AO}{cs:Array Value}{e:TypeId}{fr:Nat × Nat}{bs:List (Option (Nat × Nat))}(hZ:Z=zL M w L)(r:Rel M h w)(hL:id ∈ L)(hg:h.get id=some o)(hr:o.ro=false)(hM:M id=some (b,κ))(hb:w.heap[b]?=some (.cells cs e fr)):(MofZ Z bs).z b=some cs:=by
 subst hZ;exact zL_at r hL hg hr hM hb
def BlkX (M:Mp)(h:AH)(w:World)(N:Mp)(ao:AO)(base:Option (Nat × Nat))(idl:Option Nat):Prop:=
 (base=none/\ao.Vac/\(ao.ro=false->∀ id,idl=some id->M id=none)) ∨ (∃ b κ ob id o κ',base=some (b,κ)/\w.heap[b]?=some ob/\ObR N κ ao ob/\idl=some id/\h.get id=some o/\M id=some (b,κ')/\(ao.ro=false->o.ro=false/\κ'=κ)) ∨
   ∃ b κ ob,base=some (b,κ)/\w.heap[b]?=some ob/\ObR N κ ao ob/\idl=none/\ao.ro=true/\∃ cs,M.z b=some cs
def BX (M:Mp)(h:AH)(w:World)(N:Mp):List AO->List (Option (Nat × Nat))->List (Option Nat)->Prop
 | [],bs,is=>bs=[]/\is=[]
 | a :: l,bs,is=>∃ b bs' i is',bs=b :: bs'/\is=i :: is'/\BlkX M h w N a b i/\BX M h w N l bs' is'
section
variable {P : Program} {M : Mp} {h : AH} {w : World} {Z : Nat -> Option (Array Value)} {L : List Nat}
theorem BlkX.mono {N N':Mp}{a:AO}{b:Option (Nat × Nat)}{i:Option Nat}(hl:Le N N')(k:BlkX M h w N a b i):BlkX M h w N' a b i:=by
 rcases k with k | ⟨b,κ,ob,id,o,κ',h1,h2,h3,h4⟩ | ⟨b,κ,ob,h1,h2,h3,h4⟩
 . exact .inl k
 . exact .inr (.inl ⟨b,κ,ob,id,o,κ',h1,h2,ObR.mono hl _ _ h3,h4⟩)
 . exact .inr (.inr ⟨b,κ,ob,h1,h2,ObR.mono hl _ _ h3,h4⟩)
theorem BX.mono {N N':Mp}(hl:Le N N'):∀ {l:List AO} {bs:List (Option (Nat × Nat))} {is:List (Option Nat)},BX M h w N l bs is->BX M h w N' l bs is
 | [],_,_,k=>k
 | _ :: _,_,_,⟨b,bs',i,is',h1,h2,h3,h4⟩=>⟨b,bs',i,is',h1,h2,h3.mono hl,h4.mono hl⟩
theorem BX.app {N:Mp}:∀ {l l2:List AO} {bs bs2:List (Option (Nat × Nat))} {is is2:List (Option Nat)},BX M h w N l bs is->BX M h w N l2 bs2 is2->BX M h w N (l ++ l2) (bs ++ bs2) (is ++ is2)
 | [],l2,bs,bs2,is,is2,k,k2=>by obtain ⟨rfl,rfl⟩:=k;exact k2
 | a :: l,l2,_,_,_,_,⟨b,bs',i,is',rfl,rfl,h3,h4⟩,k2=>⟨b,_,i,_,rfl,rfl,h3,h4.app k2⟩
theorem BX.len {N:Mp}:∀ {l:List AO} {bs:List (Option (Nat × Nat))} {is:List (Option Nat)},BX M h w N l bs is->bs.length=l.length/\is.length=l.length
 | [],_,_,⟨rfl,rfl⟩=>⟨rfl,rfl⟩
 | a :: l,_,_,⟨b,bs',i,is',rfl,rfl,_,h4⟩=>by obtain ⟨h1,h2⟩:=h4.len;exact ⟨by simp [h1],by simp [h2]⟩
theorem BX.get {N:Mp}:∀ {l:List AO} {bs:List (Option (Nat × Nat))} {is:List (Option Nat)} {j:Nat} {a:AO},BX M h w N l bs is->l[j]?=some a->∃ b i,bs[j]?=some b/\is[j]?=some i/\BlkX M h w N a b i
 | [],_,_,j,a,_,e=>by simp at e
 | x :: l,_,_,0,a,⟨b,bs',i,is',rfl,rfl,h3,_⟩,e=>by simp at e;subst e;exact ⟨b,i,rfl,rfl,h3⟩
 | x :: l,_,_,j + 1,a,⟨b,bs',i,is',rfl,rfl,_,h4⟩,e=>by simpa using h4.get (by simpa using e)
theorem Mof_at {bs:List (Option (Nat × Nat))}{o:Option (Nat × Nat)}{n:Nat}(hn:bs.length=n):(MofZ Z (bs ++ [o])) n=o:=by
 subst hn
 unfold MofZ Mof
 simp only
 rw [List.getElem?_append_right (Nat.le_refl _)]
 cases o <;> simp
theorem nthA_none:∀ {l:List AV} {n:Nat},nthA l n=none->l.length<=n
 | [],n,_=>Nat.zero_le _
 | _ :: l,0,h=>by simp [nthA_cons] at h
 | _ :: l,n + 1,h=>Nat.succ_le_succ (nthA_none (l:=l) (by simpa [nthA_cons] using h))
theorem idOf_ok {e:TypeId}{ks:List CK}{a:AV}{d:Dc}{p:Addr}{n k:Nat}(e1:(rdC h (some (e,ks)) a).sel=some d)(hn:n ≠ 0)(ra:a.R M (.slice (some p) n k)):(∃ id o κ,idOf h a=some id/\h.get id=some o/\M id=some (p.block,κ)) ∨ (idOf h a=none/\∃ cs,M.z p.block=some cs):=by
 have fz:(∃ b off c cs,Value.slice (some p) n k=Value.slice (some ⟨b,off,none⟩) n c/\M.z b=some cs)->∃ cs,M.z p.block=some cs:=λ ⟨b,off,c,cs,h1,h2⟩=>by
  simp only [Value.slice.injEq,sI] at h1
  obtain ⟨rfl,_⟩:=h1;exact ⟨cs,h2⟩
 cases a <;> simp only [AV.R,reduceCtorEq,and_false,exists_false] at ra
 case sl id off len cap u=>
  obtain ⟨b,c,hM,hv⟩:=ra
  simp only [Value.slice.injEq,sI] at hv
  obtain ⟨rfl,_⟩:=hv
  cases hg:h.get id with
  | none=>simp [rdC,hg,T.sel] at e1
  | some o=>exact .inl ⟨id,o,c,by simp [idOf,hg],hg,hM⟩
 case jk=>
  exfalso
  revert e1
  simp only [rdC]
  cases flatKs ks <;> (intro e1;cases e1)
 case es=>
  obtain ⟨a,c,hv⟩:=ra
  simp only [Value.slice.injEq] at hv
  exact absurd hv.2.1 hn
 case ysl ro nil id z q m=>
  rcases ra with ⟨_,_,hv⟩ | ⟨_,rfl,a,c,hv,_⟩ | ⟨_,b,κ,c,hM,hv,_⟩
  . cases hv
  . simp only [Value.slice.injEq] at hv;exact absurd hv.2.1 hn
  . simp only [Value.slice.injEq,sI] at hv
    obtain ⟨rfl,_⟩:=hv
    cases hg:h.get id with
    | none=>simp [rdC,hg,T.sel] at e1
    | some o=>exact .inl ⟨id,o,κ,by simp [idOf,hg],hg,hM⟩
 case yr nil id z m=>
  rcases ra with ⟨_,_,hv⟩ | ⟨_,b,κ,c,hM,hv,_⟩
  . cases hv
  . simp only [Value.slice.injEq,sI] at hv
    obtain ⟨rfl,_⟩:=hv
    cases hg:h.get id with
    | none=>simp [rdC,hg,T.sel] at e1
    | some o=>exact .inl ⟨id,o,κ,by simp [idOf,hg],hg,hM⟩
 case ye nil=>
  rcases ra with ⟨_,hv⟩ | ⟨_,a,hv⟩
  . cases hv
  . simp only [Value.slice.injEq] at hv;exact absurd hv.2.1 hn
 case lst x nil z m f=>
  rcases ra with ⟨_,_,hv⟩ | ⟨_,rfl,a,c,hv,_⟩ | ⟨_,_,b,off,c,cs,hv,_,_,hz,_⟩
  . cases hv
  . simp only [Value.slice.injEq] at hv;exact absurd hv.2.1 hn
  . refine .inr ⟨rfl,?_⟩
    simp only [Value.slice.injEq,sI] at hv
    obtain ⟨rfl,_⟩:=hv
    exact ⟨cs,hz⟩
 case lp=>obtain ⟨_,_,_,h,_⟩:=ra;exact h.elim
 case ns=>cases ra
 case o u=>simp [rdC,T.sel] at e1
theorem scalB_toY {a:AV}(h:scalB a=true):scalB (toY a)=true:=by
 cases a <;> simp only [scalB,Bool.false_eq_true] at h <;> rfl
theorem canX_one {a:AV}{ao:AO}{bs:List (Option (Nat × Nat))}{u:Value}{idl:Option Nat}{bl:List AO}(base:Option (Nat × Nat))(hb:BlkX M h w (MofZ Z (bs ++ [base])) ao base idl)(ra:a.R (MofZ Z (bs ++ [base])) u):
 ∃ nb bs',bl ++ [ao]=bl ++ nb/\BX M h w (MofZ Z (bs ++ bs')) nb bs' [idl]/\a.R (MofZ Z (bs ++ bs')) u:=
 ⟨[ao],[base],rfl,⟨base,[],idl,[],rfl,rfl,hb,rfl,rfl⟩,ra⟩
mutual
theorem rdX_ok (rr:Rel M h w)(hZ:Z=zL M w L):∀ (s:Sx) (a:AV) (d:Dx) (is:List (Option Nat)) (u:Value) (bl:List AO) (bs:List (Option (Nat × Nat))),(rdX h s a).sel=some (d,is)->(∀ id ∈ lendX h s a,id ∈ L)->a.R M u->bs.length=bl.length →
 ∃ nb bs',(canX nmI s d bl).2=bl ++ nb/\BX M h w (MofZ Z (bs ++ bs')) nb bs' is/\(canX nmI s d bl).1.R (MofZ Z (bs ++ bs')) u
 | .sc,a,d,is,u,bl,bs,e,hd9,ra,hl=>by
   simp only [rdX,Bool.cond_eq_ite] at e
   split at e
   . rename_i hs
     have e:=T.sel_ret e
     simp only [Prod.mk.injEq] at e
     obtain ⟨rfl,rfl⟩:=e
     exact ⟨[],[],by simp [canX],⟨rfl,rfl⟩,by simp only [canX,scalB_toY hs,cond_true];exact (toY_R hs ra).1⟩
   . cases e
 | .ro et ks,a,d,is,u,bl,bs,e,hd9,ra,hl=>by
   simp only [rdX] at e
   obtain ⟨d0,e1,e⟩:=T.sel_bind_some e
   split at e
   case h_2=>cases e
   rename_i nil n cols
   have e:=T.sel_ret e
   simp only [Prod.mk.injEq] at e
   obtain ⟨rfl,rfl⟩:=e
   have hd:=rdC_ok e1 ra rr
   simp only [canX,nmI]
   rcases hd with ⟨rfl,rfl,rfl⟩ | ⟨rfl,p,k,rfl,hnk,hd⟩
   . exact canX_one none (.inl ⟨rfl,rfl,λ e=>by cases e⟩) (by simp only [AV.R];exact .inl ⟨trivial,trivial,trivial⟩)
   . by_cases hn:n=0
     . subst hn
       exact canX_one none (.inl ⟨rfl,rfl,λ e=>by cases e⟩) (by simp only [AV.R];exact .inr (.inl ⟨trivial,trivial,_,_,rfl,λ e=>by simp at e⟩))
     . rcases hd with hd | ⟨b,off,rfl,cs,e',fr,h1,h2⟩
       . exact absurd hd hn
       . have hbk:BlkX M h w (MofZ Z (bs ++ [some (b,off)])) (.arr true et ks.length n (colF cols)) (some (b,off)) (idOf h a):=by
          have ho:ObR (MofZ Z (bs ++ [some (b,off)])) off (.arr true et ks.length n (colF cols)) (.cells cs e' fr):=⟨cs,e',fr,rfl,λ i hi j hj=>by
           obtain ⟨v,r1,r2,r3⟩:=h2 i hi j hj
           exact ⟨v,r1,r2,AV.R.mono (Le_noM _) _ _ r3⟩⟩
          rcases idOf_ok e1 hn ra with ⟨id,o,κ,q1,q2,q3⟩ | ⟨q1,cs2,q2⟩
          . rw [q1]
            exact .inr (.inl ⟨b,off,_,id,o,κ,rfl,h1,ho,rfl,q2,q3,λ e=>by cases e⟩)
          . rw [q1]
            exact .inr (.inr ⟨b,off,_,rfl,h1,ho,rfl,rfl,cs2,q2⟩)
         refine canX_one (some (b,off)) hbk ?_
         . simp only [AV.R]
           exact .inr (.inr ⟨trivial,b,off,k,Mof_at hl,by simp,hnk,by omega,λ e=>by simp at e⟩)
 | .own et ks,a,d,is,u,bl,bs,e,hd9,ra,hl=>by
   simp only [rdX,colsL_eq] at e
   split at e
   . rename_i nil id z q n
     split at e
     . rename_i e' z2 n2 f hg
       simp only [Bool.cond_eq_ite] at e
       split at e
       . rename_i hc
         simp only [Bool.and_eq_true,nbeq,decide_eq_true_eq] at hc
         obtain ⟨⟨rfl,rfl⟩,rfl⟩:=hc
         obtain ⟨h1,e⟩:=T.sel_must e
         obtain ⟨h2,e⟩:=T.sel_must e
         obtain ⟨h3,e⟩:=mustCols_ok e
         have e:=T.sel_ret e
         simp only [Prod.mk.injEq] at e
         obtain ⟨rfl,rfl⟩:=e
         simp only [yNeq,decide_eq_true_eq] at h1 h2
         subst h1 h2
         simp only [canX,nmI]
         rcases rr.obj id _ hg with ⟨hv,hM⟩ | ⟨b,κ,ob,hM,hb,hob⟩
         . have hv:n=0:=hv
           subst hv
           refine canX_one none (.inl ⟨rfl,rfl,λ _ x e=>by cases e;exact hM⟩) ?_
           simp only [AV.R] at ra ⊢
           rcases ra with ra | ra | ⟨_,b,κ,c,hM2,_⟩
           . exact .inl ra
           . exact .inr (.inl ra)
           . rw [hM] at hM2;cases hM2
         . refine canX_one (some (b,κ)) (.inr (.inl ⟨b,κ,ob,id,_,κ,rfl,hb,?_,rfl,hg,hM,λ _=>⟨rfl,rfl⟩⟩)) ?_
           . obtain ⟨cs,r1,r2,r3,r4⟩:=hob
             refine ⟨cs,r1,r2,r3,λ i hi j hj=>?_⟩
             obtain ⟨v,t1,t2,t3⟩:=r4 i hi j hj
             have:=colsOf_R (M':=MofZ Z (bs ++ [some (b,κ)])) (j0:=0) (.inr (zle_of (M:=M) hZ _)) (h3 i hi) hj (by rw [Nat.zero_add];exact t3)
             exact ⟨v,t1,t2,this.1⟩
           . simp only [AV.R] at ra ⊢
             rcases ra with ra | ra | ⟨r0,b2,κ2,c,hM2,r1⟩
             . exact .inl ra
             . exact .inr (.inl ra)
             . rw [hM] at hM2
               simp only [sI,Prod.mk.injEq] at hM2
               obtain ⟨rfl,rfl⟩:=hM2
               exact .inr (.inr ⟨r0,b,κ,c,Mof_at hl,r1⟩)
       . cases e
     . cases e
   . have e:=T.sel_ret e
     simp only [Prod.mk.injEq] at e
     obtain ⟨rfl,rfl⟩:=e
     simp only [canX,nmI]
     exact canX_one none (.inl ⟨rfl,rfl,λ _ x e=>by cases e⟩) (by simp only [AV.R] at ra ⊢;exact .inl ⟨trivial,trivial,ra⟩)
   . rename_i nil
     have e:=T.sel_ret e
     simp only [Prod.mk.injEq] at e
     obtain ⟨rfl,rfl⟩:=e
     simp only [canX,nmI]
     refine canX_one none (.inl ⟨rfl,rfl,λ _ x e=>by cases e⟩) ?_
     simp only [AV.R] at ra ⊢
     rcases ra with ⟨h1,h2⟩ | ⟨h1,a,h2⟩
     . exact .inl ⟨h1,trivial,h2⟩
     . exact .inr (.inl ⟨h1,trivial,a,0,h2,λ _=>rfl⟩)
   . rename_i id len
     split at e
     . rename_i c e' z hg
       simp only [Bool.cond_eq_ite] at e
       split at e
       . rename_i hc
         simp only [Bool.and_eq_true,nbeq,nblt,decide_eq_true_eq] at hc
         obtain ⟨⟨⟨⟨⟨rfl,rfl⟩,hz⟩,hlen⟩,h0⟩,hlit⟩:=hc
         have e:=T.sel_ret e
         simp only [Prod.mk.injEq] at e
         obtain ⟨rfl,rfl⟩:=e
         simp only [canX,nmI]
         simp only [AV.R] at ra
         obtain ⟨b,κ,hM,rfl⟩:=ra
         obtain ⟨ob,hb,vs,rest,rl,rfl,hκ⟩:=Ob_of rr hg hM
         simp only at hκ
         have hvl:=RL_length rl
         have hle:len<=κ:=by
          have:len * ks.length<=κ * ks.length:=by rw [<- hκ,<- hlen,<- hvl];simp
          exact Nat.le_of_mul_le_mul_right this hz
         refine canX_one (some (b,κ)) (.inr (.inl ⟨b,κ,_,id,_,κ,rfl,hb,?_,rfl,hg,hM,λ _=>⟨rfl,rfl⟩⟩)) ?_
         . refine ⟨(vs ++ rest).toArray,rfl,by simpa using hκ,hle,λ i hi j hj=>?_⟩
           have hrow:=litOk_row hlit i hi
           have hat:i * ks.length + j < vs.length:=by
            rw [hvl,hlen]
            have:(i + 1) * ks.length<=len * ks.length:=Nat.mul_le_mul_right _ hi
            rw [Nat.add_mul] at this;omega
           obtain ⟨v,t1,t2⟩:∃ v,vs[i * ks.length + j]?=some v/\(litF ks.length c i j).R M v:=by
            cases hn:nthA c (i * ks.length + j) with
            | none=>have:=nthA_none hn;omega
            | some x=>
              obtain ⟨v,t1,t2⟩:=nthA_get hn rl
              exact ⟨v,t1,by simp only [litF,hn];exact t2⟩
           have:=colsOf_R (M':=MofZ Z (bs ++ [some (b,κ)])) (j0:=0) (f:=litF ks.length c) (.inr (zle_of (M:=M) hZ _)) hrow hj (by rw [Nat.zero_add];exact t2)
           exact ⟨v,by simp [List.getElem?_append_left hat,t1],this.2,this.1⟩
         . simp only [AV.R]
           exact .inr (.inr ⟨trivial,b,κ,κ,Mof_at hl,by simp,hle,h0,λ _=>⟨by simp,by omega⟩⟩)
       . cases e
     . cases e
   . cases e
 | .ptr t l,a,d,is,u,bl,bs,e,hd9,ra,hl=>by
   simp only [rdX] at e
   split at e
   . have e:=T.sel_ret e
     simp only [Prod.mk.injEq] at e
     obtain ⟨rfl,rfl⟩:=e
     exact ⟨[],[],by simp [canX],⟨rfl,rfl⟩,by simpa only [canX,AV.R] using ra⟩
   . rename_i id off
     split at e
     . rename_i cs t' hg
       simp only [Bool.cond_eq_ite] at e
       split at e
       . rename_i hc
         simp only [Bool.and_eq_true,nbeq,decide_eq_true_eq] at hc
         obtain ⟨rfl,rfl⟩:=hc
         obtain ⟨⟨ds,is1⟩,e1,e⟩:=T.sel_bind_some e
         have e:=T.sel_ret e
         simp only [Prod.mk.injEq] at e
         obtain ⟨rfl,rfl⟩:=e
         simp only [AV.R] at ra
         obtain ⟨b,κ,hM,rfl⟩:=ra
         obtain ⟨ob,hb,vs,rest,rl,rfl,rfl⟩:=Ob_of rr hg hM
         obtain ⟨nb,bs',q1,q2,q3⟩:=rdXs_ok rr hZ l cs ds is1 vs bl bs e1 (by simpa only [lendX,hg] using hd9) rl hl
         have hlen:=q2.len
         have hl2:(bs ++ bs').length=(bl ++ nb).length:=by simp [hl,hlen.1]
         refine ⟨nb ++ [.cells (canXs nmI l ds bl).1 t none],bs' ++ [some (b,κ)],?_,?_,?_⟩
         . simp only [canX];rw [q1];simp
         . rw [<- List.append_assoc]
           refine (q2.mono (MofZ_le _ _)).app ⟨_,_,_,_,rfl,rfl,.inr (.inl ⟨b,κ,_,id,_,κ,rfl,hb,?_,rfl,hg,hM,λ _=>⟨rfl,rfl⟩⟩),rfl,rfl⟩
           exact ⟨vs,[],AV.RL.mono (MofZ_le _ _) _ _ q3,rfl,rfl⟩
         . rw [<- List.append_assoc]
           simp only [canX,AV.R]
           rw [q1]
           exact ⟨b,κ,Mof_at hl2,rfl⟩
       . cases e
     . cases e
   . cases e
 | .agg l,a,d,is,u,bl,bs,e,hd9,ra,hl=>by
   simp only [rdX] at e
   split at e
   . rename_i vs
     obtain ⟨⟨ds,is1⟩,e1,e⟩:=T.sel_bind_some e
     have e:=T.sel_ret e
     simp only [Prod.mk.injEq] at e
     obtain ⟨rfl,rfl⟩:=e
     simp only [AV.R] at ra
     obtain ⟨us,rl,rfl⟩:=ra
     obtain ⟨nb,bs',q1,q2,q3⟩:=rdXs_ok rr hZ l vs ds is1 us bl bs e1 (by simpa only [lendX] using hd9) rl hl
     exact ⟨nb,bs',by simpa only [canX] using q1,q2,by simp only [canX,AV.R];exact ⟨us,q3,rfl⟩⟩
   . cases e
 | .tup l,a,d,is,u,bl,bs,e,hd9,ra,hl=>by simp only [rdX] at e;cases e
 | .mpz _ _,a,d,is,u,bl,bs,e,hd9,ra,hl=>by simp only [rdX] at e;cases e
 | .fn f l,a,d,is,u,bl,bs,e,hd9,ra,hl=>by
   simp only [rdX] at e
   split at e
   . rename_i f' vs
     simp only [Bool.cond_eq_ite,nbeq,decide_eq_true_eq] at e
     split at e
     case isFalse=>cases e
     rename_i hf
     subst hf
     obtain ⟨⟨ds,is1⟩,e1,e⟩:=T.sel_bind_some e
     have e:=T.sel_ret e
     simp only [Prod.mk.injEq] at e
     obtain ⟨rfl,rfl⟩:=e
     simp only [AV.R] at ra
     obtain ⟨us,rl,rfl⟩:=ra
     obtain ⟨nb,bs',q1,q2,q3⟩:=rdXs_ok rr hZ l vs ds is1 us bl bs e1 (by simpa only [lendX] using hd9) rl hl
     exact ⟨nb,bs',by simpa only [canX] using q1,q2,by simp only [canX,AV.R];exact ⟨us,q3,rfl⟩⟩
   . cases e
 | .pl ks,a,d,is,u,bl,bs,e,hd9,ra,hl=>by
   have hzl:ZLe M (MofZ Z (bs ++ [])):=zle_of hZ _
   have fin:∀ {nil:Bool} {n:Nat} {f:Nat->Nat->AV},(∀ i,i < n->rowOk (f i) ks 0=true)->(d,is)=(Dx.rows nil n (colsOf f ks 0),[])->(AV.lst false nil ks.length n (λ i j=>(colF (colsOf f ks 0) i j))).R (MofZ Z (bs ++ [])) u →
    ∃ nb bs',(canX nmI (.pl ks) d bl).2=bl ++ nb/\BX M h w (MofZ Z (bs ++ bs')) nb bs' is/\(canX nmI (.pl ks) d bl).1.R (MofZ Z (bs ++ bs')) u:=λ {nil n f} hro he r=>by
    simp only [Prod.mk.injEq] at he
    obtain ⟨rfl,rfl⟩:=he
    exact ⟨[],[],by simp [canX],⟨rfl,rfl⟩,by simpa only [canX] using r⟩
   simp only [rdX,colsL_eq] at e
   split at e
   . rename_i nil id z o n
     split at e
     case h_2=>cases e
     rename_i e' z2 n2 f hg
     simp only [Bool.cond_eq_ite] at e
     split at e
     case isFalse=>cases e
     rename_i hc
     simp only [Bool.and_eq_true,nbeq,decide_eq_true_eq] at hc
     obtain ⟨rfl,rfl⟩:=hc
     obtain ⟨h1,e⟩:=T.sel_must e
     obtain ⟨h2,e⟩:=mustCols_ok e
     have e:=T.sel_ret e
     have h1:o + n<=n2:=of_decide_eq_true h1
     refine fin h2 e.symm ?_
     have hL:id ∈ L:=hd9 id (by simp [lendX])
     simp only [AV.R] at ra ⊢
     rcases ra with ra | ⟨r1,r2,a,c,rfl,_⟩ | ⟨r1,b,κ,c,hM,rfl,r2,r3,_⟩
     . exact .inl ra
     . exact .inr (.inl ⟨r1,r2,a,c,rfl,λ e=>by cases e⟩)
     . obtain ⟨ob,hb,cs,rfl,_,_,q⟩:=Ob_of rr hg hM
       refine .inr (.inr ⟨r1,r3,b,_,c,cs,rfl,r2,(λ e=>by cases e),zlat_of hZ rr hL hg rfl hM hb,λ i hi j hj=>?_⟩)
       obtain ⟨v,q1,q2,q3⟩:=q (o + i) (by omega) j hj
       have:=colsOf_R (M':=MofZ Z (bs ++ [])) (j0:=0) (.inr hzl) (h2 i hi) hj (by rw [shiftF_eq,Nat.zero_add];exact q3)
       refine ⟨v,?_,this.2,this.1⟩
       rw [<- q1];congr 1;simp only [Bool.false_eq_true,if_false,Nat.add_mul];omega
   . rename_i id off len cap un
     split at e
     case h_2=>cases e
     rename_i c et g hg
     split at e
     case h_2=>cases e
     rename_i l hsl
     simp only [Bool.cond_eq_ite] at e
     split at e
     case isFalse=>cases e
     rename_i hc
     simp only [Bool.and_eq_true,nblt,decide_eq_true_eq] at hc
     obtain ⟨⟨hlit,hl0⟩,hroom⟩:=hc
     have e:=T.sel_ret e
     refine fin (litOk_row hlit) e.symm ?_
     have hL:id ∈ L:=hd9 id (by simp [lendX])
     simp only [AV.R] at ra ⊢
     obtain ⟨b,κ,hM,rfl⟩:=ra
     obtain ⟨ob,hb,vs,rest,rl,rfl,hκ⟩:=Ob_of rr hg hM
     have hvl:=RL_length rl
     obtain ⟨e1,e2⟩:=sliceA_eq hsl
     have rl2:AV.RL M l ((vs.drop off).take (len * ks.length)):=by rw [e1];exact RL_take _ (RL_drop _ rl)
     have hln:l.length=len * ks.length:=by rw [e1];simp;omega
     have hroom2:len<=(if un=true then κ - cap else cap):=by
      unfold roomOk at hroom
      cases un with
      | false=>simpa [nble] using hroom
      | true=>
        simp only at hroom
        cases g with
        | none=>cases hroom
        | some z'=>
          simp only [Bool.and_eq_true,nbeq,nblt,nble,decide_eq_true_eq] at hroom
          obtain ⟨⟨hz1,hz⟩,hle⟩:=hroom
          subst hz1
          simp only at hκ
          have:(cap + len) * ks.length<=κ * ks.length:=by
           rw [<- hκ];refine Nat.le_trans hle ?_;rw [<- hvl];simp
          have:=Nat.le_of_mul_le_mul_right this hz
          simp only [if_true];omega
     refine .inr (.inr ⟨trivial,hl0,b,off,_,_,rfl,hroom2,(λ e=>by cases e),zlat_of hZ rr hL hg rfl hM hb,λ i hi j hj=>?_⟩)
     have hp:=place_lt hi hj
     obtain ⟨a,ha⟩:=nthA_lt (l:=l) (k:=i * ks.length + j) (by omega)
     obtain ⟨v,q1,q2⟩:=nthA_get ha rl2
     have:=colsOf_R (M:=M) (M':=MofZ Z (bs ++ [])) (j0:=0) (f:=litF ks.length l) (.inr hzl) (litOk_row hlit i hi) hj (show (litF ks.length l i (0 + j)).R M v by rw [Nat.zero_add];simp only [litF,ha];exact q2)
     refine ⟨v,?_,this.2,this.1⟩
     rw [List.getElem?_take,if_pos hp,List.getElem?_drop] at q1
     have hlt:=(List.getElem?_eq_some_iff.1 q1).1
     rw [List.getElem?_toArray,Nat.add_assoc,List.getElem?_append_left hlt];exact q1
   . split at e
     case h_2=>cases e
     rename_i nil n f hls
     obtain ⟨h2,e⟩:=mustCols_ok e
     have e:=T.sel_ret e
     refine fin h2 e.symm ?_
     exact (lst_can hzl (λ i hi j hj u ru=>(colsOf_R (j0:=0) (.inr hzl) (h2 i hi) hj (by rw [Nat.zero_add];exact ru)).1) (lsOf_R hls ra)).1
 | .mut et ks,a,d,is,u,bl,bs,e,hd9,ra,hl=>by
   simp only [rdX] at e
   split at e
   . rename_i nil id z q n
     split at e
     . rename_i e' z2 n2 f hg
       simp only [Bool.cond_eq_ite] at e
       split at e
       . rename_i hc
         simp only [Bool.and_eq_true,nbeq,decide_eq_true_eq] at hc
         obtain ⟨⟨rfl,rfl⟩,rfl⟩:=hc
         obtain ⟨h1,e⟩:=T.sel_must e
         obtain ⟨h2,e⟩:=T.sel_must e
         obtain ⟨h3,e⟩:=mustCols_ok e
         have e:=T.sel_ret e
         simp only [Prod.mk.injEq] at e
         obtain ⟨rfl,rfl⟩:=e
         simp only [yNeq,decide_eq_true_eq] at h1 h2
         subst h1 h2
         simp only [canX,nmI]
         rcases rr.obj id _ hg with ⟨hv,hM⟩ | ⟨b,κ,ob,hM,hb,hob⟩
         . have hv:n=0:=hv
           subst hv
           refine canX_one none (.inl ⟨rfl,rfl,λ _ x e=>by cases e;exact hM⟩) ?_
           simp only [AV.R] at ra ⊢
           rcases ra with ra | ra | ⟨_,b,κ,c,hM2,_⟩
           . exact .inl ra
           . exact .inr (.inl ra)
           . rw [hM] at hM2;cases hM2
         . refine canX_one (some (b,κ)) (.inr (.inl ⟨b,κ,ob,id,_,κ,rfl,hb,?_,rfl,hg,hM,λ _=>⟨rfl,rfl⟩⟩)) ?_
           . obtain ⟨cs,r1,r2,r3,r4⟩:=hob
             refine ⟨cs,r1,r2,r3,λ i hi j hj=>?_⟩
             obtain ⟨v,t1,t2,t3⟩:=r4 i hi j hj
             have:=colsOf_R (M':=MofZ Z (bs ++ [some (b,κ)])) (j0:=0) (.inr (zle_of (M:=M) hZ _)) (h3 i hi) hj (by rw [Nat.zero_add];exact t3)
             exact ⟨v,t1,t2,this.1⟩
           . simp only [AV.R] at ra ⊢
             rcases ra with ra | ra | ⟨r0,b2,κ2,c,hM2,r1⟩
             . exact .inl ra
             . exact .inr (.inl ra)
             . rw [hM] at hM2
               simp only [sI,Prod.mk.injEq] at hM2
               obtain ⟨rfl,rfl⟩:=hM2
               exact .inr (.inr ⟨r0,b,κ,c,Mof_at hl,r1⟩)
       . cases e
     . cases e
   . cases e
 | .owr et ks,a,d,is,u,bl,bs,e,hd9,ra,hl=>by
   simp only [rdX] at e
   split at e
   . rename_i nil id z n
     split at e
     . rename_i e' z2 n2 f hg
       simp only [Bool.cond_eq_ite] at e
       split at e
       . rename_i hc
         simp only [Bool.and_eq_true,nbeq,decide_eq_true_eq] at hc
         obtain ⟨⟨rfl,rfl⟩,rfl⟩:=hc
         obtain ⟨h2,e⟩:=T.sel_must e
         obtain ⟨h3,e⟩:=mustCols_ok e
         have e:=T.sel_ret e
         simp only [Prod.mk.injEq] at e
         obtain ⟨rfl,rfl⟩:=e
         simp only [yNeq,decide_eq_true_eq] at h2
         subst h2
         simp only [canX,nmI]
         rcases rr.obj id _ hg with ⟨hv,hM⟩ | ⟨b,κ,ob,hM,hb,hob⟩
         . have hv:n=0:=hv
           subst hv
           refine canX_one none (.inl ⟨rfl,rfl,λ _ x e=>by cases e;exact hM⟩) ?_
           simp only [AV.R] at ra ⊢
           rcases ra with ra | ⟨_,b,κ,c,hM2,_⟩
           . exact .inl ra
           . rw [hM] at hM2;cases hM2
         . refine canX_one (some (b,κ)) (.inr (.inl ⟨b,κ,ob,id,_,κ,rfl,hb,?_,rfl,hg,hM,λ _=>⟨rfl,rfl⟩⟩)) ?_
           . obtain ⟨cs,r1,r2,r3,r4⟩:=hob
             refine ⟨cs,r1,r2,r3,λ i hi j hj=>?_⟩
             obtain ⟨v,t1,t2,t3⟩:=r4 i hi j hj
             have:=colsOf_R (M':=MofZ Z (bs ++ [some (b,κ)])) (j0:=0) (.inr (zle_of (M:=M) hZ _)) (h3 i hi) hj (by rw [Nat.zero_add];exact t3)
             exact ⟨v,t1,t2,this.1⟩
           . simp only [AV.R] at ra ⊢
             rcases ra with ra | ⟨r0,b2,κ2,c,hM2,r1⟩
             . exact .inl ra
             . rw [hM] at hM2
               simp only [sI,Prod.mk.injEq] at hM2
               obtain ⟨rfl,rfl⟩:=hM2
               exact .inr ⟨r0,b,κ,c,Mof_at hl,r1⟩
       . cases e
     . cases e
   . have e:=T.sel_ret e
     simp only [Prod.mk.injEq] at e
     obtain ⟨rfl,rfl⟩:=e
     simp only [canX,nmI]
     exact canX_one none (.inl ⟨rfl,rfl,λ _ x e=>by cases e⟩) (by simp only [AV.R] at ra ⊢;exact .inl ⟨trivial,trivial,ra⟩)
   . cases e
theorem rdXs_ok (rr:Rel M h w)(hZ:Z=zL M w L):∀ (ss:List Sx) (vs:List AV) (ds:List Dx) (is:List (Option Nat)) (us:List Value) (bl:List AO) (bs:List (Option (Nat × Nat))),(rdXs h ss vs).sel=some (ds,is)->(∀ id ∈ lendXs h ss vs,id ∈ L)->AV.RL M vs us->bs.length=bl.length →
 ∃ nb bs',(canXs nmI ss ds bl).2=bl ++ nb/\BX M h w (MofZ Z (bs ++ bs')) nb bs' is/\AV.RL (MofZ Z (bs ++ bs')) (canXs nmI ss ds bl).1 us
 | [],vs,ds,is,us,bl,bs,e,hd9,ra,hl=>by
   simp only [rdXs] at e
   split at e
   . have e:=T.sel_ret e
     simp only [Prod.mk.injEq] at e
     obtain ⟨rfl,rfl⟩:=e
     exact ⟨[],[],by simp [canXs],⟨rfl,rfl⟩,ra⟩
   . cases e
 | s :: ss,vs,ds,is,us,bl,bs,e,hd9,ra,hl=>by
   simp only [rdXs] at e
   split at e
   . rename_i a l
     obtain ⟨⟨d,i1⟩,e1,e⟩:=T.sel_bind_some e
     obtain ⟨⟨ds',i2⟩,e2,e⟩:=T.sel_bind_some e
     have e:=T.sel_ret e
     simp only [Prod.mk.injEq] at e
     obtain ⟨rfl,rfl⟩:=e
     simp only [AV.RL] at ra
     obtain ⟨v,vs',r1,r2,rfl⟩:=ra
     obtain ⟨nb1,bs1,q1,q2,q3⟩:=rdX_ok rr hZ s a d i1 v bl bs e1 (λ id hi=>hd9 id (by simp only [lendXs];exact List.mem_append_left _ hi)) r1 hl
     have hlen:=q2.len
     obtain ⟨nb2,bs2,p1,p2,p3⟩:=rdXs_ok rr hZ ss l ds' i2 vs' (bl ++ nb1) (bs ++ bs1) e2 (λ id hi=>hd9 id (by simp only [lendXs];exact List.mem_append_right _ hi)) r2 (by simp [hl,hlen.1])
     refine ⟨nb1 ++ nb2,bs1 ++ bs2,?_,?_,?_⟩
     . simp only [canXs];rw [q1,p1,List.append_assoc]
     . rw [<- List.append_assoc];exact (q2.mono (MofZ_le _ _)).app p2
     . rw [<- List.append_assoc]
       simp only [canXs,AV.RL]
       rw [q1]
       exact ⟨v,vs',AV.R.mono (MofZ_le _ _) _ _ q3,p3,rfl⟩
   . cases e
end
end
def memI (id:Nat):List (Option Nat)->Bool
 | []=>false
 | i :: is=>(match i with | some j=>Nat.beq id j | none=>false) || memI id is
def memO (id:Nat):List AO->List (Option Nat)->Bool
 | a :: l,i :: is=>(!a.ro && (match i with | some j=>Nat.beq id j | none=>false)) || memO id l is
 | _,_=>false
def okIds:List AO->List (Option Nat)->Bool
 | a :: l,i :: is=>(match i with | none=>true | some id=>bif a.ro then !memO id l is else !memI id is) && okIds l is
 | _,_=>true
theorem memI_at {id:Nat}:∀ {is:List (Option Nat)} {j:Nat},is[j]?=some (some id)->memI id is=true
 | [],j,h=>by simp at h
 | i :: is,0,h=>by simp at h;subst h;simp [memI]
 | i :: is,j + 1,h=>by simp only [memI,Bool.or_eq_true];exact .inr (memI_at (by simpa using h))
theorem memO_at {id:Nat}:∀ {l:List AO} {is:List (Option Nat)} {j:Nat} {a:AO},l[j]?=some a->is[j]?=some (some id)->a.ro=false->memO id l is=true
 | [],is,j,a,h,_,_=>by simp at h
 | _ :: _,[],j,a,_,h,_=>by simp at h
 | x :: l,i :: is,0,a,h,h2,h3=>by simp at h h2;subst h h2;simp [memO,h3]
 | x :: l,i :: is,j + 1,a,h,h2,h3=>by simp only [memO,Bool.or_eq_true];exact .inr (memO_at (by simpa using h) (by simpa using h2) h3)
theorem okIds_inj {id:Nat}:∀ {l:List AO} {is:List (Option Nat)} {i j:Nat} {a b:AO},okIds l is=true->l[i]?=some a->is[i]?=some (some id)->l[j]?=some b->is[j]?=some (some id)->a.ro=false->i=j
 | [],is,i,j,a,b,_,h,_,_,_,_=>by simp at h
 | _ :: _,[],i,j,a,b,_,_,h,_,_,_=>by simp at h
 | x :: l,y :: is,i,j,a,b,ok,h1,h2,h3,h4,hr=>by
   simp only [okIds,Bool.and_eq_true] at ok
   cases i with
   | zero=>
     cases j with
     | zero=>rfl
     | succ j=>
       simp at h1 h2 h3 h4;subst h1 h2
       have:=ok.1
       simp only [hr,cond_false,memI_at h4,Bool.not_true,Bool.false_eq_true] at this
   | succ i=>
     cases j with
     | zero=>
       simp at h1 h2 h3 h4;subst h3 h4
       have:=ok.1
       cases hx:x.ro with
       | true=>simp only [hx,cond_true,memO_at h1 h2 hr,Bool.not_true,Bool.false_eq_true] at this
       | false=>simp only [hx,cond_false,memI_at h2,Bool.not_true,Bool.false_eq_true] at this
     | succ j=>exact congrArg Nat.succ (okIds_inj (id:=id) (l:=l) (is:=is) (a:=a) (b:=b) ok.2 (by simpa using h1) (by simpa using h2) (by simpa using h3) (by simpa using h4) hr)
def okLend (bl:List AO)(is:List (Option Nat))(h:AH):List Nat->Bool
 | []=>true
 | id :: l=>(match h.get id with | some o=>!o.ro | none=>false) && !memO id bl is && okLend bl is h l
theorem okLend_at {bl:List AO}{is:List (Option Nat)}{h:AH}:∀ {L:List Nat},okLend bl is h L=true->∀ id ∈ L,(∃ o,h.get id=some o/\o.ro=false)/\memO id bl is=false
 | [],_,id,hi=>by simp at hi
 | x :: l,ok,id,hi=>by
   simp only [okLend,Bool.and_eq_true,Bool.not_eq_true'] at ok
   rcases List.mem_cons.1 hi with rfl | hi
   . refine ⟨?_,ok.1.2⟩
     have h1:=ok.1.1
     split at h1
     . rename_i o ho;exact ⟨o,ho,by simpa using h1⟩
     . cases h1
   . exact okLend_at ok.2 id hi
section
variable {M : Mp} {h : AH} {w : World} {Z : Nat -> Option (Array Value)} {L : List Nat}
theorem heapOf_relX (hZ:Z=zL M w L){bl:List AO}{bs:List (Option (Nat × Nat))}{is:List (Option Nat)}(k:BX M h w (MofZ Z bs) bl bs is)(ok:okIds bl is=true)(okl:okLend bl is h L=true)(rr:Rel M h w)(hl:bl.length < 4294967296):Rel (MofZ Z bs) (heapOf bl) w/\FreshA (MofZ Z bs) (heapOf bl).nx:=by
 have key:∀ id o,(heapOf bl).get id=some o->∃ b i,bs[id]?=some b/\is[id]?=some i/\bl[id]?=some o/\BlkX M h w (MofZ Z bs) o b i:=λ id o e=>by
  rw [heapOf_get hl] at e
  obtain ⟨b,i,h1,h2,h3⟩:=k.get e
  exact ⟨b,i,h1,h2,e,h3⟩
 have hM:∀ id b,bs[id]?=some b->MofZ Z bs id=b:=λ id b e=>by unfold MofZ Mof;simp only [e];cases b <;> rfl
 refine ⟨⟨λ id o e=>?_,λ i j b κ κ' o hi hr hj e1 e2=>?_,λ x hx=>?_,rr.gw,λ x b κ o hx hro e=>?_,λ b cs e=>?_,λ i b κ o hi hr e=>?_⟩,λ id hid=>?_⟩
 . obtain ⟨b,i,h1,_,_,h2⟩:=key id o e
   rcases h2 with ⟨rfl,h3,_⟩ | ⟨bk,κ,ob,_,_,_,rfl,h3,h4,_⟩ | ⟨bk,κ,ob,rfl,h3,h4,_⟩
   . exact .inl ⟨h3,hM _ _ h1⟩
   . exact .inr ⟨bk,κ,ob,hM _ _ h1,h3,h4⟩
   . exact .inr ⟨bk,κ,ob,hM _ _ h1,h3,h4⟩
 . obtain ⟨b1,i1,h1,h2,h3,h4⟩:=key i o hi
   cases hjj:(heapOf bl).get j with
   | none=>exact absurd hjj hj
   | some oj=>
     obtain ⟨b2,i2,g1,g2,g3,g4⟩:=key j oj hjj
     rw [hM _ _ h1] at e1
     rw [hM _ _ g1] at e2
     subst e1 e2
     rcases h4 with ⟨e,_⟩ | ⟨_,_,_,id1,o1,κ1,e,_,_,rfl,t1,t2,t3⟩ | ⟨_,_,_,_,_,_,_,t1,_⟩
     . cases e
     rotate_left
     . rw [hr] at t1;cases t1
     . rcases g4 with ⟨e',_⟩ | ⟨_,_,_,id2,o2,κ2,e',_,_,rfl,u1,u2,_⟩ | ⟨_,_,_,e',_,_,_,_,cs,u2⟩
       . cases e'
       rotate_left
       . simp only [sI,Prod.mk.injEq] at e e'
         obtain ⟨rfl,rfl⟩:=e
         obtain ⟨rfl,rfl⟩:=e'
         have:=rr.fo id1 b κ1 o1 t1 (t3 hr).1 t2
         rw [this] at u2;cases u2
       . simp only [sI,Prod.mk.injEq] at e e'
         obtain ⟨rfl,rfl⟩:=e
         obtain ⟨rfl,rfl⟩:=e'
         have:=rr.inj id1 id2 b _ _ o1 t1 (t3 hr).1 (by rw [u1];simp) t2 u2
         subst this
         exact okIds_inj ok h3 h2 g3 g2 hr
 . rw [heapOf_get hl] at hx
   show x < bl.length
   cases hh:bl[x]? with
   | none=>exact absurd hh hx
   | some _=>exact (List.getElem?_eq_some_iff.1 hh).1
 . obtain ⟨b',i,h1,_,_,h2⟩:=key x o hx
   rw [hM _ _ h1] at e
   subst e
   rcases h2 with ⟨e,_⟩ | ⟨_,_,_,id1,o1,κ1,e,_,_,_,t1,t2,t3⟩ | ⟨_,_,_,_,_,_,_,t,_⟩
   . cases e
   . simp only [sI,Prod.mk.injEq] at e
     obtain ⟨rfl,rfl⟩:=e
     exact rr.gf id1 b κ1 o1 t1 (t3 hro).1 t2
   . rw [t] at hro;cases hro
 . subst hZ
   rcases zL_inv e with e | ⟨id,κ,t,fr,h1,h2,h3⟩
   . exact rr.fz b cs e
   . obtain ⟨⟨o,h4,h5⟩,_⟩:=okLend_at okl id h1
     exact ⟨t,fr,h3⟩
 . obtain ⟨b1,i1,h1,h2,h3,h4⟩:=key i o hi
   rw [hM _ _ h1] at e
   subst e
   rcases h4 with ⟨e,_⟩ | ⟨_,_,_,id1,o1,κ1,e,_,_,rfl,t1,t2,t3⟩ | ⟨_,_,_,_,_,_,_,t1,_⟩
   . cases e
   . simp only [sI,Prod.mk.injEq] at e
     obtain ⟨rfl,rfl⟩:=e
     show Z b=none
     cases hz:Z b with
     | none=>rfl
     | some cs=>
       exfalso
       subst hZ
       rcases zL_inv hz with e | ⟨id,κ',t,fr,g1,g2,g3⟩
       . have:=rr.fo id1 b κ1 o1 t1 (t3 hr).1 t2
         rw [this] at e;cases e
       . obtain ⟨⟨o4,g4,g5⟩,g6⟩:=okLend_at okl id g1
         have:=rr.inj id id1 b _ _ o4 g4 g5 (by rw [t1];simp) g2 t2
         subst this
         rw [memO_at h3 h2 hr] at g6;cases g6
   . rw [hr] at t1;cases t1
 . have hid:bl.length<=id:=hid
   unfold MofZ Mof
   simp only
   rw [List.getElem?_eq_none (by rw [k.len.1];exact hid)]
theorem ownX {bl:List AO}{bs:List (Option (Nat × Nat))}{is:List (Option Nat)}(k:BX M h w (MofZ Z bs) bl bs is)(hl:bl.length < 4294967296){b:Nat}(ho:OwnP (MofZ Z bs) (heapOf bl) b):
 ∃ (i:Nat) (a:AO) (id:Nat) (o:AO) (κ:Nat),bl[i]?=some a/\a.ro=false/\is[i]?=some (some id)/\h.get id=some o/\o.ro=false/\M id=some (b,κ):=by
 obtain ⟨i,κ,a,h1,h2,h3⟩:=ho
 rw [heapOf_get hl] at h1
 obtain ⟨b',idl,g1,g2,g3⟩:=k.get h1
 unfold MofZ Mof at h3
 simp only [g1] at h3
 rcases g3 with ⟨rfl,_⟩ | ⟨_,_,_,id,o,κ',rfl,_,_,rfl,t1,t2,t3⟩ | ⟨_,_,_,_,_,_,_,t1,_⟩
 . cases h3
 rotate_left
 . rw [h2] at t1;cases t1
 . simp only [sI,Prod.mk.injEq] at h3
   obtain ⟨rfl,rfl⟩:=h3
   exact ⟨i,a,id,o,κ',h1,h2,g2,t1,(t3 h2).1,t2⟩
end
section
variable {N N' : Mp} {c : Col}
def SH (N N':Mp)(a a':AO):Prop:=a'.ro=a.ro/\(a.Vac->a'.Vac)/\∀ κ ob,ObR N κ a ob->ObR N' κ a' ob
def SHL (N N':Mp)(l l':List AO):Prop:=l.length=l'.length/\∀ (j:Nat) (a:AO),l[j]?=some a->∃ a',l'[j]?=some a'/\SH N N' a a'
theorem SHL.snoc {l l':List AO}{a a':AO}(h:SHL N N' l l')(k:SH N N' a a'):SHL N N' (l ++ [a]) (l' ++ [a']):=by
 refine ⟨by simp [h.1],λ j x hj=>?_⟩
 rw [List.getElem?_append] at hj ⊢
 rw [<- h.1]
 split at hj
 . rename_i hlt;rw [if_pos hlt];exact h.2 j x hj
 . rename_i hlt
   rw [if_neg hlt]
   have:j - l.length=0:=by
    have:=(List.getElem?_eq_some_iff.1 hj).1
    simp at this;omega
   rw [this] at hj ⊢
   simp at hj;subst hj
   exact ⟨a',rfl,k⟩
def flatC (c:Col):Bool:=match c with | .ls _ _ _=>false | _=>true
def flatCs:List Col->Bool
 | []=>true
 | c :: l=>flatC c && flatCs l
mutual
def flatX:Sx->Dx->Bool
 | .sc,_=>true
 | .ro _ _,d=>match d with | .rows _ _ cols=>flatCs cols | _=>true
 | .own _ _,d=>match d with | .rows _ _ cols=>flatCs cols | _=>true
 | .ptr _ l,d=>match d with | .l ds=>flatXs l ds | _=>true
 | .agg l,d=>match d with | .l ds=>flatXs l ds | _=>true
 | .tup l,d=>match d with | .l ds=>flatXs l ds | _=>true
 | .fn _ l,d=>match d with | .l ds=>flatXs l ds | _=>true
 | .pl _,_=>false
 | .mut _ _,d=>match d with | .rows _ _ cols=>flatCs cols | _=>true
 | .mpz _ _,d=>match d with | .m _ _ cols=>flatCs cols | _=>true
 | .owr _ _,d=>match d with | .rows _ _ cols=>flatCs cols | _=>true
def flatXs:List Sx->List Dx->Bool
 | [],_=>true
 | s :: ss,ds=>match ds with | d :: ds'=>flatX s d && flatXs ss ds' | []=>true
end
theorem cl2_sc:∀ {l:List Cl2} {i p j:Nat} {v:Value},(cl2F l i p j).R N v->(cl2F l i p j).R N' v
 | [],_,_,_,_,r=>r
 | c :: l,i,p,0,v,r=>by cases c <;> exact r
 | c :: l,i,p,j + 1,v,r=>cl2_sc (l:=l) r
theorem col_sc (hz:ZLe N N' ∨ flatC c=true){i:Nat}{v:Value}(r:(Col.at c i).R N v):(Col.at c i).R N' v:=by
 cases c with
 | ls nil n l=>
   rcases hz with hz | hz
   . exact (lst_can hz (λ _ _ _ _ _ r=>cl2_sc r) r).1
   . cases hz
 | int=>exact r
 | bool=>exact r
 | str=>exact r
theorem cols_sc:∀ {l:List Col},(ZLe N N' ∨ flatCs l=true)->∀ {i j:Nat} {v:Value},(colF l i j).R N v->(colF l i j).R N' v
 | [],_,_,_,_,r=>r
 | c :: l,hz,i,j,v,r=>by
   have hz1:ZLe N N' ∨ flatC c=true:=hz.imp id (λ e=>by simp only [flatCs,Bool.and_eq_true] at e;exact e.1)
   have hz2:ZLe N N' ∨ flatCs l=true:=hz.imp id (λ e=>by simp only [flatCs,Bool.and_eq_true] at e;exact e.2)
   cases j with
   | zero=>exact col_sc hz1 r
   | succ j=>exact cols_sc hz2 (j:=j) r
theorem SH_map {k:IntKind}{z:Nat}{p:Int->Bool}{g:Int->Nat}{cols:List Col}(hz:ZLe N N' ∨ flatCs cols=true):SH N N' (.mapz k z p (λ x=>colF cols (g x))) (.mapz k z p (λ x=>colF cols (g x))):=by
 refine ⟨rfl,λ h=>h,λ κ ob h=>?_⟩
 obtain ⟨l,ck,e,r⟩:=h
 exact ⟨l,ck,e,⟨λ x hx=>by
  obtain ⟨n,vs,q1,q2,q3,q4,q5⟩:=r.ent x hx
  exact ⟨n,vs,q1,q2,q3,λ j hj=>by
   obtain ⟨v,x1,x2,x3⟩:=q4 j hj
   exact ⟨v,x1,x2,cols_sc hz x3⟩,q5⟩,r.has,r.one⟩⟩
theorem SH_arr {ro:Bool}{e:TypeId}{z n:Nat}{cols:List Col}(hz:ZLe N N' ∨ flatCs cols=true):SH N N' (.arr ro e z n (colF cols)) (.arr ro e z n (colF cols)):=by
 refine ⟨rfl,λ h=>h,λ κ ob h=>?_⟩
 cases ro with
 | true=>
   obtain ⟨cs,e,fr,h1,h2⟩:=h
   exact ⟨cs,e,fr,h1,λ i hi j hj=>by obtain ⟨v,q1,q2,q3⟩:=h2 i hi j hj;exact ⟨v,q1,q2,cols_sc hz q3⟩⟩
 | false=>
   obtain ⟨cs,h1,h2,h3,h4⟩:=h
   exact ⟨cs,h1,h2,h3,λ i hi j hj=>by obtain ⟨v,q1,q2,q3⟩:=h4 i hi j hj;exact ⟨v,q1,q2,cols_sc hz q3⟩⟩
mutual
theorem canX_le (x:Nat->Nat):∀ (s:Sx) (d:Dx) (bl:List AO),bl.length<=(canX x s d bl).2.length
 | .sc,d,bl=>by simp only [canX];split <;> exact Nat.le_refl _
 | .ro _ _,d,bl=>by simp only [canX];split <;> simp
 | .own _ _,d,bl=>by simp only [canX];split <;> simp
 | .ptr t l,d,bl=>by
   simp only [canX]
   split
   . rename_i ds
     have:=canXs_le x l ds bl
     simp only [List.length_append];omega
   . exact Nat.le_refl _
 | .agg l,d,bl=>by
   simp only [canX]
   split
   . rename_i ds;exact canXs_le x l ds bl
   . exact Nat.le_refl _
 | .tup l,d,bl=>by
   simp only [canX]
   split
   . rename_i ds;exact canXs_le x l ds bl
   . exact Nat.le_refl _
 | .fn f l,d,bl=>by
   simp only [canX]
   split
   . rename_i ds;exact canXs_le x l ds bl
   . exact Nat.le_refl _
 | .pl _,d,bl=>by simp only [canX];split <;> exact Nat.le_refl _
 | .mut _ _,d,bl=>by simp only [canX];split <;> simp
 | .mpz _ _,d,bl=>by simp only [canX];split <;> simp
 | .owr _ _,d,bl=>by simp only [canX];split <;> simp
theorem canXs_le (x:Nat->Nat):∀ (ss:List Sx) (ds:List Dx) (bl:List AO),bl.length<=(canXs x ss ds bl).2.length
 | [],ds,bl=>by simp [canXs]
 | s :: ss,ds,bl=>by
   simp only [canXs]
   split
   . rename_i d ds'
     exact Nat.le_trans (canX_le x s d bl) (canXs_le x ss ds' _)
   . exact Nat.le_refl _
end
end
end Go.Proofs.Ytknfdbilpfblnaa.Ex
end
