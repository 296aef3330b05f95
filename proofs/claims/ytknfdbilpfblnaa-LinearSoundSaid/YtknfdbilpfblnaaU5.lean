/- The texts Wn, Wo, Wl, Sb, Wp, Ar, CPairs, CEqual, CSame, CGn, CHc, CHcOk, CHx, CBk, CEs, CRo, CRk, CFu, CPr, CPut, CDrop, CWithin, Isr, CMd, CMe, CMf, CAf, CDa, CDt, CCt: Walks by symbols: contracts of functions that hand back blocks of their own, and turn what is theirs. Walks by symbols: a contract whose walk meets its conditions holds. Laws: what came in, as .. -/
import Derived.Deep.Slices
import Derived.Below
import Derived.Test.YtknfdbilpfblnaaProg
import Derived.WalkKit
import Derived.BigQuiet
import Derived.Deep.QuietTactic
import Derived.Deep.LoopGhost
import Derived.Lib.SmallJoins
import Derived.Deep.RegionHeld3
import Derived.Deep.RegionWith
import Derived.Lib.Hide
import Derived.Laws.CopyOwn
import Derived.Laws.Externs
import Derived.Lib.Overlaps
import Derived.Lib.AppendZerosOnto
import Derived.Lib.SliceRun
import Derived.Deep.RegionLaw
import Derived.Deep.AppendLies
import Derived.OrdersHeld
import Derived.Test.YtknfdbilpfblnaaU4
set_option linter.all false
set_option maxRecDepth 100000
section
noncomputable section
namespace Go.Proofs.Ytknfdbilpfblnaa.Ex
open Go
section
variable {N N' : Mp}
mutual
theorem canX_shift {L:Nat}{x1 x2:Nat->Nat}(hN:∀ j p,j < L->N (x1 j)=some p->N' (x2 j)=some p):∀ (s:Sx) (d:Dx) (b1 b2:List AO),(ZLe N N' ∨ flatX s d=true)->(canX x1 s d b1).2.length<=L->SHL N N' b1 b2->SHL N N' (canX x1 s d b1).2 (canX x2 s d b2).2/\∀ u,(canX x1 s d b1).1.R N u->(canX x2 s d b2).1.R N' u
 | .sc,d,b1,b2,hz,hL,hs=>by
   simp only [canX] at hL ⊢
   cases d <;> simp only [] at hL ⊢
   case v a=>
    refine ⟨hs,λ u r=>?_⟩
    cases hb:scalB a with
    | true=>rw [hb] at r;exact (scalB_R hb r).1
    | false=>rw [hb] at r;exact r
   all_goals exact ⟨hs,λ u r=>r⟩
 | .ro e ks,d,b1,b2,hz,hL,hs=>by
   simp only [canX] at hL ⊢
   cases d <;> simp only [] at hL ⊢
   case rows nil n cols=>
    refine ⟨hs.snoc (SH_arr (hz.imp id (λ e=>by simpa only [flatX] using e))),λ u r=>?_⟩
    simp only [List.length_append,List.length_singleton] at hL
    simp only [AV.R] at r ⊢
    rcases r with r | r | ⟨h1,b,κ,c,hM,r⟩
    . exact .inl r
    . exact .inr (.inl r)
    . exact .inr (.inr ⟨h1,b,κ,c,by rw [<- hs.1];exact hN _ _ (by omega) hM,r⟩)
   all_goals exact ⟨hs,λ u r=>r⟩
 | .own e ks,d,b1,b2,hz,hL,hs=>by
   simp only [canX] at hL ⊢
   cases d <;> simp only [] at hL ⊢
   case rows nil n cols=>
    refine ⟨hs.snoc (SH_arr (hz.imp id (λ e=>by simpa only [flatX] using e))),λ u r=>?_⟩
    simp only [List.length_append,List.length_singleton] at hL
    simp only [AV.R] at r ⊢
    rcases r with r | r | ⟨h1,b,κ,c,hM,r⟩
    . exact .inl r
    . exact .inr (.inl r)
    . exact .inr (.inr ⟨h1,b,κ,c,by rw [<- hs.1];exact hN _ _ (by omega) hM,r⟩)
   all_goals exact ⟨hs,λ u r=>r⟩
 | .ptr t l,d,b1,b2,hz,hL,hs=>by
   simp only [canX] at hL ⊢
   cases d <;> simp only [] at hL ⊢
   case l ds=>
    simp only [List.length_append,List.length_singleton] at hL
    obtain ⟨h1,h2⟩:=canXs_shift hN l ds b1 b2 (hz.imp id (λ e=>by simpa only [flatX] using e)) (by omega) hs
    refine ⟨h1.snoc ⟨rfl,λ h=>h,λ κ ob h=>?_⟩,λ u r=>?_⟩
    . obtain ⟨vs,rest,r1,r2⟩:=h
      exact ⟨vs,rest,h2 _ r1,r2⟩
    . simp only [AV.R] at r ⊢
      obtain ⟨b,c,hM,r⟩:=r
      exact ⟨b,c,by rw [<- h1.1];exact hN _ _ (by omega) hM,r⟩
   all_goals exact ⟨hs,λ u r=>r⟩
 | .agg l,d,b1,b2,hz,hL,hs=>by
   simp only [canX] at hL ⊢
   cases d <;> simp only [] at hL ⊢
   case l ds=>
    obtain ⟨h1,h2⟩:=canXs_shift hN l ds b1 b2 (hz.imp id (λ e=>by simpa only [flatX] using e)) hL hs
    refine ⟨h1,λ u r=>?_⟩
    simp only [AV.R] at r ⊢
    obtain ⟨vs,r1,r2⟩:=r
    exact ⟨vs,h2 _ r1,r2⟩
   all_goals exact ⟨hs,λ u r=>r⟩
 | .tup l,d,b1,b2,hz,hL,hs=>by
   simp only [canX] at hL ⊢
   cases d <;> simp only [] at hL ⊢
   case l ds=>
    obtain ⟨h1,h2⟩:=canXs_shift hN l ds b1 b2 (hz.imp id (λ e=>by simpa only [flatX] using e)) hL hs
    refine ⟨h1,λ u r=>?_⟩
    simp only [AV.R] at r ⊢
    obtain ⟨vs,r1,r2⟩:=r
    exact ⟨vs,h2 _ r1,r2⟩
   all_goals exact ⟨hs,λ u r=>r⟩
 | .fn f l,d,b1,b2,hz,hL,hs=>by
   simp only [canX] at hL ⊢
   cases d <;> simp only [] at hL ⊢
   case l ds=>
    obtain ⟨h1,h2⟩:=canXs_shift hN l ds b1 b2 (hz.imp id (λ e=>by simpa only [flatX] using e)) hL hs
    refine ⟨h1,λ u r=>?_⟩
    simp only [AV.R] at r ⊢
    obtain ⟨vs,r1,r2⟩:=r
    exact ⟨vs,h2 _ r1,r2⟩
   all_goals exact ⟨hs,λ u r=>r⟩
 | .pl ks,d,b1,b2,hz,hL,hs=>by
   simp only [canX] at hL ⊢
   cases d <;> simp only [] at hL ⊢
   case rows nil n cols=>
    refine ⟨hs,λ u r=>?_⟩
    rcases hz with hz | hz
    . exact (lst_can hz (λ _ _ _ _ _ r=>cols_sc (.inl hz) r) r).1
    . simp [flatX] at hz
   all_goals exact ⟨hs,λ u r=>r⟩
 | .mut e ks,d,b1,b2,hz,hL,hs=>by
   simp only [canX] at hL ⊢
   cases d <;> simp only [] at hL ⊢
   case rows nil n cols=>
    refine ⟨hs.snoc (SH_arr (hz.imp id (λ e=>by simpa only [flatX] using e))),λ u r=>?_⟩
    simp only [List.length_append,List.length_singleton] at hL
    simp only [AV.R] at r ⊢
    rcases r with r | r | ⟨h1,b,κ,c,hM,r⟩
    . exact .inl r
    . exact .inr (.inl r)
    . exact .inr (.inr ⟨h1,b,κ,c,by rw [<- hs.1];exact hN _ _ (by omega) hM,r⟩)
   all_goals exact ⟨hs,λ u r=>r⟩
 | .owr e ks,d,b1,b2,hz,hL,hs=>by
   simp only [canX] at hL ⊢
   cases d <;> simp only [] at hL ⊢
   case rows nil n cols=>
    refine ⟨hs.snoc (SH_arr (hz.imp id (λ e=>by simpa only [flatX] using e))),λ u r=>?_⟩
    simp only [List.length_append,List.length_singleton] at hL
    simp only [AV.R] at r ⊢
    rcases r with r | ⟨h1,b,κ,c,hM,r⟩
    . exact .inl r
    . exact .inr ⟨h1,b,κ,c,by rw [<- hs.1];exact hN _ _ (by omega) hM,r⟩
   all_goals exact ⟨hs,λ u r=>r⟩
 | .mpz k ks,d,b1,b2,hz,hL,hs=>by
   simp only [canX] at hL ⊢
   cases d <;> simp only [] at hL ⊢
   case m p g cols=>
    refine ⟨hs.snoc (SH_map (hz.imp id (λ e=>by simpa only [flatX] using e))),λ u r=>?_⟩
    simp only [List.length_append,List.length_singleton] at hL
    simp only [AV.R] at r ⊢
    obtain ⟨b,c,hM,r⟩:=r
    exact ⟨b,c,by rw [<- hs.1];exact hN _ _ (by omega) hM,r⟩
   all_goals exact ⟨hs,λ u r=>r⟩
theorem canXs_shift {L:Nat}{x1 x2:Nat->Nat}(hN:∀ j p,j < L->N (x1 j)=some p->N' (x2 j)=some p):∀ (ss:List Sx) (ds:List Dx) (b1 b2:List AO),(ZLe N N' ∨ flatXs ss ds=true)->(canXs x1 ss ds b1).2.length<=L->SHL N N' b1 b2->SHL N N' (canXs x1 ss ds b1).2 (canXs x2 ss ds b2).2/\∀ us,AV.RL N (canXs x1 ss ds b1).1 us->AV.RL N' (canXs x2 ss ds b2).1 us
 | [],ds,b1,b2,hz,hL,hs=>by simp only [canXs];exact ⟨hs,λ us r=>r⟩
 | s :: ss,ds,b1,b2,hz,hL,hs=>by
   simp only [canXs] at hL ⊢
   cases ds with
   | nil=>exact ⟨hs,λ us r=>r⟩
   | cons d ds'=>
     simp only at hL ⊢
     obtain ⟨h1,h2⟩:=canX_shift hN s d b1 b2 (hz.imp id (λ e=>by simp only [flatXs,Bool.and_eq_true] at e;exact e.1)) (Nat.le_trans (canXs_le x1 ss ds' _) hL) hs
     obtain ⟨h3,h4⟩:=canXs_shift hN ss ds' _ _ (hz.imp id (λ e=>by simp only [flatXs,Bool.and_eq_true] at e;exact e.2)) hL h1
     refine ⟨h3,λ us r=>?_⟩
     simp only [AV.RL] at r ⊢
     obtain ⟨v,vs,r1,r2,r3⟩:=r
     exact ⟨v,vs,h2 _ r1,h4 _ r2,r3⟩
end
end
inductive Px where
 | st (t:TypeId) (l:List Sx)
 | ar (e:TypeId) (ks:List CK)
def flatS:List Sx->Bool
 | []=>true
 | s :: l=>(match s with | .sc=>true | .pl _=>true | _=>false) && flatS l
def ptrSh:List Sx->List Dx->List Px
 | [],_=>[]
 | s :: ss,ds=>match ds with
   | []=>[]
   | d :: ds'=>match s,d with
     | .ptr t l,.l _=>.st t l :: ptrSh ss ds'
     | .mut e ks,.rows _ _ _=>.ar e ks :: ptrSh ss ds'
     /- a closure's box: it goes on -/
     | .fn _ [.ptr t l],.l [.l _]=>bif flatS l then .st t l :: ptrSh ss ds' else ptrSh ss ds'
     | _,_=>ptrSh ss ds'
def ptrId:List Sx->List AV->List Nat
 | [],_=>[]
 | s :: ss,vs=>match vs with
   | []=>[]
   | a :: l=>match s,a with
     | .ptr _ _,.ptr id _=>id :: ptrId ss l
     | .mut _ _,.ysl _ _ id _ _ _=>id :: ptrId ss l
     | .fn _ [.ptr _ k],.fn _ [.ptr id _]=>bif flatS k then id :: ptrId ss l else ptrId ss l
     | _,_=>ptrId ss l
def expP (x0:Nat->Nat):List Px->List (List Dx)->List AO->List AO × List AO
 | [],_,bl=>([],bl)
 | p :: ps,dss,bl=>match dss with
   | []=>([],bl)
   | ds :: dss'=>match p with
     | .st t l=>match canXs x0 l ds bl with | (vs,bl1)=>match expP x0 ps dss' bl1 with | (cs,bl2)=>(.cells vs t none :: cs,bl2)
     | .ar e ks=>match expP x0 ps dss' bl with | (cs,bl2)=>((match ds with | [.rows _ n cols]=>.arr false e ks.length n (colF cols) | _=>.arr true e ks.length 0 (colF [])) :: cs,bl2)
def expR (x0:Nat->Nat)(ps:List Px)(rs:Sx)(r:Dx)(post:List (List Dx)):AV × List AO × List AO:=
 match expP x0 ps post [] with
 | (cs,bl1)=>match canX x0 rs r bl1 with | (v,bl2)=>(v,cs,bl2)
def numR:Nat->List AO->List (Nat × AO)->List (Nat × AO)
 | _,[],acc=>acc
 | k,a :: l,acc=>numR (Nat.succ k) l ((k,a) :: acc)
def delX:Nat->List AO->List Nat->List Nat
 | _,[],_=>[]
 | k,a :: l,ps=>bif a.ro || memN k ps then delX (Nat.succ k) l ps else k :: delX (Nat.succ k) l ps
def remX:List AO->List (Option Nat)->List Nat->List Nat
 | a :: l,i :: is,ps=>match i with
   | some id=>bif a.ro || memN id ps then remX l is ps else id :: remX l is ps
   | none=>remX l is ps
 | _,_,_=>[]
def linkB (bl:List AO)(is:List (Option Nat))(h:AH):List Nat->List Nat->Bool
 | [],ps=>match ps with | []=>true | _=>false
 | c :: cs,ps=>match ps with
   | p :: ps'=>(match is[c]? with | some (some q)=>Nat.beq q p | _=>false) && (match bl[c]? with | some a=>!a.ro | none=>false) && (match h.get p with | some _=>true | none=>false) && linkB bl is h cs ps'
   | []=>false
def postX (k:Nat)(del pids:List Nat)(E:AV × List AO × List AO)(v:AV)(h:AH):Prop:=
 match E with
 | (c,cs,bl)=>cmpV k h c v [] λ ρ=>cmpHs k h (pids.zip cs ++ numR k bl []) ρ λ ρ=>(okR k (k + bl.length) del ρ && okFz h ρ)=true
def allOwn:List AO->Bool
 | []=>true
 | a :: l=>!a.ro && allOwn l
def heapX (h:AH)(rem pids:List Nat)(cs nb:List AO):AH:=
 ⟨setQs (setQs (setQs h.t (rem.map λ d=>(d,none))) ((pids.zip cs).map λ p=>(p.1,some p.2))) (numL h.nx nb),h.nx + nb.length,h.bs,filtLt h.bs (rem ++ pids) ++ h.wl⟩
def flatP:List Px->List (List Dx)->Bool
 | [],_=>true
 | p :: ps,dss=>match dss with
   | ds :: dss'=>(match p with | .st _ l=>flatXs l ds | .ar _ _=>match ds with | [.rows _ _ cols]=>flatCs cols | _=>true) && flatP ps dss'
   | []=>true
def ctX (ss:List Sx)(rs:Sx)(F:List Dx->Option (Bool × Dx × List (List Dx)))(args:List AV)(h:AH):T (AV × AH):=
 (rdXs h ss args).bind λ (ds,is)=>match F ds with
   | some (pre,r,post)=>match canXs nmI ss ds [] with
     | (cargs,bl)=>match expR (λ j=>h.nx + j) (ptrSh ss ds) rs r post with
       | (v,cs,nb)=>match lendXs h ss args with
         | L=>match (bif flatP (ptrSh ss ds) post && flatX rs r then ([]:List Nat) else L) with
           | LR=>bif okIds bl is && linkB bl is h (ptrId ss cargs) (ptrId ss args) && Nat.beq cs.length (ptrId ss args).length && nodupB (ptrId ss args) && allLt h.nx (remX bl is (ptrId ss args) ++ LR) && allLt h.nx (ptrId ss args) && Nat.blt (h.nx + nb.length) 4294967296 && Nat.blt (bl.length + nb.length) 4294967296 && allOwn nb && allOwn cs && okLend bl is h L then
              .must pre (.ret (v,heapX h (remX bl is (ptrId ss args) ++ LR) (ptrId ss args) cs nb))
             else .no
   | none=>.no
theorem zip_fst_full {α:Type}:∀ {l:List Nat} {k:List α},k.length=l.length->(l.zip k).map (·.1)=l
 | [],_,_=>rfl
 | x :: l,[],h=>by simp at h
 | x :: l,y :: k,h=>by simp only [List.zip_cons_cons,List.map_cons];rw [zip_fst_full (by simpa using h)]
theorem heapX_get {h:AH}{rem pids:List Nat}{cs nb:List AO}(h1:∀ x ∈ rem,x < h.nx)(h2:∀ x ∈ pids,x < h.nx)(h3:pids.Nodup)(h4:cs.length=pids.length)(h5:h.nx + nb.length < 4294967296):
 (∀ (j:Nat) (c:AO),nb[j]?=some c->(heapX h rem pids cs nb).get (h.nx + j)=some c)/\(∀ q c,(q,c) ∈ pids.zip cs->(heapX h rem pids cs nb).get q=some c) ∧
   (∀ q,q ∈ rem->q ∉ pids->(heapX h rem pids cs nb).get q=none)/\(∀ q,¬ (h.nx<=q/\q < h.nx + nb.length)->q ∉ pids->q ∉ rem->(heapX h rem pids cs nb).get q=h.get q):=by
 have e0:∀ q,(heapX h rem pids cs nb).get q=if h.nx<=q/\q < h.nx + nb.length then nb[q - h.nx]? else (setQs (setQs h.t (rem.map λ d=>(d,none))) ((pids.zip cs).map λ p=>(p.1,some p.2))).get (q + 1):=λ q=>numL_get q (by omega) _
 have hmap:((pids.zip cs).map λ p=>(p.1,some p.2)).map (·.1)=pids:=by
  rw [List.map_map]
  exact zip_fst_full h4
 have hlt:∀ p ∈ (pids.zip cs).map λ p=>(p.1,some p.2),p.1 < 4294967296:=λ p hp=>by
  have:p.1 ∈ pids:=by rw [<- hmap];exact List.mem_map_of_mem hp
  have:=h2 _ this;omega
 refine ⟨λ j c hj=>?_,λ q c hq=>?_,λ q hq hn=>?_,λ q hn hp hr=>?_⟩
 . have:=(List.getElem?_eq_some_iff.1 hj).1
   rw [e0,if_pos ⟨by omega,by omega⟩,Nat.add_sub_cancel_left];exact hj
 . have hm:q ∈ pids:=(List.of_mem_zip hq).1
   have:=h2 _ hm
   rw [e0,if_neg (by omega)]
   exact setQs_eq hlt (by rw [hmap];exact h3) q _ (List.mem_map.2 ⟨(q,c),hq,rfl⟩)
 . have:=h1 _ hq
   rw [e0,if_neg (by omega),setQs_ne hlt q (by rw [hmap];exact hn)]
   exact setQs_map (g:=λ _=>none) (λ p hp=>by have:=h1 _ hp;omega) q hq
 . rw [e0,if_neg hn,setQs_ne hlt q (by rw [hmap];exact hp),setQs_ne (λ p hp=>by
    obtain ⟨x,hx,rfl⟩:=List.mem_map.1 hp
    have:=h1 _ hx
    show x < _
    omega) q (by rw [List.map_map];simpa using hr)]
   rfl
theorem numR_mem:∀ {k:Nat} {l:List AO} {acc:List (Nat × AO)},(∀ x ∈ acc,x ∈ numR k l acc)/\∀ (j:Nat) (c:AO),l[j]?=some c->(k + j,c) ∈ numR k l acc
 | k,[],acc=>⟨λ x h=>h,λ j c h=>by simp at h⟩
 | k,a :: l,acc=>by
   obtain ⟨h1,h2⟩:=numR_mem (k:=Nat.succ k) (l:=l) (acc:=(k,a) :: acc)
   refine ⟨λ x hx=>h1 x (by simp [hx]),λ j c hj=>?_⟩
   cases j with
   | zero=>simp at hj;subst hj;exact h1 _ (by simp)
   | succ j=>have:=h2 j c (by simpa using hj);rwa [show Nat.succ k + j=k + (j + 1) by omega] at this
theorem remX_mem:∀ {l:List AO} {is:List (Option Nat)} {ps:List Nat},(∀ x ∈ remX l is ps,x ∉ ps/\∃ (j:Nat) (a:AO),l[j]?=some a/\is[j]?=some (some x)/\a.ro=false)/\∀ (j:Nat) (a:AO) (x:Nat),l[j]?=some a->is[j]?=some (some x)->a.ro=false->x ∉ ps->x ∈ remX l is ps
 | [],is,ps=>⟨λ x h=>by simp [remX] at h,λ j a x h=>by simp at h⟩
 | _ :: _,[],ps=>⟨λ x h=>by simp [remX] at h,λ j a x _ h=>by simp at h⟩
 | a :: l,i :: is,ps=>by
   obtain ⟨h1,h2⟩:=remX_mem (l:=l) (is:=is) (ps:=ps)
   have up:∀ x,(x ∉ ps/\∃ (j:Nat) (a:AO),l[j]?=some a/\is[j]?=some (some x)/\a.ro=false)->x ∉ ps/\∃ (j:Nat) (b:AO),(a :: l)[j]?=some b/\(i :: is)[j]?=some (some x)/\b.ro=false:=λ x ⟨q1,j,b,q2,q3,q4⟩=>⟨q1,j + 1,b,by simpa using q2,by simpa using q3,q4⟩
   cases i with
   | none=>
     refine ⟨λ x hx=>up x (h1 x hx),λ j b x hj hi hr hn=>?_⟩
     cases j with
     | zero=>simp at hi
     | succ j=>exact h2 j b x (by simpa using hj) (by simpa using hi) hr hn
   | some id=>
     simp only [remX,Bool.cond_eq_ite]
     split
     . rename_i hc
       refine ⟨λ x hx=>up x (h1 x hx),λ j b x hj hi hr hn=>?_⟩
       cases j with
       | zero=>
         simp at hj hi;subst hj hi
         simp only [hr,Bool.false_or] at hc
         exact absurd (memN_iff.1 hc) hn
       | succ j=>exact h2 j b x (by simpa using hj) (by simpa using hi) hr hn
     . rename_i hc
       simp only [Bool.or_eq_true,not_or,Bool.not_eq_true] at hc
       refine ⟨λ x hx=>?_,λ j b x hj hi hr hn=>?_⟩
       . rcases List.mem_cons.1 hx with rfl | hx
         . exact ⟨(λ hp=>by rw [memN_iff.2 hp] at hc;cases hc.2),0,a,rfl,rfl,hc.1⟩
         . exact up x (h1 x hx)
       . cases j with
         | zero=>simp at hj hi;subst hi;simp
         | succ j=>exact List.mem_cons_of_mem _ (h2 j b x (by simpa using hj) (by simpa using hi) hr hn)
theorem linkB_at {bl:List AO}{is:List (Option Nat)}{h:AH}:∀ {cs ps:List Nat},linkB bl is h cs ps=true->cs.length=ps.length/\∀ (j c p:Nat),cs[j]?=some c->ps[j]?=some p->is[c]?=some (some p)/\(∃ a,bl[c]?=some a/\a.ro=false)/\∃ o,h.get p=some o
 | [],[],_=>⟨rfl,λ j c p h=>by simp at h⟩
 | [],_ :: _,e=>by simp [linkB] at e
 | c :: cs,[],e=>by simp [linkB] at e
 | c :: cs,p :: ps,e=>by
   simp only [linkB,Bool.and_eq_true] at e
   obtain ⟨⟨⟨e1,e2⟩,e3⟩,e4⟩:=e
   obtain ⟨q1,q2⟩:=linkB_at e4
   refine ⟨by simp [q1],λ j c' p' hc hp=>?_⟩
   cases j with
   | zero=>
     simp at hc hp;subst hc hp
     refine ⟨?_,?_,?_⟩
     . split at e1
       . rename_i q hq;rw [<- beqN e1];exact hq
       . cases e1
     . split at e2
       . rename_i a ha;exact ⟨a,ha,by simpa using e2⟩
       . cases e2
     . split at e3
       . rename_i o ho;exact ⟨o,ho⟩
       . cases e3
   | succ j=>exact q2 j c' p' (by simpa using hc) (by simpa using hp)
theorem allOwn_at:∀ {l:List AO} {j:Nat} {a:AO},allOwn l=true->l[j]?=some a->a.ro=false
 | [],j,a,_,h=>by simp at h
 | x :: l,0,a,h,e=>by simp at e;subst e;simp only [allOwn,Bool.and_eq_true,Bool.not_eq_true'] at h;exact h.1
 | x :: l,j + 1,a,h,e=>by simp only [allOwn,Bool.and_eq_true] at h;exact allOwn_at h.2 (by simpa using e)
theorem delX_mem:∀ {l:List AO} {k:Nat} {ps:List Nat},∀ x ∈ delX k l ps,x ∉ ps
 | [],k,ps,x,h=>by simp [delX] at h
 | a :: l,k,ps,x,h=>by
   simp only [delX,Bool.cond_eq_ite] at h
   split at h
   . exact delX_mem x h
   . rename_i hc
     simp only [Bool.or_eq_true,not_or,Bool.not_eq_true] at hc
     rcases List.mem_cons.1 h with rfl | h
     . exact λ hp=>by rw [memN_iff.2 hp] at hc;cases hc.2
     . exact delX_mem x h
section
variable {N N' : Mp}
theorem expP_le (x:Nat->Nat):∀ (ps:List Px) (dss:List (List Dx)) (bl:List AO),bl.length<=(expP x ps dss bl).2.length
 | [],_,_=>Nat.le_refl _
 | .st _ _ :: _,[],_=>Nat.le_refl _
 | .ar _ _ :: _,[],_=>Nat.le_refl _
 | .st t l :: ps,ds :: dss,bl=>Nat.le_trans (canXs_le x l ds bl) (expP_le x ps dss _)
 | .ar e ks :: ps,ds :: dss,bl=>expP_le x ps dss bl
theorem SHL.cons {l l':List AO}{a a':AO}(k:SH N N' a a')(h:SHL N N' l l'):SHL N N' (a :: l) (a' :: l'):=by
 refine ⟨by simp [h.1],λ j x hj=>?_⟩
 cases j with
 | zero=>simp at hj;subst hj;exact ⟨a',rfl,k⟩
 | succ j=>simpa using h.2 j x (by simpa using hj)
theorem SHL.nil:SHL N N' [] []:=⟨rfl,λ j a h=>by simp at h⟩
theorem expP_shift {L:Nat}{x1 x2:Nat->Nat}(hN:∀ j p,j < L->N (x1 j)=some p->N' (x2 j)=some p):∀ (ps:List Px) (dss:List (List Dx)) (b1 b2:List AO),(ZLe N N' ∨ flatP ps dss=true)->(expP x1 ps dss b1).2.length<=L->SHL N N' b1 b2 →
 SHL N N' (expP x1 ps dss b1).2 (expP x2 ps dss b2).2/\SHL N N' (expP x1 ps dss b1).1 (expP x2 ps dss b2).1
 | [],dss,b1,b2,hz,hL,hs=>⟨hs,SHL.nil⟩
 | .st _ _ :: ps,[],b1,b2,hz,hL,hs=>⟨hs,SHL.nil⟩
 | .ar _ _ :: ps,[],b1,b2,hz,hL,hs=>⟨hs,SHL.nil⟩
 | .st t l :: ps,ds :: dss,b1,b2,hz,hL,hs=>by
   have hL:(expP x1 ps dss (canXs x1 l ds b1).2).2.length<=L:=hL
   obtain ⟨h1,h2⟩:=canXs_shift hN l ds b1 b2 (hz.imp id (λ e=>by simp only [flatP,Bool.and_eq_true] at e;exact e.1)) (Nat.le_trans (expP_le x1 ps dss _) hL) hs
   obtain ⟨h3,h4⟩:=expP_shift hN ps dss _ _ (hz.imp id (λ e=>by simp only [flatP,Bool.and_eq_true] at e;exact e.2)) hL h1
   refine ⟨h3,SHL.cons ⟨rfl,λ h=>h,λ κ ob h=>?_⟩ h4⟩
   obtain ⟨vs,rest,r1,r2⟩:=h
   exact ⟨vs,rest,h2 _ r1,r2⟩
 | .ar e ks :: ps,ds :: dss,b1,b2,hz,hL,hs=>by
   have hL:(expP x1 ps dss b1).2.length<=L:=hL
   obtain ⟨h3,h4⟩:=expP_shift hN ps dss _ _ (hz.imp id (λ e=>by simp only [flatP,Bool.and_eq_true] at e;exact e.2)) hL hs
   refine ⟨h3,SHL.cons ?_ h4⟩
   have hz1:=hz.imp id (λ e=>by simp only [flatP,Bool.and_eq_true] at e;exact e.1)
   clear hz
   split
   . exact SH_arr (hz1.imp id (λ e=>by simpa using e))
   . exact SH_arr (.inr rfl)
theorem expR_shift {L:Nat}{x1 x2:Nat->Nat}{ps:List Px}{rs:Sx}{r:Dx}{post:List (List Dx)}(hN:∀ j p,j < L->N (x1 j)=some p->N' (x2 j)=some p)(hz:ZLe N N' ∨ (flatP ps post && flatX rs r)=true)(hL:(expR x1 ps rs r post).2.2.length<=L):
 SHL N N' (expR x1 ps rs r post).2.2 (expR x2 ps rs r post).2.2/\SHL N N' (expR x1 ps rs r post).2.1 (expR x2 ps rs r post).2.1/\∀ u,(expR x1 ps rs r post).1.R N u->(expR x2 ps rs r post).1.R N' u:=by
 have hL:(canX x1 rs r (expP x1 ps post []).2).2.length<=L:=hL
 obtain ⟨h1,h2⟩:=expP_shift hN ps post [] [] (hz.imp id (λ e=>by simp only [Bool.and_eq_true] at e;exact e.1)) (Nat.le_trans (canX_le x1 rs r _) hL) SHL.nil
 obtain ⟨h3,h4⟩:=canX_shift hN rs r _ _ (hz.imp id (λ e=>by simp only [Bool.and_eq_true] at e;exact e.2)) hL h1
 exact ⟨h3,h2,h4⟩
end
section
variable {P : Program} {sm : FuncId -> Option Sm}
set_option maxHeartbeats 1000000 in
theorem ctX_lit (hm:P.follows .mixedOrders=true)(hs:SmOK P sm){ss:List Sx}{rs:Sx}{F:List Dx->Option (Bool × Dx × List (List Dx))}{f:FuncId}
 (hw:∀ ds r post,F ds=some (true,r,post)->∃ ds2 ann n,(∀ (M:Mp) us,AV.RL M (canXs nmI ss ds []).1 us->AV.RL M (canXs nmI ss ds2 []).1 us)/\wxF P sm ann n f (canXs nmI ss ds2 []).1 (heapOf (canXs nmI ss ds []).2)
   (postX (canXs nmI ss ds []).2.length (delX 0 (canXs nmI ss ds []).2 (ptrId ss (canXs nmI ss ds []).1)) (ptrId ss (canXs nmI ss ds []).1) (expR (λ j=>(canXs nmI ss ds []).2.length + j) (ptrSh ss ds) rs r post))) :
 SmCall P f (λ args h=>(ctX ss rs F args h).sel):=by
 intro args h v h' hg
 obtain ⟨⟨ds,is⟩,e1,e⟩:=T.sel_bind_some hg
 simp only at e
 split at e
 case h_2=>cases e
 rename_i pre r post hF
 generalize hcan:canXs nmI ss ds []=can at e
 obtain ⟨cargs,bl⟩:=can
 simp only at e
 generalize hL:lendXs h ss args=L at e
 generalize hflat:(flatP (ptrSh ss ds) post && flatX rs r)=flat at e
 generalize hLR:(bif flat then ([]:List Nat) else L)=LR at e
 generalize hexp:expR (λ j=>h.nx + j) (ptrSh ss ds) rs r post=E at e
 obtain ⟨v0,cs,nb⟩:=E
 simp only [Bool.cond_eq_ite] at e
 split at e
 case isFalse=>cases e
 rename_i hc
 simp only [Bool.and_eq_true,nbeq,nblt,decide_eq_true_eq] at hc
 obtain ⟨⟨⟨⟨⟨⟨⟨⟨⟨⟨c1,c2⟩,c3⟩,c4⟩,c5⟩,c6⟩,c7⟩,c8s⟩,c9⟩,c10⟩,c11⟩:=hc
 have c8:bl.length < 4294967296:=by omega
 obtain ⟨rfl,e⟩:=T.sel_must e
 have e:=T.sel_ret e
 simp only [Prod.mk.injEq] at e
 obtain ⟨rfl,rfl⟩:=e
 have hrem:=allLt_ok c5
 have hpid:=allLt_ok c6
 obtain ⟨g1,g2,g3,g4⟩:=heapX_get hrem hpid (nodupB_ok c4) c3 c7
 obtain ⟨lk1,lk2⟩:=linkB_at c2
 generalize hpi:ptrId ss args=pids at c2 c3 c4 c5 c6 hrem hpid g1 g2 g3 g4 lk1 lk2
 have hLR9:∀ id,id ∈ LR->id ∈ L:=λ id hi=>by subst hLR;cases flat with | true=>simp at hi | false=>exact hi
 generalize hrm:remX bl is pids ++ LR=rem at c5 hrem g1 g2 g3 g4
 generalize hcp:ptrId ss cargs=cpid at c2 lk1 lk2
 have hsz:(heapX h rem pids cs nb).nx=h.nx + nb.length:=rfl
 have hab:Ab h (heapX h rem pids cs nb):=by
  refine ⟨Nat.le_add_right _ _,rfl,λ x hx=>List.mem_append_right _ hx,λ x b1 b2 hx=>?_,λ x hx=>?_⟩
  . have hn:x ∉ filtLt h.bs (rem ++ pids):=λ q=>hx (List.mem_append_left _ q)
    refine g4 x (by omega) (λ q=>hn (filtLt_mem (List.mem_append_right _ q) b1)) (λ q=>hn (filtLt_mem (List.mem_append_left _ q) b1))
  . by_cases hnew:h.nx<=x/\x < h.nx + nb.length
    . exact .inr hnew
    . left
      by_cases hp:x ∈ pids
      . obtain ⟨j,hj⟩:=List.mem_iff_getElem?.1 hp
        have hjl:j < cpid.length:=by rw [lk1];exact (List.getElem?_eq_some_iff.1 hj).1
        obtain ⟨_,_,o,ho⟩:=lk2 j _ x (List.getElem?_eq_getElem hjl) hj
        rw [ho];simp
      . by_cases hr:x ∈ rem
        . exact absurd (g3 x hr hp) hx
        . rw [<- g4 x hnew hp hr];exact hx
 refine ⟨⟨Nat.le_add_right _ _,hab⟩,λ M us w rr' R ra rr fr k=>?_⟩
 obtain ⟨nb0,bs,q1,q2,q3⟩:=rdXs_ok (Z:=zL M w L) rr rfl ss args ds is us [] [] e1 (by rw [hL];exact λ _ h=>h) ra rfl
 rw [hcan] at q1 q3
 simp only [List.nil_append] at q1 q2 q3
 subst q1
 obtain ⟨rel0,fr0⟩:=heapOf_relX rfl q2 c1 c11 rr c8
 obtain ⟨ds2,ann,n,hcv,hw⟩:=hw ds r post hF
 rw [hcan] at hw hcv
 simp only [hcp] at hw
 refine wxF_ok hm hs hw (MofZ (zL M w L) bs) us w rr' R (hcv _ _ q3) rel0 fr0 λ v2 h2 M2 u w' hk rv rel2 _ fo kp=>?_
 have kp:∀ id,id < bl.length->M2 id=MofZ (zL M w L) bs id:=kp
 generalize hexk:expR (λ j=>bl.length + j) (ptrSh ss ds) rs r post=E at hk
 obtain ⟨vk,ck,nk⟩:=E
 simp only [postX] at hk
 obtain ⟨ρ1,x1,hk,rvk⟩:=cmpV_ok _ _ _ _ hk
 obtain ⟨ρ,x2,okr,t2⟩:=cmpHs_ok hk
 simp only [Bool.and_eq_true] at okr
 obtain ⟨okr,okf⟩:=okr
 have found:=t2 M2 w' rel2
 have rvN:vk.R (MR bl.length ρ M2 (cellsW w')) u:=AV.R.mono (MR_le x2 M2) _ _ (rvk M2 w' u rel2 rv)
 generalize hN:MR bl.length ρ M2 (cellsW w')=N at rvN
 have hlen:nk.length=nb.length/\ck.length=cs.length:=by
  have:=expR_shift (N:=noM) (N':=noM) (L:=nk.length) (x1:=λ j=>bl.length + j) (x2:=λ j=>h.nx + j) (ps:=ptrSh ss ds) (rs:=rs) (r:=r) (post:=post) (λ _ _ _ e=>by cases e) (.inl λ _ _ e=>e) (by rw [hexk];exact Nat.le_refl _)
  rw [hexk,hexp] at this
  exact ⟨this.1.1,this.2.1.1⟩
 have Nz:∀ b cs,N.z b=some cs->M2.z b=some cs ∨ ∃ a κ oa,ρ.at (frzM a)=some a/\h2.get a=some oa/\oa.ro=false/\M2 a=some (b,κ)/\∃ t fr,w'.heap[b]?=some (.cells cs t fr):=λ b cs e=>by
  rw [<- hN] at e
  unfold MR at e
  simp only at e
  split at e
  . rename_i cs' hz
    simp only [sI] at e;subst e
    exact .inl hz
  . split at e
    . rename_i hf
      obtain ⟨a,κ2,f1,f2⟩:=frzB_iff.1 hf
      obtain ⟨oa,f3,f4⟩:=okFz_at okf f1
      unfold cellsW at e
      split at e
      . rename_i cs' t fr hb
        simp only [sI] at e;subst e
        exact .inr ⟨a,κ2,oa,f1,f3,f4,f2,t,fr,hb⟩
      . cases e
    . cases e
 -- by which numbers blocks go behind the call
 let M':Mp:=⟨λ id=>if id < h.nx then M id else if id < h.nx + nb.length then N (bl.length + (id - h.nx)) else M id,if flat=true then M.z else N.z⟩
 have hNz:∀ b cs,M.z b=some cs->N.z b=some cs:=λ b cs e=>by rw [<- hN];exact MR_zm (fo.zm b cs (zL_le e))
 have M'z:∀ b cs,M'.z b=some cs->M.z b=some cs ∨ (flat=false/\N.z b=some cs):=λ b cs e=>by
  have e:(if flat=true then M.z else N.z) b=some cs:=e
  cases hf:flat with
  | true=>rw [if_pos hf] at e;exact .inl e
  | false=>rw [if_neg (by rw [hf];simp)] at e;exact .inr ⟨rfl,e⟩
 have M'old:∀ id,id < h.nx->M' id=M id:=λ id hid=>by show ite _ _ _=_;rw [if_pos hid]
 have M'new:∀ j,j < nb.length->M' (h.nx + j)=N (bl.length + j):=λ j hj=>by
  show ite _ _ _=_
  rw [if_neg (by omega),if_pos (by omega),Nat.add_sub_cancel_left]
 have shift:=expR_shift (N:=N) (N':=M') (L:=nk.length) (x1:=λ j=>bl.length + j) (x2:=λ j=>h.nx + j) (ps:=ptrSh ss ds) (rs:=rs) (r:=r) (post:=post) (λ j p hj e=>by rw [M'new j (by omega)];exact e) (by
  cases hf:flat with
  | true=>exact .inr (by rw [hflat,hf])
  | false=>exact .inl λ b cs e=>by show (if flat=true then M.z else N.z) b=some cs;rw [if_neg (by rw [hf];simp)];exact e) (by rw [hexk];exact Nat.le_refl _)
 rw [hexk,hexp] at shift
 obtain ⟨sh1,sh2,sh3⟩:=shift
 have le:Le M M':=⟨λ id p e=>by
  by_cases h1:id < h.nx
  . rw [M'old id h1];exact e
  . by_cases h2:id < h.nx + nb.length
    . rw [fr id (by omega) (by rw [hsz];exact h2)] at e;cases e
    . show ite _ _ _=_
      rw [if_neg h1,if_neg h2];exact e,λ b cs e=>by
  show (if flat=true then M.z else N.z) b=some cs
  split
  . exact e
  . exact hNz b cs e⟩
 -- a block behind the call: new,or the function's,or as_ it was
 have old:∀ x o,¬ (h.nx<=x/\x < h.nx + nb.length)->x ∉ pids->(heapX h rem pids cs nb).get x=some o->h.get x=some o/\x ∉ rem/\x < h.nx:=λ x o hn hp e=>by
  by_cases hr:x ∈ rem
  . rw [g3 x hr hp] at e;cases e
  . rw [g4 x hn hp hr] at e
    exact ⟨e,hr,rr.wf x (by rw [e];simp)⟩
 have clash:∀ x b κ,(∃ o,h.get x=some o)->x ∉ pids->x ∉ rem->M x=some (b,κ)->¬ OwnP (MofZ (zL M w L) bs) (heapOf bl) b:=λ x b κ ⟨o,ho⟩ hp hr hM ho2=>by
  obtain ⟨i,a,id,o2,κ2,s1,s2,s3,s4,s5,s6⟩:=ownX q2 c8 ho2
  have:=rr.inj id x b κ2 κ o2 s4 s5 (by rw [ho];simp) s6 hM
  subst this
  exact hr (by rw [<- hrm];exact List.mem_append_left _ ((remX_mem).2 i a id s1 s3 s2 hp))
 have callee:∀ x o,(heapX h rem pids cs nb).get x=some o->((h.nx<=x/\x < h.nx + nb.length) ∨ x ∈ pids)->(o.Vac/\M' x=none) ∨ ∃ ia a' b κ ob,h2.get ia=some a'/\M2 ia=some (b,κ)/\M' x=some (b,κ)/\w'.heap[b]?=some ob/\ObR M' κ o ob/\a'.ro=false ∧
  ((∃ j,x=h.nx + j/\j < nb.length/\ρ.at (bl.length + j)=some ia) ∨ ∃ j,pids[j]?=some x/\cpid[j]?=some ia):=λ x o ho hx=>by
  rcases hx with hx | hx
  . obtain ⟨j,rfl⟩:∃ j,x=h.nx + j:=⟨x - h.nx,by omega⟩
    have hj:j < nb.length:=by omega
    have hno:=g1 j _ (List.getElem?_eq_getElem hj)
    rw [hno] at ho
    simp only [sI] at ho
    obtain ⟨a,ha⟩:∃ a,nk[j]?=some a:=⟨nk[j]'(by omega),by simp [hlen.1,hj]⟩
    obtain ⟨a2,ha2,sa1,sa2,sa3⟩:=sh1.2 j a ha
    rw [List.getElem?_eq_getElem hj,ho] at ha2
    simp only [sI] at ha2;subst ha2
    have hro:o.ro=false:=allOwn_at c9 (by rw [List.getElem?_eq_getElem hj,ho])
    rcases found (bl.length + j) a (List.mem_append_right _ ((numR_mem).2 j a ha)) with ⟨_,f2,f3,_⟩ | ⟨ia,a',_,f2,f3,f4,f5,f6⟩
    . refine .inl ⟨sa2 f3,?_⟩
      rw [M'new j hj,<- hN]
      unfold MR
      simp only
      rw [if_neg (by omega),if_neg (by omega),f2]
    . have f2:=f2 (by omega)
      have hNj:N (bl.length + j)=M2 ia:=by rw [<- hN];unfold MR;simp only;rw [if_neg (by omega),if_neg (by omega),f2]
      rcases rel2.obj ia a' f3 with ⟨hv,hM⟩ | ⟨b,κ,ob,hM,hb,hob⟩
      . exact .inl ⟨sa2 (f5 hv),by rw [M'new j hj,hNj];exact hM⟩
      . exact .inr ⟨ia,a',b,κ,ob,f3,hM,by rw [M'new j hj,hNj];exact hM,hb,sa3 κ ob (by rw [<- hN];exact f6 κ ob hob),by rw [<- f4,<- sa1];exact hro,.inl ⟨j,rfl,hj,f2⟩⟩
  . obtain ⟨j,hj⟩:=List.mem_iff_getElem?.1 hx
    have hjl:j < pids.length:=(List.getElem?_eq_some_iff.1 hj).1
    have hjc:j < cpid.length:=by omega
    have hjs:j < cs.length:=by omega
    have hz:(x,cs[j]) ∈ pids.zip cs:=by
     rw [List.mem_iff_getElem?]
     exact ⟨j,by rw [List.getElem?_zip_eq_some];exact ⟨hj,List.getElem?_eq_getElem hjs⟩⟩
    have ho2:=g2 x _ hz
    rw [ho2] at ho
    simp only [sI] at ho
    obtain ⟨a,ha⟩:∃ a,ck[j]?=some a:=⟨ck[j]'(by omega),by simp [hlen.2,hjs]⟩
    obtain ⟨a2,ha2,sa1,sa2,sa3⟩:=sh2.2 j a ha
    rw [List.getElem?_eq_getElem hjs,ho] at ha2
    simp only [sI] at ha2;subst ha2
    have hro:=allOwn_at c10 (show cs[j]?=some o by rw [List.getElem?_eq_getElem hjs,ho])
    obtain ⟨l1,⟨a0,l2,l3⟩,_⟩:=lk2 j _ x (List.getElem?_eq_getElem hjc) hj
    have hcl:cpid[j] < bl.length:=(List.getElem?_eq_some_iff.1 l2).1
    obtain ⟨b0,i0,s1,s2,s3⟩:=q2.get l2
    rw [l1] at s2
    simp only [sI] at s2;subst s2
    have hz2:(cpid[j],a) ∈ cpid.zip ck:=by
     rw [List.mem_iff_getElem?]
     exact ⟨j,by rw [List.getElem?_zip_eq_some];exact ⟨List.getElem?_eq_getElem hjc,ha⟩⟩
    rcases s3 with ⟨hb0,_,hv⟩ | ⟨b,κ,_,id,o3,κ3,rfl,_,_,hid,_,s6,s7⟩ | ⟨_,_,_,_,_,_,hid,_⟩
    . have hM2:M2 cpid[j]=none:=by rw [kp _ hcl];unfold MofZ Mof;simp only [s1,hb0]
      rcases found cpid[j] a (List.mem_append_left _ hz2) with ⟨f1,_⟩ | ⟨ia,a',f1,_,f3,_,f5,_⟩
      . exact absurd hcl f1
      . have:=f1 hcl
        subst this
        rcases rel2.obj _ a' f3 with ⟨hv2,_⟩ | ⟨b',κ',ob,hM,_⟩
        . exact .inl ⟨sa2 (f5 hv2),by rw [M'old x (hpid x hx)];exact hv l3 x rfl⟩
        . rw [hM2] at hM;cases hM
    rotate_left
    . cases hid
    . simp only [sI] at hid;subst hid
      obtain ⟨_,rfl⟩:=s7 l3
      have hM2:M2 cpid[j]=some (b,κ3):=by rw [kp _ hcl];unfold MofZ Mof;simp only [s1]
      rcases found cpid[j] a (List.mem_append_left _ hz2) with ⟨f1,_⟩ | ⟨ia,a',f1,_,f3,f4,f5,f6⟩
      . exact absurd hcl f1
      . have:=f1 hcl
        subst this
        rcases rel2.obj _ a' f3 with ⟨_,hM⟩ | ⟨b',κ',ob,hM,hb,hob⟩
        . rw [hM2] at hM;cases hM
        . rw [hM2] at hM
          simp only [sI,Prod.mk.injEq] at hM
          obtain ⟨rfl,rfl⟩:=hM
          exact .inr ⟨_,a',b,κ3,ob,f3,hM2,by rw [M'old x (hpid x hx)];exact s6,hb,sa3 κ3 ob (by rw [<- hN];exact f6 κ3 ob hob),by rw [<- f4,<- sa1];exact hro,.inr ⟨j,hj,List.getElem?_eq_getElem hjc⟩⟩
 have split3:∀ x,((h.nx<=x/\x < h.nx + nb.length) ∨ x ∈ pids) ∨ (¬ (h.nx<=x/\x < h.nx + nb.length)/\x ∉ pids):=λ x=>by
  by_cases h1:h.nx<=x/\x < h.nx + nb.length
  . exact .inl (.inl h1)
  . by_cases h2:x ∈ pids
    . exact .inl (.inr h2)
    . exact .inr ⟨h1,h2⟩
 have apart:∀ x y ia a' b κ κ' o,h2.get ia=some a'->a'.ro=false->M2 ia=some (b,κ)->h.get y=some o->y ∉ pids->y ∉ rem->M y=some (b,κ')->x=y:=λ x y ia a' b κ κ' o r1 r2 r3 r4 r5 r6 r7=>by
  exfalso
  rcases fo.own b ⟨ia,κ,a',r1,r2,r3⟩ with q | q
  . exact clash y b κ' ⟨o,r4⟩ r5 r6 r7 q
  . rcases rr.obj y o r4 with ⟨_,hM⟩ | ⟨b2,κ2,ob,hM,hb,_⟩
    . rw [hM] at r7;cases r7
    . rw [hM] at r7
      simp only [sI,Prod.mk.injEq] at r7
      obtain ⟨rfl,_⟩:=r7
      have:=heap_lt hb;omega
 have rel':Rel M' (heapX h rem pids cs nb) w':=by
  refine ⟨λ x o ho=>?_,λ x y b κ κ' o hx hr hy ex ey=>?_,λ x hx=>?_,rel2.gw,λ x b κ o hx hro ex=>?_,λ b cs e=>?_,λ x b κ o hx hr ex=>?_⟩
  . rcases split3 x with hx | ⟨hx1,hx2⟩
    . rcases callee x o ho hx with hv | ⟨ia,a',b,κ,ob,_,_,r1,r2,r3,_⟩
      . exact .inl hv
      . exact .inr ⟨b,κ,ob,r1,r2,r3⟩
    . obtain ⟨o1,o2,o3⟩:=old x o hx1 hx2 ho
      rcases rr.obj x o o1 with ⟨hv,hM⟩ | ⟨b,κ,ob,hM,hb,hob⟩
      . exact .inl ⟨hv,by rw [M'old x o3];exact hM⟩
      . exact .inr ⟨b,κ,ob,by rw [M'old x o3];exact hM,by rw [fo.keep b (heap_lt hb) (clash x b κ ⟨o,o1⟩ hx2 o2 hM)];exact hb,ObR.mono le _ _ hob⟩
  . cases hyy:(heapX h rem pids cs nb).get y with
    | none=>exact absurd hyy hy
    | some oy=>
      rcases split3 x with hx' | ⟨hx1,hx2⟩
      . rcases callee x o hx hx' with ⟨_,hv⟩ | ⟨ia,a',b1,κ1,_,r1,r2,r3,_,_,r4,r5⟩
        . rw [hv] at ex;cases ex
        . rw [r3] at ex
          simp only [sI,Prod.mk.injEq] at ex
          obtain ⟨rfl,rfl⟩:=ex
          rcases split3 y with hy' | ⟨hy1,hy2⟩
          . rcases callee y oy hyy hy' with ⟨_,hv⟩ | ⟨ja,b',b2,κ2,_,u1,u2,u3,_,_,u4,u5⟩
            . rw [hv] at ey;cases ey
            . rw [u3] at ey
              simp only [sI,Prod.mk.injEq] at ey
              obtain ⟨rfl,rfl⟩:=ey
              have:=rel2.inj ia ja b2 κ1 κ2 a' r1 r4 (by rw [u1];simp) r2 u2
              subst this
              have mix:∀ j j' z,ρ.at (bl.length + j)=some ia->pids[j']?=some z->cpid[j']?=some ia->False:=λ j j' z e1 e2 e3=>by
               obtain ⟨_,⟨_,l2,_⟩,_⟩:=lk2 j' ia z e3 e2
               have hlt:=(List.getElem?_eq_some_iff.1 l2).1
               rcases (okR_at okr e1).1 with q | q
               . omega
               . exact delX_mem ia q (List.mem_of_getElem? e3)
              rcases r5 with ⟨j,rfl,_,e1⟩ | ⟨j,e1,e2⟩ <;> rcases u5 with ⟨j',rfl,_,e1'⟩ | ⟨j',e1',e2'⟩
              . have:=okR_inj okr e1 e1';omega
              . exact (mix j j' y e1 e1' e2').elim
              . exact (mix j' j x e1' e1 e2).elim
              . have l1:=(lk2 j ia x e2 e1).1
                have l2:=(lk2 j' ia y e2' e1').1
                rw [l1] at l2
                simpa using l2
          . obtain ⟨o1,o2,o3⟩:=old y oy hy1 hy2 hyy
            rw [M'old y o3] at ey
            exact apart x y ia a' b1 κ1 κ' oy r1 r4 r2 o1 hy2 o2 ey
      . obtain ⟨o1,o2,o3⟩:=old x o hx1 hx2 hx
        rw [M'old x o3] at ex
        rcases split3 y with hy' | ⟨hy1,hy2⟩
        . rcases callee y oy hyy hy' with ⟨_,hv⟩ | ⟨ja,b',b2,κ2,_,u1,u2,u3,_,_,u4,_⟩
          . rw [hv] at ey;cases ey
          . rw [u3] at ey
            simp only [sI,Prod.mk.injEq] at ey
            obtain ⟨rfl,rfl⟩:=ey
            exact (apart y x ja b' b2 κ2 κ o u1 u4 u2 o1 hx2 o2 ex).symm
        . obtain ⟨p1,p2,p3⟩:=old y oy hy1 hy2 hyy
          rw [M'old y p3] at ey
          exact rr.inj x y b κ κ' o o1 hr (by rw [p1];simp) ex ey
  . rcases hab.dom x hx with q | ⟨_,q⟩
    . have:=rr.wf x q
      show x < h.nx + nb.length
      omega
    . exact q
  . rcases split3 x with hx' | ⟨hx1,hx2⟩
    . rcases callee x o hx hx' with ⟨_,hv⟩ | ⟨ia,a',b1,κ1,_,r1,r2,r3,_,_,r6,_⟩
      . rw [hv] at ex;cases ex
      . rw [r3] at ex
        simp only [sI,Prod.mk.injEq] at ex
        obtain ⟨rfl,rfl⟩:=ex
        exact rel2.gf ia b1 κ1 a' r1 r6 r2
    . obtain ⟨o1,o2,o3⟩:=old x o hx1 hx2 hx
      rw [M'old x o3] at ex
      exact rr.gf x b κ o o1 hro ex
  . rcases M'z b cs e with e | ⟨_,e⟩
    . exact rel2.fz b cs (fo.zm b cs (zL_le e))
    . rcases Nz b cs e with e | ⟨a,κ,oa,f1,f2,f3,f4,f5⟩
      . exact rel2.fz b cs e
      . obtain ⟨t,fr,f6⟩:=f5
        exact ⟨t,fr,f6⟩
  . cases hz:M'.z b with
    | none=>rfl
    | some cs=>
      exfalso
      rcases split3 x with hx' | ⟨hx1,hx2⟩
      . rcases callee x o hx hx' with ⟨_,hv⟩ | ⟨ia,a',b1,κ1,_,r1,r2,r3,_,_,r4,r5⟩
        . rw [hv] at ex;cases ex
        . rw [r3] at ex
          simp only [sI,Prod.mk.injEq] at ex
          obtain ⟨rfl,rfl⟩:=ex
          have hn:=rel2.fo ia b1 κ1 a' r1 r4 r2
          rcases M'z b1 cs hz with e | ⟨_,e⟩
          . have e2:M2.z b1=some cs:=fo.zm b1 cs (zL_le e)
            rw [e2] at hn;cases hn
          . rcases Nz b1 cs e with e | ⟨a,κ2,oa,f1,f2,f3,f4,_⟩
            . rw [e] at hn;cases hn
            . have hij:=rel2.inj a ia b1 κ2 κ1 oa f2 f3 (by rw [r1];simp) f4 r2
              subst hij
              have h32:4294967296<=frzM a:=Nat.le_add_right _ _
              rcases r5 with ⟨j,rfl,hj,e1⟩ | ⟨j,e1,e2⟩
              . have:=okR_inj okr e1 f1;omega
              . obtain ⟨_,⟨_,l2,_⟩,_⟩:=lk2 j a x e2 e1
                have hlt:=(List.getElem?_eq_some_iff.1 l2).1
                rcases (okR_at okr f1).1 with q | q
                . omega
                . exact delX_mem a q (List.mem_of_getElem? e2)
      . obtain ⟨o1,o2,o3⟩:=old x o hx1 hx2 hx
        rw [M'old x o3] at ex
        have hn:=rr.fo x b κ o o1 hr ex
        have hsz9:b < w.heap.size:=by
         rcases rr.obj x o o1 with ⟨_,hM⟩ | ⟨b2,κ2,ob,hM,hb,_⟩
         . rw [hM] at ex;cases ex
         . rw [hM] at ex
           simp only [sI,Prod.mk.injEq] at ex
           obtain ⟨rfl,_⟩:=ex
           exact heap_lt hb
        have hcl:=clash x b κ ⟨o,o1⟩ hx2 o2 ex
        rcases M'z b cs hz with e | ⟨hf,e⟩
        . rw [e] at hn;cases hn
        . have lent:∀ cs,zL M w L b=some cs->False:=λ cs e=>by
           rcases zL_inv e with e | ⟨id,κ2,t,fr,f1,f2,_⟩
           . rw [e] at hn;cases hn
           . obtain ⟨⟨o4,f4,f5⟩,_⟩:=okLend_at c11 id f1
             have:=rr.inj id x b κ2 κ o4 f4 f5 (by rw [o1];simp) f2 ex
             subst this
             exact o2 (by rw [<- hrm,<- hLR,hf];exact List.mem_append_right _ f1)
          rcases Nz b cs e with e | ⟨a,κ2,oa,f1,f2,f3,f4,_⟩
          . rcases fo.zx b cs e with e | e | e
            . exact lent cs e
            . exact hcl e
            . omega
          . rcases fo.own b ⟨a,κ2,oa,f2,f3,f4⟩ with e | e
            . exact hcl e
            . omega
 refine k M' u w' (sh3 u rvN) rel' ⟨fo.os,fo.tape,fo.output,fo.size,le,λ id hne=>?_,λ b hb hno=>fo.keep b hb (λ ho=>?_),λ x b κ o hx ex=>?_,λ b cs e=>?_⟩ hab
 . by_cases h1:id < h.nx
   . exact absurd (M'old id h1) hne
   . by_cases h2:id < h.nx + nb.length
     . exact ⟨by omega,h2⟩
     . exact absurd (show ite _ _ _=_ by rw [if_neg h1,if_neg h2]) hne
 . obtain ⟨i,a,id,o2,κ2,_,_,_,s4,s5,s6⟩:=ownX q2 c8 ho
   exact hno id κ2 o2 s4 s5 s6
 . rcases split3 x with hx' | ⟨hx1,hx2⟩
   . rcases callee x o hx hx' with ⟨_,hv⟩ | ⟨ia,a',b1,κ1,_,r1,r2,r3,_,_,r4,_⟩
     . rw [hv] at ex;cases ex
     . rw [r3] at ex
       simp only [sI,Prod.mk.injEq] at ex
       obtain ⟨rfl,rfl⟩:=ex
       rcases fo.own b1 ⟨ia,κ1,a',r1,r4,r2⟩ with q | q
       . obtain ⟨i,a,id,o2,κ2,_,_,_,s4,s5,s6⟩:=ownX q2 c8 q
         exact .inr ⟨id,κ2,o2,s4,s6,λ _=>s5⟩
       . exact .inl q
   . obtain ⟨o1,o2,o3⟩:=old x o hx1 hx2 hx
     rw [M'old x o3] at ex
     exact .inr ⟨x,κ,o,o1,ex,λ e=>e⟩
 . have own9:OwnP (MofZ (zL M w L) bs) (heapOf bl) b->M.z b=some cs ∨ w.heap.size<=b ∨ ∃ i κ o,h.get i=some o/\o.ro=false/\M i=some (b,κ):=λ q=>by
    obtain ⟨i,a,id,o2,κ2,_,_,_,s4,s5,s6⟩:=ownX q2 c8 q
    exact .inr (.inr ⟨id,κ2,o2,s4,s5,s6⟩)
   rcases M'z b cs e with e | ⟨_,e⟩
   . exact .inl e
   . rcases Nz b cs e with e | ⟨a,κ2,oa,f1,f2,f3,f4,_⟩
     . rcases fo.zx b cs e with e | e | e
       . rcases zL_inv e with e | ⟨id,κ3,t,fr,f1,f2,_⟩
         . exact .inl e
         . obtain ⟨⟨o4,f4,f5⟩,_⟩:=okLend_at c11 id f1
           exact .inr (.inr ⟨id,κ3,o4,f4,f5,f2⟩)
       . exact own9 e
       . exact .inr (.inl e)
     . rcases fo.own b ⟨a,κ2,oa,f2,f3,f4⟩ with e | e
       . exact own9 e
       . exact .inr (.inl e)
theorem ctX_ok (hm:P.follows .mixedOrders=true)(hs:SmOK P sm){ss:List Sx}{rs:Sx}{F:List Dx->Option (Bool × Dx × List (List Dx))}{f:FuncId}
 (hw:∀ ds r post,F ds=some (true,r,post)->∃ ann n,wxF P sm ann n f (canXs nmI ss ds []).1 (heapOf (canXs nmI ss ds []).2)
   (postX (canXs nmI ss ds []).2.length (delX 0 (canXs nmI ss ds []).2 (ptrId ss (canXs nmI ss ds []).1)) (ptrId ss (canXs nmI ss ds []).1) (expR (λ j=>(canXs nmI ss ds []).2.length + j) (ptrSh ss ds) rs r post))) :
 SmCall P f (λ args h=>(ctX ss rs F args h).sel):=
 ctX_lit hm hs λ ds r post h=>by
  obtain ⟨ann,n,hw⟩:=hw ds r post h
  exact ⟨ds,ann,n,λ _ _ h=>h,hw⟩
end
end Go.Proofs.Ytknfdbilpfblnaa.Ex
end
section
noncomputable section
namespace Go.Proofs.Ytknfdbilpfblnaa.Ex
open Go Go.RowKit Go.ChangeShapes Go.WideShapes
def kV:CK->Value->Prop
 | .int k,v=>∃ n,v=.int k n/\(Lit.int k n).wf=true
 | .bool,v=>∃ b,v=.bool b
 | .str,v=>∃ s:ByteArray,v=.string s/\s.size<=maxLen
 | .ls _,_=>False
def intOf:Value->Int | .int _ n=>n | _=>0
def boolOf:Value->Bool | .bool b=>b | _=>false
def strOf:Value->List UInt8 | .string s=>s.data.toList | _=>[]
def scalV (k:CK)(v:Value):AV:=match k with | .int k=>.y k (intOf v) | .bool=>.yb (boolOf v) | .str=>.ys (strOf v) | .ls _=>.yb false
theorem kV_R {k:CK}{v:Value}(h:kV k v):(scalV k v).R noM v/\v.oneCell'=true:=by
 cases k with
 | int k=>obtain ⟨n,rfl,_⟩:=h;exact ⟨rfl,rfl⟩
 | bool=>obtain ⟨n,rfl⟩:=h;exact ⟨rfl,rfl⟩
 | str=>obtain ⟨s,rfl,_⟩:=h;exact ⟨by simp [scalV,AV.R,strOf],rfl⟩
 | ls=>exact h.elim
theorem gw_none (gl:∀ b,GL b=none){w:World}:GW w:=λ g c h=>by rw [gl] at h;cases h
def ckOk (P:Program)(t:TypeId)(k:CK):Bool:=
 match P.underlying t,k with
 | some (.int k'),.int k=>eqK k' k
 | some .bool,.bool=>true
 | some .string,.str=>true
 | _,_=>false
section
variable {H : Type} {enc : TypeId × Value -> H} {P : Program} {w : World} {base : Nat} {spare : Nat -> Bool} {held : Bool}
theorem trod_ck {t:TypeId}{k:CK}{v:Value}{fuel:Nat}{x:DataW H × List MemPlace}(hk:ckOk P t k=true)(h:DataW.trod enc P w base spare held fuel t [v]=some x):kV k v:=by
 cases fuel with
 | zero=>simp [DataW.trod] at h
 | succ n=>
   unfold ckOk at hk
   unfold DataW.trod at h
   split at hk
   . rename_i k' k hu
     obtain rfl:=eqK_eq hk
     rw [hu] at h
     cases v <;> simp at h
     obtain ⟨⟨rfl,h2⟩,_⟩:=h
     exact ⟨_,rfl,h2⟩
   . rename_i hu
     rw [hu] at h
     cases v <;> simp at h
     exact ⟨_,rfl⟩
   . rename_i hu
     rw [hu] at h
     cases v <;> simp at h
     exact ⟨_,rfl,h.1⟩
   . cases hk
end
section
variable {H : Type} {enc : TypeId × Value -> H} {P : Program} {w : World} {base : Nat} {spare : Nat -> Bool} {held : Bool}
end
end Go.Proofs.Ytknfdbilpfblnaa.Ex
end
section
noncomputable section
namespace Go.Proofs.Ytknfdbilpfblnaa.Ex
open Go Go.RowKit
def isY (b:Bool)(o:Option (AV × AH)):Bool:=match o with | some (.b x,_)=>x == b | some (.yb x,_)=>x == b | _=>false
theorem callY_calls {P:Program}(hm:P.follows .mixedOrders=true){sm:FuncId->Option Sm}(hs:SmOK P sm){n f:Nat}{b:Bool}{args:List AV}{us:List Value}(h:isY b (callS P sm n f args)=true)(ra:AV.RL noM args us)(w:World)(hw:GW w):
 Calls P f us.toArray w λ e w'=>e=.returned (.bool b)/\Below w.heap.size w w':=by
 unfold callS at h
 cases hc:callA P ⟨exec P sm n,sm⟩ f args ⟨.lf,0,0,[]⟩ with
 | none=>rw [hc] at h;cases h
 | some p=>
   obtain ⟨v,h'⟩:=p
   rw [hc] at h
   obtain ⟨_,c⟩:=callA_ok (exec_good hm hs n) hc
   have hr:Rel noM ⟨.lf,0,0,[]⟩ w:=⟨λ x o e=>by simp [get_lf] at e,λ x y b κ κ' o hx=>by simp [get_lf] at hx,λ x hx=>absurd (get_lf _ _ _ x) hx,hw,λ x b κ o hx=>(by simp [get_lf] at hx),λ b cs e=>(by cases e),λ x b κ o hx=>(by simp [get_lf] at hx)⟩
   obtain ⟨_,cc⟩:=c noM us w none (λ e w'=>e=.returned (.bool b)/\Below w.heap.size w w') ra hr (λ _ _ _=>rfl) (λ M' u w' rv rh f _=>by
    cases v <;> simp only [isY,Bool.false_eq_true,beq_iff_eq] at h
    all_goals subst h
    all_goals simp only [AV.R] at rv
    all_goals
    refine ⟨by rw [rv],f.os,f.tape,f.output,f.size,λ k hk=>f.keep k hk (λ id κ o hg=>by simp [get_lf] at hg)⟩)
   exact CallsIn.calls cc (λ k d hd=>by simp [FW] at hd)
def isS (l:List UInt8)(o:Option (AV × AH)):Bool:=match o with | some (.s l',_)=>l == l' | _=>false
end Go.Proofs.Ytknfdbilpfblnaa.Ex
end
section
noncomputable section
namespace Go.Proofs.Ytknfdbilpfblnaa.Ex
open Go Go.RowKit Go.ChangeShapes Go.WideShapes
def K1.ck:K1->CK
 | .int k=>.int k
 | .bool=>.bool
 | .str=>.str
inductive KT where
 | sc (k:K1)
 | ls (l:List KT)
def nilOf:Value->Bool | .slice none _ _=>true | _=>false
def lenOf:Value->Nat | .slice _ n _=>n | _=>0
def cellAt (w:World)(v:Value)(q:Nat):Value:=
 match v with
 | .slice (some a) _ _=>(match w.heap[a.block]? with | some (.cells cs _ _)=>(cs[a.off + q]?).getD .nilFunc | _=>.nilFunc)
 | _=>.nilFunc
mutual
def OkT (w:World):KT->Value->Prop
 | .sc k,v=>kV k.ck v
 | .ls l,v=>v=.slice none 0 0 ∨ ∃ a n c,v=.slice (some a) n c/\n<=c/\n<=maxLen ∧
    (n=0 ∨ ∃ b off,a=⟨b,off,none⟩/\GL b=none/\∃ cs e fr,w.heap[b]?=some (.cells cs e fr)/\∀ p,p < n->OkTs w l (λ j=>cs[off + p * l.length + j]?) 0)
def OkTs (w:World):List KT->(Nat->Option Value)->Nat->Prop
 | [],_,_=>True
 | k :: ks,V,j=>(∃ v,V j=some v/\OkT w k v)/\OkTs w ks V (j + 1)
end
mutual
def avT (w:World):KT->Value->AV
 | .sc k,v=>scalV k.ck v
 | .ls l,v=>.lst false (nilOf v) l.length (lenOf v) (λ p j=>avTs w l j (λ q=>cellAt w v (p * l.length + q)) 0)
def avTs (w:World):List KT->Nat->(Nat->Value)->Nat->AV
 | [],_,_,_=>.np
 | k :: ks,j,V,q=>match j with | 0=>avT w k (V q) | Nat.succ j=>avTs w ks j V (q + 1)
end
def Mw (w:World):Mp:=⟨λ _=>none,λ b=>match GL b with | none=>cellsW w b | some _=>none⟩
mutual
theorem okT_R {w:World}:∀ (k:KT) (v:Value),OkT w k v->(avT w k v).R (Mw w) v/\v.oneCell'=true
 | .sc k,v,h=>by
   simp only [OkT] at h
   simp only [avT]
   exact ⟨AV.R.mono (Le_noM _) _ _ (kV_R h).1,(kV_R h).2⟩
 | .ls l,v,h=>by
   simp only [OkT] at h
   simp only [avT]
   rcases h with rfl | ⟨a,n,c,rfl,hnc,_,h⟩
   . exact ⟨by simp only [AV.R];exact .inl ⟨rfl,rfl,trivial⟩,rfl⟩
   . refine ⟨?_,rfl⟩
     simp only [AV.R]
     rcases h with h0 | ⟨b,off,rfl,hgl,cs,e,fr,hb,h⟩
     . exact .inr (.inl ⟨rfl,h0,a,c,by rw [h0],λ e=>by cases e⟩)
     . by_cases h0:n=0
       . exact .inr (.inl ⟨rfl,h0,_,c,by rw [h0],λ e=>by cases e⟩)
       . refine .inr (.inr ⟨rfl,Nat.pos_of_ne_zero h0,b,off,c,cs,rfl,hnc,(λ e=>by cases e),by simp only [Mw,hgl,cellsW,hb],λ i hi j hj=>?_⟩)
         have h1:=okTs_R l _ (λ q=>cellAt w (.slice (some ⟨b,off,none⟩) n c) (i * l.length + q)) 0 (h i hi) (λ q v hv=>by
          simp only [cellAt,hb]
          rw [<- Nat.add_assoc,hv];rfl) j hj
         obtain ⟨v,q1,q2,q3⟩:=h1
         rw [Nat.zero_add] at q1
         exact ⟨v,q1,q3,q2⟩
theorem okTs_R {w:World}:∀ (ks:List KT) (V:Nat->Option Value) (V':Nat->Value) (q:Nat),OkTs w ks V q->(∀ q v,V q=some v->V' q=v)->∀ j,j < ks.length->∃ v,V (q + j)=some v/\(avTs w ks j V' q).R (Mw w) v/\v.oneCell'=true
 | [],V,V',q,h,hV,j,hj=>by simp at hj
 | k :: ks,V,V',q,h,hV,j,hj=>by
   simp only [OkTs] at h
   obtain ⟨⟨v,h1,h2⟩,h3⟩:=h
   cases j with
   | zero=>
     have:=okT_R k v h2
     refine ⟨v,h1,?_,this.2⟩
     simp only [avTs]
     rw [hV q v h1];exact this.1
   | succ j=>
     obtain ⟨v,q1,q2,q3⟩:=okTs_R ks V V' (q + 1) h3 hV j (by simpa using hj)
     exact ⟨v,by rw [<- q1];congr 1;omega,by simpa only [avTs] using q2,q3⟩
end
theorem okTs_at {w:World}:∀ {ks:List KT} {V:Nat->Option Value} {q j:Nat} {k:KT},OkTs w ks V q->ks[j]?=some k->∃ v,V (q + j)=some v/\OkT w k v
 | [],_,_,j,k,_,hj=>by simp at hj
 | c :: ks,V,q,0,k,h,hj=>by
   simp at hj;subst hj
   simp only [OkTs] at h
   exact h.1
 | c :: ks,V,q,j + 1,k,h,hj=>by
   simp only [OkTs] at h
   obtain ⟨v,q1,q2⟩:=okTs_at (q:=q + 1) h.2 (by simpa using hj)
   exact ⟨v,by rw [<- q1];congr 1;omega,q2⟩
theorem okTs_app {w:World}:∀ {a b:List KT} {V:Nat->Option Value} {q:Nat},OkTs w a V q->OkTs w b V (q + a.length)->OkTs w (a ++ b) V q
 | [],b,V,q,_,h=>by simpa using h
 | c :: a,b,V,q,h,h2=>by
   simp only [OkTs,List.cons_append] at h ⊢
   exact ⟨h.1,okTs_app h.2 (by rw [show q + 1 + a.length=q + (c :: a).length by simp;omega];exact h2)⟩
theorem okTs_ext {w:World}:∀ {a:List KT} {V V':Nat->Option Value} {q q':Nat},OkTs w a V q->(∀ j,j < a.length->V (q + j)=V' (q' + j))->OkTs w a V' q'
 | [],_,_,_,_,_,_=>by simp only [OkTs]
 | c :: a,V,V',q,q',h,e=>by
   simp only [OkTs] at h ⊢
   obtain ⟨⟨v,h1,h2⟩,h3⟩:=h
   refine ⟨⟨v,?_,h2⟩,okTs_ext h3 λ j hj=>?_⟩
   . have:=e 0 (by simp);simp only [Nat.add_zero] at this;rw [<- this];exact h1
   . have:=e (j + 1) (by simpa using hj)
     rw [show q + 1 + j=q + (j + 1) by omega,show q' + 1 + j=q' + (j + 1) by omega];exact this
def GLT (k:KT):Prop:=∀ g c,GL g=some c->∀ (j:Nat) (a:AV),c[j]?=some a->∀ v,a.R noM v->∀ w,¬ OkT w k v
mutual
def GLo:KT->Prop
 | .sc _=>True
 | .ls l=>(∀ k,l[0]?=some k->GLT k)/\GLos l
def GLos:List KT->Prop
 | []=>True
 | k :: l=>GLo k/\GLos l
end
theorem GLos_app:∀ {a b:List KT},GLos (a ++ b)->GLos a/\GLos b
 | [],b,h=>⟨trivial,h⟩
 | c :: a,b,h=>by
   simp only [List.cons_append,GLos] at h ⊢
   obtain ⟨h1,h2⟩:=GLos_app h.2
   exact ⟨⟨h.1,h1⟩,h2⟩
def ktsFs (g:TypeId->Option (List KT))(P:Program):List Field->Nat->Option (List KT)
 | [],_=>some []
 | f :: fs,j=>match g f.type with
   | some l=>bif Nat.beq f.offset j && Nat.beq (P.cellsOf f.type) l.length then match ktsFs g P fs (j + l.length) with | some r=>some (l ++ r) | none=>none else none
   | none=>none
def ktsOf (P:Program):Nat->TypeId->Option (List KT)
 | 0,_=>none
 | n + 1,t=>match P.underlying t with
   | some (.int k)=>some [.sc (.int k)]
   | some .bool=>some [.sc .bool]
   | some .string=>some [.sc .str]
   | some (.slice e)=>match ktsOf P n e with
     | some l=>bif Nat.beq (P.cellsOf e) l.length && Nat.blt 0 l.length then some [.ls l] else none
     | none=>none
   | some (.struct fs)=>match ktsFs (ktsOf P n) P fs.toList 0 with
     | some l=>bif Nat.beq (P.cellsOf t) l.length then some l else none
     | none=>none
   | _=>none
section
variable {H : Type} {enc : TypeId × Value -> H} {P : Program} {w : World} {base : Nat} {spare : Nat -> Bool} {held : Bool}
theorem trod_lst {t e:TypeId}{l:List KT}{v:Value}{fuel:Nat}{x:DataW H × List MemPlace}(gw:GW w)(gl:∀ k,l[0]?=some k->GLT k)(hu:P.underlying t=some (.slice e))(hz:P.cellsOf e=l.length)(hp:0 < l.length)
 (he:∀ (n:Nat) (cs:List Value) (y:DataW H × List MemPlace),cs.length=P.cellsOf e->DataW.trod enc P w base spare held n e cs=some y->OkTs w l (λ j=>cs[j]?) 0)
 (h:DataW.trod enc P w base spare held fuel t [v]=some x):OkT w (.ls l) v:=by
 simp only [OkT]
 rcases Go.Deep.open_slice hu h with ⟨e1,_⟩ | ⟨a,len,cap,m,n,D,Pl,e1,_,hlc,hcm,hm,_,hx⟩
 . simp at e1;exact .inl e1
 . simp at e1;subst e1
   have hlm:len<=m:=by rw [hm];split <;> omega
   refine .inr ⟨a,len,cap,rfl,hlc,by omega,?_⟩
   by_cases h0:len=0
   . exact .inl h0
   . right
     have key:∀ i,i < len->∃ cs':List Value,OkTs w l (λ j=>cs'[j]?) 0/\∀ j,j < l.length->w.cell? (a.add (i * l.length + j))=cs'[j]?:=λ i hi=>by
      obtain ⟨cs',h1,h2⟩:=hx i (by omega)
      obtain ⟨_,hlen,hcell⟩:=World.cells?_some h1
      refine ⟨cs',he _ _ _ hlen h2,λ j hj=>?_⟩
      have:=hcell j (by rw [hz];exact hj)
      rw [hz,Go.Deep.add_add] at this
      exact this
     obtain ⟨k0,hk0⟩:∃ k,l[0]?=some k:=⟨l[0],by simp [hp]⟩
     obtain ⟨cs0,hok0,hc0⟩:=key 0 (by omega)
     obtain ⟨v0,hv0,hkv0⟩:=okTs_at hok0 hk0
     have hc00:=hc0 0 hp
     have hv0:cs0[0]?=some v0:=hv0
     rw [hv0] at hc00
     have hsp:=World.cell?_spot hc00
     have ha:a=⟨a.block,a.off,none⟩:=by
      cases a with | mk b o s=>simp [Addr.add] at hsp;subst hsp;rfl
     have cell:∀ k v,w.cell? (a.add k)=some v->∃ cs e fr,w.heap[a.block]?=some (.cells cs e fr)/\cs[a.off + k]?=some v:=λ k v hc=>by
      rw [ha,addr_add] at hc
      simp only [World.cell?] at hc
      split at hc
      . rename_i cs e fr hb
        exact ⟨cs,e,fr,hb,by simpa using hc⟩
      . cases hc
     obtain ⟨cs,e',fr,hb,_⟩:=cell _ _ hc00
     have hgl:GL a.block=none:=by
      cases hg:GL a.block with
      | none=>rfl
      | some c=>
        exfalso
        obtain ⟨vs,e2,fr2,q1,q2⟩:=gw _ _ hg
        obtain ⟨cs3,e3,fr3,q3,q4⟩:=cell _ _ hc00
        rw [q1] at q3
        simp only [sI,Obj.cells.injEq] at q3
        obtain ⟨rfl,_⟩:=q3
        have q4:vs[a.off + (0 * l.length + 0)]?=some v0:=by simpa using q4
        have hl2:=RL_length q2
        have hlt:=(List.getElem?_eq_some_iff.1 q4).1
        obtain ⟨v9,r1,r2⟩:=RL_get (a.off + (0 * l.length + 0)) (c[a.off + (0 * l.length + 0)]'(by omega)) q2 (by simp)
        rw [q4] at r1
        simp only [sI] at r1
        subst r1
        exact gl k0 hk0 _ _ hg _ _ (List.getElem?_eq_getElem (by omega)) _ r2 w hkv0
     refine ⟨a.block,a.off,ha,hgl,cs,e',fr,hb,λ i hi=>?_⟩
     obtain ⟨cs',hok,hc⟩:=key i hi
     refine okTs_ext hok λ j hj=>?_
     simp only [Nat.zero_add]
     obtain ⟨v,hv,_⟩:=okTs_at hok (List.getElem?_eq_getElem hj)
     have hv:cs'[0 + j]?=some v:=hv
     rw [Nat.zero_add] at hv
     have h1:=hc j hj
     rw [hv] at h1
     obtain ⟨cs2,e2,fr2,hb2,hv2⟩:=cell _ _ h1
     rw [hb] at hb2
     simp only [sI,Obj.cells.injEq] at hb2
     obtain ⟨rfl,rfl,rfl⟩:=hb2
     rw [hv,Nat.add_assoc,hv2]
theorem trod_kts (gw:GW w):∀ {n:Nat} {t:TypeId} {kts:List KT} {cs:List Value} {fuel:Nat} {x:DataW H × List MemPlace},GLos kts->ktsOf P n t=some kts->cs.length=kts.length->DataW.trod enc P w base spare held fuel t cs=some x →
 OkTs w kts (λ j=>cs[j]?) 0
 | 0,t,kts,cs,fuel,x,_,h,_,_=>by cases h
 | n + 1,t,kts,cs,fuel,x,gl,h,hl,ht=>by
   have scal:∀ k:K1,kts=[.sc k]->ckOk P t k.ck=true->OkTs w kts (λ j=>cs[j]?) 0:=λ k e hk=>by
    subst e
    match cs,hl with
    | [v],_=>
      have:=trod_ck hk ht
      simp only [OkTs,OkT,and_true]
      exact ⟨v,rfl,this⟩
   unfold ktsOf at h
   split at h
   . rename_i k hu
     simp only [sI] at h;exact scal (.int k) h.symm (by simp only [ckOk,K1.ck,hu];cases k <;> rfl)
   . rename_i hu
     simp only [sI] at h;exact scal .bool h.symm (by simp [ckOk,K1.ck,hu])
   . rename_i hu
     simp only [sI] at h;exact scal .str h.symm (by simp [ckOk,K1.ck,hu])
   . rename_i e hu
     split at h
     case h_2=>cases h
     rename_i l hle
     simp only [Bool.cond_eq_ite] at h
     split at h
     case isFalse=>cases h
     rename_i hc
     simp only [sI] at h;subst h
     simp only [Bool.and_eq_true,nbeq,nblt,decide_eq_true_eq] at hc
     match cs,hl with
     | [v],_=>
       simp only [GLos,GLo,and_true] at gl
       have:=trod_lst gw gl.1 hu hc.1 hc.2 (λ n' cs' y h1 h2=>trod_kts gw gl.2 hle (by rw [h1,hc.1]) h2) ht
       simp only [OkTs,and_true]
       exact ⟨v,rfl,this⟩
   . rename_i fs hu
     split at h
     case h_2=>cases h
     rename_i l hl2
     simp only [Bool.cond_eq_ite] at h
     split at h
     case isFalse=>cases h
     simp only [sI] at h;subst h
     obtain ⟨xs,n',_,_,h3,h4,h5⟩:=DataW.trod_struct hu ht
     have key:∀ (fl:List Field) (j:Nat) (l:List KT),GLos l->(∀ f ∈ fl,f ∈ fs.toList)->ktsFs (ktsOf P n) P fl j=some l->(cs.drop j).length=l.length->OkTs w l (λ q=>cs[q]?) j:=by
      intro fl
      induction fl with
      | nil=>
        intro j l _ _ e hlen
        simp [ktsFs] at e;subst e
        simp only [OkTs]
      | cons f fl ih=>
        intro j l hgl hmem e hlen
        simp only [ktsFs] at e
        split at e
        case h_2=>cases e
        rename_i lf hlf
        simp only [Bool.cond_eq_ite] at e
        split at e
        case isFalse=>cases e
        rename_i hc
        simp only [Bool.and_eq_true,nbeq,decide_eq_true_eq] at hc
        obtain ⟨rfl,hc2⟩:=hc
        split at e
        case h_2=>cases e
        rename_i r hr
        simp only [sI] at e;subst e
        simp only [List.length_append] at hlen
        obtain ⟨i,hi⟩:=List.mem_iff_getElem?.1 (hmem f (by simp))
        have hx:=h5 i f (by simpa using hi)
        have hxl:i < xs.length:=by rw [h4,<- Array.length_toList];exact (List.getElem?_eq_some_iff.1 hi).1
        rw [List.getElem?_eq_getElem hxl] at hx
        have q1:=trod_kts gw (GLos_app hgl).1 hlf (by rw [List.length_take,hc2];omega) hx
        have q2:=ih (f.offset + lf.length) r (GLos_app hgl).2 (λ g hg=>hmem g (by simp [hg])) hr (by rw [List.length_drop] at hlen ⊢;omega)
        refine okTs_app (okTs_ext q1 λ j hj=>?_) q2
        rw [Nat.zero_add,List.getElem?_take,if_pos (by rw [hc2];exact hj),List.getElem?_drop]
     exact key fs.toList 0 l gl (λ _ h=>h) hl2 (by simpa using hl)
   . cases h
end
theorem lst_eq {x nil:Bool}{z n:Nat}{f f':Nat->Nat->AV}{M:Mp}{v:Value}(r:(AV.lst x nil z n f).R M v)(e:∀ i j,j < z->f i j=f' i j):(AV.lst x nil z n f').R M v:=by
 simp only [AV.R] at r ⊢
 rcases r with r | r | ⟨r1,r2,b,off,c,cs,r3,r4,r5,r6,r7⟩
 . exact .inl r
 . exact .inr (.inl r)
 . refine .inr (.inr ⟨r1,r2,b,off,c,cs,r3,r4,r5,r6,λ i hi j hj=>?_⟩)
   obtain ⟨u,q1,q2,q3⟩:=r7 i hi j hj
   exact ⟨u,q1,q2,by rw [<- e i j hj];exact q3⟩
def heap0:AH:=⟨.lf,0,0,[]⟩
theorem get0 (id:Nat):heap0.get id=none:=by unfold heap0 AH.get;exact Tr.get_lf _
theorem rel0 {w:World}(gw:GW w):Rel (Mw w) heap0 w:=by
 refine ⟨λ id o e=>?_,λ i j b κ κ' o e=>?_,λ x hx=>absurd (get0 x) hx,gw,λ x b κ o hx=>(by rw [get0] at hx;cases hx),λ b cs e=>?_,λ i b κ o e=>?_⟩
 . rw [get0] at e;cases e
 . rw [get0] at e;cases e
 . unfold Mw at e
   simp only at e
   split at e
   . unfold cellsW at e
     split at e
     . rename_i cs' t fr hb
       simp only [sI] at e;subst e
       exact ⟨t,fr,hb⟩
     . cases e
   . cases e
 . rw [get0] at e;cases e
theorem law_callsP {P:Program}{sm:FuncId->Option Sm}(hm:P.follows .mixedOrders=true)(hs:SmOK P sm){args:List AV}{us:List Value}{ann:Nat->Option (St->LoopA)}{n:Nat}{f:FuncId}{w:World}(gw:GW w)
 (hr:AV.RL (Mw w) args us) (h:wxF P sm ann n f args heap0 (λ r _=>cmpC (.yb true) r)) :
 Calls P f us.toArray w λ e w'=>e=.returned (.bool true)/\Below w.heap.size w w':=by
 obtain ⟨_,cc⟩:=wxF_ok hm hs h (Mw w) us w none (λ e w'=>e=.returned (.bool true)/\Below w.heap.size w w') hr (rel0 gw) (λ _ _=>rfl) (λ v _ M' u w' hk rv _ _ f _=>by
  refine ⟨?_,f.os,f.tape,f.output,f.size,λ k hk2=>f.keep k hk2 (λ ⟨i,κ,o,h1,_⟩=>by rw [get0] at h1;cases h1)⟩
  have:=cmpC_R hk rv (M':=noM)
  rw [this])
 exact CallsIn.calls cc (λ k d hd=>by simp [FW] at hd)
end Go.Proofs.Ytknfdbilpfblnaa.Ex
end
section
noncomputable section
namespace Go.Proofs.Ytknfdbilpfblnaa
open Go Go.RowKit
def _root_.Go.World.holds (w:World)(b:Nat):Prop:=b < w.heap.size
def _root_.Go.World.ext (w:World)(E:Array Obj)(n:Nat):World:={ w with heap:=w.heap ++ E,drawn:=n }
section
variable (w : World) (E : Array Obj) (n : Nat)
@[simp] theorem ext_size:(w.ext E n).heap.size=w.heap.size + E.size:=by simp [World.ext]
@[simp] theorem ext_tape:(w.ext E n).tape=w.tape:=rfl
@[simp] theorem ext_os:(w.ext E n).os=w.os:=rfl
@[simp] theorem ext_output:(w.ext E n).output=w.output:=rfl
theorem ext_heap (k:Nat)(h:k < w.heap.size):(w.ext E n).heap[k]?=w.heap[k]?:=by
 show (w.heap ++ E)[k]?=_
 rw [Array.getElem?_append_left h]
@[go_sem] theorem has_ext (b:Nat):(w.ext E n).holds b=(w.holds b ∨ (w.heap.size<=b/\b < w.heap.size + E.size)):=by
 simp only [World.holds,ext_size,eq_iff_iff];omega
@[go_sem] theorem has_alloc (o:Obj) (b:Nat):(w.alloc o).holds b=(b=w.heap.size ∨ w.holds b):=by
 simp only [World.holds,World.size_alloc,eq_iff_iff];omega
@[go_sem] theorem has_setCell (a:Addr) (v:Value) (b:Nat):(w.setCell a v).holds b=w.holds b:=by simp [World.holds]
@[go_sem] theorem has_drew (b:Nat):(w.drew).holds b=w.holds b:=rfl
@[go_sem] theorem has_drewN (k b:Nat):(w.drewN k).holds b=w.holds b:=rfl
@[go_sem] theorem ext_cell (b o:Nat) (h:w.holds b):(w.ext E n).cell? ⟨b,o,none⟩=w.cell? ⟨b,o,none⟩:=World.cell?_of_block (w:=w) (ext_heap w E n b h)
@[go_sem] theorem ext_frozen (b o:Nat) (h:w.holds b):(w.ext E n).frozen? ⟨b,o,none⟩=w.frozen? ⟨b,o,none⟩:=World.frozen?_of_block (w:=w) (ext_heap w E n b h)
@[go_sem] theorem ext_setCell (b o:Nat) (v:Value) (h:w.holds b):(w.ext E n).setCell ⟨b,o,none⟩ v=(w.setCell ⟨b,o,none⟩ v).ext E n:=by
 have h:b < w.heap.size:=h
 simp only [World.setCell,World.ext]
 congr 1
 apply Array.ext_getElem?
 intro i
 simp only [Array.getElem?_modify,Array.getElem?_append,Array.size_modify]
 by_cases hi:i < w.heap.size
 . simp [hi]
 . have:b ≠ i:=by omega
   simp [hi,this]
@[go_sem] theorem alloc_cell (x:Obj) (b o:Nat) (h:w.holds b):(w.alloc x).cell? ⟨b,o,none⟩=w.cell? ⟨b,o,none⟩:=World.cell?_alloc_past x b o h
@[go_sem] theorem alloc_frozen (x:Obj) (b o:Nat) (h:w.holds b):(w.alloc x).frozen? ⟨b,o,none⟩=w.frozen? ⟨b,o,none⟩:=World.frozen?_alloc_past x b o h
@[go_sem] theorem alloc_setCell (x:Obj) (b o:Nat) (v:Value) (h:w.holds b):(w.alloc x).setCell ⟨b,o,none⟩ v=(w.setCell ⟨b,o,none⟩ v).alloc x:=World.setCell_alloc_past x b o v h
@[go_sem] theorem ext_drew:(w.ext E n).drew=w.ext E (n + 1):=rfl
@[go_sem] theorem drew_ext:(w.drew).ext E n=w.ext E n:=rfl
@[go_sem] theorem ext_drewN (k:Nat):(w.ext E n).drewN k=w.ext E (n + k):=rfl
@[go_sem] theorem drewN_ext (k:Nat):(w.drewN k).ext E n=w.ext E n:=rfl
end
def Arr {α:Type}(w:World)(k:Nat)(enc:α->List Value)(v:Value)(l:List α):Prop:=
 ∃ a cap,v=.slice a l.length cap/\l.length<=cap/\cap<=9223372036854775807/\∀ i x,l[i]?=some x->∃ b o,a=some ⟨b,o,none⟩/\w.holds b ∧
   ∀ j u,(enc x)[j]?=some u->w.cell? ⟨b,o + i * k + j,none⟩=some u
structure Kp (S:Nat->Prop)(w w':World):Prop where
 os:w'.os=w.os
 tape:w'.tape=w.tape
 output:w'.output=w.output
 size:w.heap.size<=w'.heap.size
 block:∀ k,k < w.heap.size->¬ S k->w'.heap[k]?=w.heap[k]?
theorem Kp.of_below {S:Nat->Prop}{w w':World}(h:Below w.heap.size w w'):Kp S w w':=⟨h.os,h.tape,h.output,h.size,λ k hk _=>h.block k hk⟩
theorem Kp.below {S:Nat->Prop}{B:Nat}{w w':World}(h:Kp S w w')(hB:B<=w.heap.size)(hS:∀ k,S k->B<=k):Below B w w':=
 ⟨h.os,h.tape,h.output,h.size,λ k hk=>h.block k (by omega) (λ hs=>by have:=hS k hs;omega)⟩
theorem Arr.of_same {α:Type}{w w':World}{k:Nat}{enc:α->List Value}{v:Value}{l:List α}(h:Arr w k enc v l)(hs:w.heap.size<=w'.heap.size)
 (hb:∀ g,g < w.heap.size->v.ownBlock=some g->w'.heap[g]?=w.heap[g]?):Arr w' k enc v l:=by
 obtain ⟨a,cap,rfl,hl,hc,h⟩:=h
 refine ⟨a,cap,rfl,hl,hc,λ i x hx=>?_⟩
 obtain ⟨b,o,rfl,hlt,hcell⟩:=h i x hx
 refine ⟨b,o,rfl,Nat.lt_of_lt_of_le hlt hs,λ j u hu=>?_⟩
 rw [World.cell?_of_block (w:=w) (hb b hlt rfl)]
 exact hcell j u hu
theorem Arr.below {α:Type}{w w':World}{k:Nat}{enc:α->List Value}{v:Value}{l:List α}(h:Arr w k enc v l)(hb:Below w.heap.size w w'):Arr w' k enc v l:=
 h.of_same hb.size λ g hg _=>hb.block g hg
theorem Arr.kp {α:Type}{S:Nat->Prop}{w w':World}{k:Nat}{enc:α->List Value}{v:Value}{l:List α}(h:Arr w k enc v l)(hk:Kp S w w')(hS:∀ g,v.ownBlock=some g->¬ S g):Arr w' k enc v l:=
 h.of_same hk.size λ g hg hv=>hk.block g hg (hS g hv)
theorem Arr.zero {α:Type}(w:World)(k:Nat)(enc:α->List Value)(a:Option Addr)(cap:Nat)(hc:cap<=9223372036854775807):Arr w k enc (.slice a 0 cap) ([]:List α):=
 ⟨a,cap,rfl,Nat.zero_le _,hc,λ i x h=>by simp at h⟩
theorem Kp.of_grown {w w':World}{row:Option Nat}(h:w.grownBy w' row):Kp (λ g=>row=some g) w w':=
 ⟨h.os,h.tape,h.output,h.size,λ k hk hn=>h.block k hk (λ e=>hn e.symm)⟩
theorem Kp.weaken {S T:Nat->Prop}{a b:World}(h:Kp S a b)(hT:∀ g,S g->T g):Kp T a b:=⟨h.os,h.tape,h.output,h.size,λ k hk hn=>h.block k hk (λ hs=>hn (hT k hs))⟩
theorem Kp.trans {S T:Nat->Prop}{a b c:World}(h:Kp S a b)(k:Kp T b c)(hT:∀ g,g < a.heap.size->T g->S g):Kp S a c:=
 ⟨k.os.trans h.os,k.tape.trans h.tape,k.output.trans h.output,Nat.le_trans h.size k.size,λ i hi hn=>(k.block i (Nat.lt_of_lt_of_le hi h.size) (λ ht=>hn (hT i hi ht))).trans (h.block i hi hn)⟩
theorem below_of_ext (w:World)(E:Array Obj)(n:Nat):Below w.heap.size w (w.ext E n):=⟨rfl,rfl,rfl,by simp,λ k h=>ext_heap w E n k h⟩
theorem Arr.ext {α:Type}{w:World}{k:Nat}{enc:α->List Value}{v:Value}{l:List α}(h:Arr w k enc v l)(E:Array Obj)(n:Nat):Arr (w.ext E n) k enc v l:=h.below (below_of_ext w E n)
theorem Arr.drew {α:Type}{w:World}{k:Nat}{enc:α->List Value}{v:Value}{l:List α}(h:Arr w k enc v l):Arr w.drew k enc v l:=h
theorem Arr.drewN {α:Type}{w:World}{k:Nat}{enc:α->List Value}{v:Value}{l:List α}(h:Arr w k enc v l)(n:Nat):Arr (w.drewN n) k enc v l:=h
theorem Arr.alloc {α:Type}{w:World}{k:Nat}{enc:α->List Value}{v:Value}{l:List α}(h:Arr w k enc v l)(o:Obj):Arr (w.alloc o) k enc v l:=h.below (Joins.below_alloc1 w o)
end Go.Proofs.Ytknfdbilpfblnaa
end
section
noncomputable section
namespace Go.Proofs.Ytknfdbilpfblnaa.Ex
open Go
def samePairs (n m:Nat)(a0 a1 b0 b1:Nat->Int):Bool:=decide (n=m/\∀ i,i < n->a0 i=b0 i/\a1 i=b1 i)
def samePre (n:Nat)(a0 a1 b0 b1:Nat->Int)(i:Nat):Prop:=i<=n/\∀ k,k < i->a0 k=b0 k/\a1 k=b1 k
def msTo (n i:Nat):Nat:=n - i
abbrev cPair:Cs:=some (113,[.int .u64,.int .u64])
def annPairs (n:Nat)(a0 a1 b0 b1:Nat->Int)(b:Nat):Option (St->LoopA):=
 match b with
 | 0=>some λ _=>{ ι:=Nat,tms:=[5],tmU:=λ i=>[.y .i64 (yInt i)],ids:=[],hpU:=λ _=>[],del:=[],ex:=0,pre:=samePre n a0 a1 b0 b1,ms:=msTo n }
 | _=>none
abbrev dPairs (nilA:Bool)(n:Nat)(a0 a1:Nat->Int)(nilB:Bool)(m:Nat)(b0 b1:Nat->Int):List Da:=
 [.cell (.rows nilA n [.int .u64 a0,.int .u64 a1]),.cell (.rows nilB m [.int .u64 b0,.int .u64 b1])]
abbrev gPairs:List Ag:=[.cell cPair,.cell cPair]
def fPairs (ds:List Da):Option (Bool × AV):=
 match ds with
 | [.cell (.rows _ n [.int .u64 a0,.int .u64 a1]),.cell (.rows _ m [.int .u64 b0,.int .u64 b1])]=>some (yNle n 1000000,.yb (samePairs n m a0 a1 b0 b1))
 | _=>none
def goalPairs:Prop:=∀ (nilA:Bool) (n:Nat) (a0 a1:Nat->Int) (nilB:Bool) (m:Nat) (b0 b1:Nat->Int),yNle n 1000000=true →
 wxF Try.prog noSm (annPairs n a0 a1 b0 b1) 1000 44 (canA gPairs (dPairs nilA n a0 a1 nilB m b0 b1) []).1 (heapOf (canA gPairs (dPairs nilA n a0 a1 nilB m b0 b1) []).2) (λ v _=>cmpC (.yb (samePairs n m a0 a1 b0 b1)) v)
theorem goalPairs_eq:goalPairs=(∀ (nilA:Bool) (n:Nat) (a0 a1:Nat->Int) (nilB:Bool) (m:Nat) (b0 b1:Nat->Int),yNle n 1000000=true->(yNot (yEq (yInt n) (yInt m))=true->samePairs n m a0 a1 b0 b1=false)/\(yNot (yEq (yInt n) (yInt m))=false->true=true/\(∃ (i0:Nat),samePre n a0 a1 b0 b1 i0/\true=true/\yInt i0=0/\true=true)/\∀ (g:Nat->AV) (i:Nat),samePre n a0 a1 b0 b1 i->(yLt (yInt i) (yInt n)=true->(yIn (yInt i) n=true->(yNlt (yNadd 0 (yNat (yInt i))) n=true->(yIn (yInt i) m=true->(yNlt (yNadd 0 (yNat (yInt i))) m=true->(yNot (yAnd (yEq (a0 (yNadd 0 (yNat (yInt i)))) (b0 (yNadd 0 (yNat (yInt i))))) (yAnd (yEq (a1 (yNadd 0 (yNat (yInt i)))) (b1 (yNadd 0 (yNat (yInt i))))) true))=true->samePairs n m a0 a1 b0 b1=false)/\(yNot (yAnd (yEq (a0 (yNadd 0 (yNat (yInt i)))) (b0 (yNadd 0 (yNat (yInt i))))) (yAnd (yEq (a1 (yNadd 0 (yNat (yInt i)))) (b1 (yNadd 0 (yNat (yInt i))))) true))=false->true=true/\∃ (i':Nat),samePre n a0 a1 b0 b1 i'/\Nat.succ (msTo n i')<=msTo n i/\true=true/\yInt i'=yWrap .i64 (yAdd (yInt i) 1)/\true=true))/\(yNlt (yNadd 0 (yNat (yInt i))) m=false->False))/\(yIn (yInt i) m=false->False))/\(yNlt (yNadd 0 (yNat (yInt i))) n=false->False))/\(yIn (yInt i) n=false->False))/\(yLt (yInt i) (yInt n)=false->samePairs n m a0 a1 b0 b1=true))):=by kernel_rfl
theorem goalPairs_ok:goalPairs:=by
 refine kernel_go goalPairs_eq ?_
 intro nilA n a0 a1 nilB m b0 b1 hn
 simp only [yNot_t,yNot_f,yEq_t,yEq_f,yAnd_t,yAnd_f,yLt_t,yLt_f,yIn_t,yIn_f,yNlt_t,yNlt_f,yNle_t,yInt_e,yNat_e,yNadd_e,yAdd_e,true_and,and_true,Nat.zero_add] at hn ⊢
 refine ⟨λ h=>?_,λ h=>⟨⟨0,⟨Nat.zero_le _,λ k hk=>by omega⟩,rfl⟩,λ g i hi=>⟨λ hlt=>⟨λ _=>⟨λ _=>⟨λ _=>⟨λ _=>⟨λ h2=>?_,λ h2=>?_⟩,λ h2=>?_⟩,λ h2=>?_⟩,λ h2=>?_⟩,λ h2=>?_⟩,λ hge=>?_⟩⟩⟩
 . unfold samePairs;rw [decide_eq_false_iff_not];intro hc;exact h (by rw [hc.1])
 . unfold samePairs;rw [decide_eq_false_iff_not];intro hc
   have:=hc.2 i (by omega)
   rcases h2 with h2 | h2 | h2
   . exact h2 this.1
   . exact h2 this.2
   . cases h2
 . refine ⟨i + 1,⟨by omega,λ k hk=>?_⟩,?_,?_⟩
   . by_cases e:k=i
     . subst e;exact ⟨h2.1,h2.2⟩
     . exact hi.2 k (by omega)
   . unfold msTo;omega
   . rw [wrap64 (by omega) (by omega)];rfl
 . omega
 . omega
 . omega
 . omega
 . unfold samePairs;rw [decide_eq_true_eq]
   have:i=n:=by have:=hi.1;omega
   subst this
   exact ⟨by omega,hi.2⟩
theorem smPairs (hm:Try.prog.follows .mixedOrders=true):SmCall Try.prog 44 (λ args h=>(ctS gPairs fPairs args h).sel):=
 ctS_ok hm noSm_ok (by decide) (λ ds a h=>by
  unfold fPairs at h
  split at h
  . simp only [sI,Prod.mk.injEq] at h
    obtain ⟨h1,rfl⟩:=h
    rename_i nA n a0 a1 nB m b0 b1
    have h2:=goalPairs_ok
    unfold goalPairs at h2
    exact ⟨annPairs n a0 a1 b0 b1,1000,h2 nA n a0 a1 nB m b0 b1 h1⟩
  . cases h)
def annEqual (n:Nat)(a0 a1 b0 b1:Nat->Int)(b:Nat):Option (St->LoopA):=
 match b with
 | 0=>some λ _=>{ ι:=Nat,tms:=[13],tmU:=λ i=>[.y .i64 (yInt i)],ids:=[],hpU:=λ _=>[],del:=[],ex:=0,pre:=samePre n a0 a1 b0 b1,ms:=msTo n }
 | _=>none
def goalEqual:Prop:=∀ (nilA:Bool) (n:Nat) (a0 a1:Nat->Int) (nilB:Bool) (m:Nat) (b0 b1:Nat->Int),yNle n 1000000=true →
 wxF Try.prog noSm (annEqual n a0 a1 b0 b1) 1000 82 (canA gPairs (dPairs nilA n a0 a1 nilB m b0 b1) []).1 (heapOf (canA gPairs (dPairs nilA n a0 a1 nilB m b0 b1) []).2) (λ v _=>cmpC (.yb (samePairs n m a0 a1 b0 b1)) v)
theorem goalEqual_eq:goalEqual=(∀ (nilA:Bool) (n:Nat) (a0 a1:Nat->Int) (nilB:Bool) (m:Nat) (b0 b1:Nat->Int),yNle n 1000000=true->(yNot (yEq (yInt n) (yInt m))=true->samePairs n m a0 a1 b0 b1=false)/\(yNot (yEq (yInt n) (yInt m))=false->true=true/\(∃ (i0:Nat),samePre n a0 a1 b0 b1 i0/\true=true/\yInt i0=0/\true=true)/\∀ (g:Nat->AV) (i:Nat),samePre n a0 a1 b0 b1 i->(yLt (yInt i) (yInt n)=true->(yIn (yInt i) n=true->(yNlt (yNadd 0 (yNat (yInt i))) n=true->(yIn (yInt i) m=true->(yNlt (yNadd 0 (yNat (yInt i))) m=true->(yNot (yAnd (yEq (a0 (yNadd 0 (yNat (yInt i)))) (b0 (yNadd 0 (yNat (yInt i))))) (yAnd (yEq (a1 (yNadd 0 (yNat (yInt i)))) (b1 (yNadd 0 (yNat (yInt i))))) true))=true->samePairs n m a0 a1 b0 b1=false)/\(yNot (yAnd (yEq (a0 (yNadd 0 (yNat (yInt i)))) (b0 (yNadd 0 (yNat (yInt i))))) (yAnd (yEq (a1 (yNadd 0 (yNat (yInt i)))) (b1 (yNadd 0 (yNat (yInt i))))) true))=false->true=true/\∃ (i':Nat),samePre n a0 a1 b0 b1 i'/\Nat.succ (msTo n i')<=msTo n i/\true=true/\yInt i'=yWrap .i64 (yAdd (yInt i) 1)/\true=true))/\(yNlt (yNadd 0 (yNat (yInt i))) m=false->False))/\(yIn (yInt i) m=false->False))/\(yNlt (yNadd 0 (yNat (yInt i))) n=false->False))/\(yIn (yInt i) n=false->False))/\(yLt (yInt i) (yInt n)=false->samePairs n m a0 a1 b0 b1=true))):=by kernel_rfl
theorem goalEqual_ok:goalEqual:=by
 refine kernel_go goalEqual_eq ?_
 intro nilA n a0 a1 nilB m b0 b1 hn
 simp only [yNot_t,yNot_f,yEq_t,yEq_f,yAnd_t,yAnd_f,yLt_t,yLt_f,yIn_t,yIn_f,yNlt_t,yNlt_f,yNle_t,yInt_e,yNat_e,yNadd_e,yAdd_e,true_and,and_true,Nat.zero_add] at hn ⊢
 refine ⟨λ h=>?_,λ h=>⟨⟨0,⟨Nat.zero_le _,λ k hk=>by omega⟩,rfl⟩,λ g i hi=>⟨λ hlt=>⟨λ _=>⟨λ _=>⟨λ _=>⟨λ _=>⟨λ h2=>?_,λ h2=>?_⟩,λ h2=>?_⟩,λ h2=>?_⟩,λ h2=>?_⟩,λ h2=>?_⟩,λ hge=>?_⟩⟩⟩
 . unfold samePairs;rw [decide_eq_false_iff_not];intro hc;exact h (by rw [hc.1])
 . unfold samePairs;rw [decide_eq_false_iff_not];intro hc
   have:=hc.2 i (by omega)
   rcases h2 with h2 | h2 | h2
   . exact h2 this.1
   . exact h2 this.2
   . cases h2
 . refine ⟨i + 1,⟨by omega,λ k hk=>?_⟩,?_,?_⟩
   . by_cases e:k=i
     . subst e;exact ⟨h2.1,h2.2⟩
     . exact hi.2 k (by omega)
   . unfold msTo;omega
   . rw [wrap64 (by omega) (by omega)];rfl
 . omega
 . omega
 . omega
 . omega
 . unfold samePairs;rw [decide_eq_true_eq]
   have:i=n:=by have:=hi.1;omega
   subst this
   exact ⟨by omega,hi.2⟩
theorem smEqual (hm:Try.prog.follows .mixedOrders=true):SmCall Try.prog 82 (λ args h=>(ctS gPairs fPairs args h).sel):=
 ctS_ok hm noSm_ok (by decide) (λ ds a h=>by
  unfold fPairs at h
  split at h
  . simp only [sI,Prod.mk.injEq] at h
    obtain ⟨h1,rfl⟩:=h
    rename_i nA n a0 a1 nB m b0 b1
    have h2:=goalEqual_ok
    unfold goalEqual at h2
    exact ⟨annEqual n a0 a1 b0 b1,1000,h2 nA n a0 a1 nB m b0 b1 h1⟩
  . cases h)
def sm1 (f:FuncId):Option Sm:=
 bif Nat.beq f 44 then some (.ct (ctS gPairs fPairs)) else bif Nat.beq f 82 then some (.ct (ctS gPairs fPairs)) else none
theorem sm1_ok (hm:Try.prog.follows .mixedOrders=true):SmOK Try.prog sm1:=λ f=>by
 have key:∀ s,sm1 f=some s->s=.ct (ctS gPairs fPairs)/\SmCall Try.prog f (λ args h=>(ctS gPairs fPairs args h).sel):=λ s e=>by
  unfold sm1 at e
  simp only [nbeq,Bool.cond_decide] at e
  split at e
  . rename_i hf;subst hf;simp only [sI] at e;exact ⟨e.symm,smPairs hm⟩
  . split at e
    . rename_i hf;subst hf;simp only [sI] at e;exact ⟨e.symm,smEqual hm⟩
    . cases e
 refine ⟨λ g e=>?_,λ g e=>?_,λ g e=>?_⟩
 . have:=(key _ e).1;cases this
 . have:=(key _ e).1;cases this
 . obtain ⟨h1,h2⟩:=key _ e
   simp only [Sm.ct.injEq] at h1;subst h1;exact h2
def sameRes (k v:Int)(n:Nat)(a0 a1:Nat->Int)(k2 v2:Int)(m:Nat)(b0 b1:Nat->Int):Bool:=decide (k=k2) && decide (v=v2) && samePairs n m a0 a1 b0 b1
abbrev gResult:List Ag:=[.agg [none,none,cPair],.agg [none,none,cPair]]
def fSame (ds:List Da):Option (Bool × AV):=
 match ds with
 | [.agg [.v (.y .i64 k),.v (.y .u64 v),.rows _ n [.int .u64 a0,.int .u64 a1]],.agg [.v (.y .i64 k2),.v (.y .u64 v2),.rows _ m [.int .u64 b0,.int .u64 b1]]]=>some (yNle n 1000000,.yb (sameRes k v n a0 a1 k2 v2 m b0 b1))
 | _=>none
def goalSame (f:FuncId):Prop:=∀ (k v:Int) (nilA:Bool) (n:Nat) (a0 a1:Nat->Int) (k2 v2:Int) (nilB:Bool) (m:Nat) (b0 b1:Nat->Int),yNle n 1000000=true →
 wxF Try.prog sm1 (λ _=>none) 1000 f (canA gResult [.agg [.v (.y .i64 k),.v (.y .u64 v),.rows nilA n [.int .u64 a0,.int .u64 a1]],.agg [.v (.y .i64 k2),.v (.y .u64 v2),.rows nilB m [.int .u64 b0,.int .u64 b1]]] []).1
  (heapOf (canA gResult [.agg [.v (.y .i64 k),.v (.y .u64 v),.rows nilA n [.int .u64 a0,.int .u64 a1]],.agg [.v (.y .i64 k2),.v (.y .u64 v2),.rows nilB m [.int .u64 b0,.int .u64 b1]]] []).2) (λ r _=>cmpC (.yb (sameRes k v n a0 a1 k2 v2 m b0 b1)) r)
def goalSameRef:Prop:=goalSame 25
def goalSameMod:Prop:=goalSame 64
theorem goalSameRef_eq:goalSameRef=(∀ (k v:Int) (nilA:Bool) (n:Nat) (a0 a1:Nat->Int) (k2 v2:Int) (nilB:Bool) (m:Nat) (b0 b1:Nat->Int),
 yNle n 1000000=true →
  (yEq k k2=true →
    (yEq v v2=true →
      (yNle (yNadd 0 n) n=true →
        ((yCol (CK.int .u64) n λ (i:Nat)=>AV.y .u64 (a0 i))=true →
           ((yCol (CK.int .u64) n λ (i:Nat)=>AV.y .u64 (a1 i))=true →
              (yNle (yNadd 0 m) m=true →
                ((yCol (CK.int .u64) m λ (i:Nat)=>AV.y .u64 (b0 i))=true →
                   ((yCol (CK.int .u64) m λ (i:Nat)=>AV.y .u64 (b1 i))=true →
                      (yNle n 1000000=true →
                        sameRes k v n a0 a1 k2 v2 m b0 b1 =
                         samePairs n m (λ (i:Nat)=>a0 i) (λ (i:Nat)=>a1 i)
                          (λ (i:Nat)=>b0 i) λ (i:Nat)=>b1 i) ∧
                        (yNle n 1000000=false->False)) ∧
                     ((yCol (CK.int .u64) m λ (i:Nat)=>AV.y .u64 (b1 i))=false →
                       False)) ∧
                  ((yCol (CK.int .u64) m λ (i:Nat)=>AV.y .u64 (b0 i))=false →
                    False)) ∧
                (yNle (yNadd 0 m) m=false->False)) ∧
             ((yCol (CK.int .u64) n λ (i:Nat)=>AV.y .u64 (a1 i))=false->False)) ∧
          ((yCol (CK.int .u64) n λ (i:Nat)=>AV.y .u64 (a0 i))=false->False)) ∧
        (yNle (yNadd 0 n) n=false->False)) ∧
      (yEq v v2=false->sameRes k v n a0 a1 k2 v2 m b0 b1=false)) ∧
    (yEq k k2=false->sameRes k v n a0 a1 k2 v2 m b0 b1=false)):=by kernel_rfl
theorem goalSameMod_eq:goalSameMod=(∀ (k v:Int) (nilA:Bool) (n:Nat) (a0 a1:Nat->Int) (k2 v2:Int) (nilB:Bool) (m:Nat) (b0 b1:Nat->Int),
 yNle n 1000000=true →
  (yEq k k2=true →
    (yEq v v2=true →
      (yNle (yNadd 0 n) n=true →
        ((yCol (CK.int .u64) n λ (i:Nat)=>AV.y .u64 (a0 i))=true →
           ((yCol (CK.int .u64) n λ (i:Nat)=>AV.y .u64 (a1 i))=true →
              (yNle (yNadd 0 m) m=true →
                ((yCol (CK.int .u64) m λ (i:Nat)=>AV.y .u64 (b0 i))=true →
                   ((yCol (CK.int .u64) m λ (i:Nat)=>AV.y .u64 (b1 i))=true →
                      (yNle n 1000000=true →
                        sameRes k v n a0 a1 k2 v2 m b0 b1 =
                         samePairs n m (λ (i:Nat)=>a0 i) (λ (i:Nat)=>a1 i)
                          (λ (i:Nat)=>b0 i) λ (i:Nat)=>b1 i) ∧
                        (yNle n 1000000=false->False)) ∧
                     ((yCol (CK.int .u64) m λ (i:Nat)=>AV.y .u64 (b1 i))=false →
                       False)) ∧
                  ((yCol (CK.int .u64) m λ (i:Nat)=>AV.y .u64 (b0 i))=false →
                    False)) ∧
                (yNle (yNadd 0 m) m=false->False)) ∧
             ((yCol (CK.int .u64) n λ (i:Nat)=>AV.y .u64 (a1 i))=false->False)) ∧
          ((yCol (CK.int .u64) n λ (i:Nat)=>AV.y .u64 (a0 i))=false->False)) ∧
        (yNle (yNadd 0 n) n=false->False)) ∧
      (yEq v v2=false->sameRes k v n a0 a1 k2 v2 m b0 b1=false)) ∧
    (yEq k k2=false->sameRes k v n a0 a1 k2 v2 m b0 b1=false)):=by kernel_rfl
theorem sameRes_ok {f:FuncId}(he:goalSame f=(∀ (k v:Int) (nilA:Bool) (n:Nat) (a0 a1:Nat->Int) (k2 v2:Int) (nilB:Bool) (m:Nat) (b0 b1:Nat->Int),
 yNle n 1000000=true →
  (yEq k k2=true →
    (yEq v v2=true →
      (yNle (yNadd 0 n) n=true →
        ((yCol (CK.int .u64) n λ (i:Nat)=>AV.y .u64 (a0 i))=true →
           ((yCol (CK.int .u64) n λ (i:Nat)=>AV.y .u64 (a1 i))=true →
              (yNle (yNadd 0 m) m=true →
                ((yCol (CK.int .u64) m λ (i:Nat)=>AV.y .u64 (b0 i))=true →
                   ((yCol (CK.int .u64) m λ (i:Nat)=>AV.y .u64 (b1 i))=true →
                      (yNle n 1000000=true →
                        sameRes k v n a0 a1 k2 v2 m b0 b1 =
                         samePairs n m (λ (i:Nat)=>a0 i) (λ (i:Nat)=>a1 i)
                          (λ (i:Nat)=>b0 i) λ (i:Nat)=>b1 i) ∧
                        (yNle n 1000000=false->False)) ∧
                     ((yCol (CK.int .u64) m λ (i:Nat)=>AV.y .u64 (b1 i))=false →
                       False)) ∧
                  ((yCol (CK.int .u64) m λ (i:Nat)=>AV.y .u64 (b0 i))=false →
                    False)) ∧
                (yNle (yNadd 0 m) m=false->False)) ∧
             ((yCol (CK.int .u64) n λ (i:Nat)=>AV.y .u64 (a1 i))=false->False)) ∧
          ((yCol (CK.int .u64) n λ (i:Nat)=>AV.y .u64 (a0 i))=false->False)) ∧
        (yNle (yNadd 0 n) n=false->False)) ∧
      (yEq v v2=false->sameRes k v n a0 a1 k2 v2 m b0 b1=false)) ∧
    (yEq k k2=false->sameRes k v n a0 a1 k2 v2 m b0 b1=false))):goalSame f:=by
 refine kernel_go he ?_
 intro k v nilA n a0 a1 k2 v2 nilB m b0 b1 hn
 simp only [vS,forall_const] at hn ⊢
 unfold sameRes
 refine ⟨λ h=>⟨λ h2=>?_,λ h2=>by simp [h2]⟩,λ h=>by simp [h]⟩
 simp [h,h2,hn]
theorem goalSameRef_ok:goalSame 25:=@sameRes_ok _ goalSameRef_eq
theorem goalSameMod_ok:goalSame 64:=@sameRes_ok _ goalSameMod_eq
theorem smSame (hm:Try.prog.follows .mixedOrders=true){f:FuncId}(hf:goalSame f):SmCall Try.prog f (λ args h=>(ctS gResult fSame args h).sel):=
 ctS_ok hm (sm1_ok hm) (by decide) (λ ds a h=>by
  unfold fSame at h
  split at h
  . rename_i k v nA n a0 a1 k2 v2 nB m b0 b1
    simp only [sI,Prod.mk.injEq] at h
    obtain ⟨h1,rfl⟩:=h
    have h2:=hf
    unfold goalSame at h2
    exact ⟨λ _=>none,1000,h2 k v nA n a0 a1 k2 v2 nB m b0 b1 h1⟩
  . cases h)
structure EvS where
 kd:Nat->Int
 th:Nat->Int
 id:Nat->Int
 at_:Nat->Int
 ok:Nat->Int
 key:Nat->Int
 val:Nat->Int
 hi:Nat->Int
 most:Nat->Int
 rk:Nat->Int
 rv:Nat->Int
 nil:Nat->Bool
 pn:Nat->Nat
 pk:Nat->Nat->Int
 pv:Nat->Nat->Int
instance:Inhabited EvS:=⟨⟨λ _=>0,λ _=>0,λ _=>0,λ _=>0,λ _=>0,λ _=>0,λ _=>0,λ _=>0,λ _=>0,λ _=>0,λ _=>0,λ _=>true,λ _=>0,λ _ _=>0,λ _ _=>0⟩⟩
def eKd (E:EvS)(i:Nat):Int:=E.kd i
def eTh (E:EvS)(i:Nat):Int:=E.th i
def eId (E:EvS)(i:Nat):Int:=E.id i
def eAt (E:EvS)(i:Nat):Int:=E.at_ i
def eOk (E:EvS)(i:Nat):Int:=E.ok i
def eKey (E:EvS)(i:Nat):Int:=E.key i
def eVal (E:EvS)(i:Nat):Int:=E.val i
def eHi (E:EvS)(i:Nat):Int:=E.hi i
def eMost (E:EvS)(i:Nat):Int:=E.most i
def eRk (E:EvS)(i:Nat):Int:=E.rk i
def eRv (E:EvS)(i:Nat):Int:=E.rv i
def eNil (E:EvS)(i:Nat):Bool:=E.nil i
def ePn (E:EvS)(i:Nat):Nat:=E.pn i
def ePk (E:EvS)(i j:Nat):Int:=E.pk i j
def ePv (E:EvS)(i j:Nat):Int:=E.pv i j
abbrev kEv:List CK:=[.int .i64,.int .i64,.int .i64,.int .i64,.int .i64,.int .u64,.int .u64,.int .u64,.int .i64,.int .i64,.int .u64,.ls [.int .u64,.int .u64]]
abbrev colsE (E:EvS):List Col:=[.int .i64 (eKd E),.int .i64 (eTh E),.int .i64 (eId E),.int .i64 (eAt E),.int .i64 (eOk E),.int .u64 (eKey E),.int .u64 (eVal E),.int .u64 (eHi E),.int .i64 (eMost E),.int .i64 (eRk E),.int .u64 (eRv E),.ls (eNil E) (ePn E) [.int .u64 (ePk E),.int .u64 (ePv E)]]
def rightE (k most:Int):Bool:=bif yEq k 4 then yAnd (yLe 1 most) (yLe most 1000) else yAnd (yLe 1 k) (yLe k 3)
structure GS where
 ok:Bool
 n:Nat
 at_:Int
 p:Int->Bool
 v:Int->Int
 ev:Nat->Nat
 en:Nat->Nat
def zeroR (E:EvS)(i:Nat):Bool:=sameRes (eRk E i) (eRv E i) (ePn E i) (ePk E i) (ePv E i) 0 0 0 (λ _=>0) (λ _=>0)
def sameOp (E:EvS)(a b:Nat):Bool:=yAnd (yEq (eOk E a) (eOk E b)) (yAnd (yEq (eKey E a) (eKey E b)) (yAnd (yEq (eVal E a) (eVal E b)) (yAnd (yEq (eHi E a) (eHi E b)) (yEq (eMost E a) (eMost E b)))))
def gs1 (E:EvS)(i:Nat)(g:GS):GS:=
 if eAt E i < g.at_ ∨ eTh E i < 0 then { g with ok:=false }
 else if eKd E i=1 then
  (if g.p (eTh E i)=true ∨ eId E i ≠ g.n + 1 ∨ rightE (eOk E i) (eMost E i)=false ∨ zeroR E i=false then { g with ok:=false }
   else { ok:=true,n:=g.n + 1,at_:=eAt E i,p:=λ x=>yOr (yEq x (eTh E i)) (g.p x),v:=λ x=>ySel (yEq x (eTh E i)) g.n (g.v x),ev:=λ j=>if j=g.n then i else g.ev j,en:=λ j=>if j=g.n then 0 else g.en j })
 else if eKd E i=2 then
  (if g.p (eTh E i)=false ∨ eId E (g.ev (g.v (eTh E i)).toNat) ≠ eId E i ∨ sameOp E (g.ev (g.v (eTh E i)).toNat) i=false then { g with ok:=false }
   else { g with at_:=eAt E i,p:=λ x=>yAnd (yNot (yEq x (eTh E i))) (g.p x),en:=λ j=>if j=(g.v (eTh E i)).toNat then i + 1 else g.en j })
 else { g with ok:=false }
def gS (E:EvS):Nat->GS
 | 0=>⟨true,0,0,λ _=>false,λ _=>0,λ _=>0,λ _=>0⟩
 | i + 1=>bif (gS E i).ok then gs1 E i (gS E i) else gS E i
def gOk (E:EvS)(i:Nat):Bool:=(gS E i).ok
def gN (E:EvS)(i:Nat):Nat:=(gS E i).n
def gAt (E:EvS)(i:Nat):Int:=(gS E i).at_
def gP (E:EvS)(i:Nat)(x:Int):Bool:=(gS E i).p x
def gV (E:EvS)(i:Nat)(x:Int):Int:=(gS E i).v x
def gEv (E:EvS)(i j:Nat):Nat:=(gS E i).ev j
def gEn (E:EvS)(i j:Nat):Nat:=(gS E i).en j
def cTo (E:EvS)(e:Nat):Int:=match e with | 0=>-1 | e + 1=>eAt E e
def cOv (e:Nat):Bool:=match e with | 0=>false | _ + 1=>true
def cRk (E:EvS)(e:Nat):Int:=match e with | 0=>0 | e + 1=>eRk E e
def cRv (E:EvS)(e:Nat):Int:=match e with | 0=>0 | e + 1=>eRv E e
def cNil (E:EvS)(e:Nat):Bool:=match e with | 0=>true | e + 1=>eNil E e
def cPn (E:EvS)(e:Nat):Nat:=match e with | 0=>0 | e + 1=>ePn E e
def cPk (E:EvS)(e p:Nat):Int:=match e with | 0=>0 | e + 1=>ePk E e p
def cPv (E:EvS)(e p:Nat):Int:=match e with | 0=>0 | e + 1=>ePv E e p
abbrev kCl:List CK:=[.int .i64,.int .i64,.int .i64,.int .u64,.int .u64,.int .u64,.int .i64,.int .i64,.int .i64,.bool,.int .i64,.int .u64,.ls [.int .u64,.int .u64]]
abbrev colsG (E:EvS)(i:Nat):List Col:=[.int .i64 (λ j=>eId E (gEv E i j)),.int .i64 (λ j=>eTh E (gEv E i j)),.int .i64 (λ j=>eOk E (gEv E i j)),.int .u64 (λ j=>eKey E (gEv E i j)),.int .u64 (λ j=>eVal E (gEv E i j)),.int .u64 (λ j=>eHi E (gEv E i j)),.int .i64 (λ j=>eMost E (gEv E i j)),.int .i64 (λ j=>eAt E (gEv E i j)),.int .i64 (λ j=>cTo E (gEn E i j)),.bool (λ j=>cOv (gEn E i j)),.int .i64 (λ j=>cRk E (gEn E i j)),.int .u64 (λ j=>cRv E (gEn E i j)),.ls (λ j=>cNil E (gEn E i j)) (λ j=>cPn E (gEn E i j)) [.int .u64 (λ j=>cPk E (gEn E i j)),.int .u64 (λ j=>cPv E (gEn E i j))]]
def prGn (E:EvS)(n i:Nat):Prop:=i<=n/\gOk E i=true
def mGn (n i:Nat):Nat:=n - i
abbrev slG (id k:Nat):AV:=.ysl false (yNeq k 0) id 13 0 k
def annGn (E:EvS)(n:Nat)(b:Nat):Option (St->LoopA):=
 match b with
 | 0=>some λ _=>{ ι:=Nat,tms:=[4,6,14],tmU:=λ i=>[slG 1 (gN E i),.y .i64 (gAt E i),.y .i64 (yInt i)],ids:=[0,1],hpU:=λ i=>[.mapy .i64 .i64 (gP E i) (gV E i),.arr false 62 13 (gN E i) (colF (colsG E i))],del:=[],ex:=1,pre:=prGn E n,ms:=mGn n }
 | _=>none
def preE (E:EvS)(n:Nat):Bool:=decide (n<=200/\∀ i,i < n->ePn E i<=50)
def resN (E:EvS)(n:Nat):Nat:=bif gOk E n then gN E n else 0
abbrev sEv:Sx:=.pl kEv
abbrev rGn:Sx:=.tup [.own 62 kCl,.sc]
abbrev dGn (E:EvS)(n:Nat):Dx:=.l [.rows (yNeq (resN E n) 0) (resN E n) (colsG E n),.v (.yb (gOk E n))]
def fRgE (ds:List Da):Option (Bool × AV):=
 match ds with
 | [.agg [.v (.y .i64 k),.v (.y .u64 _),.v (.y .u64 _),.v (.y .u64 _),.v (.y .i64 most)]]=>some (true,.yb (rightE k most))
 | _=>none
abbrev gOp:List Ag:=[.agg [none,none,none,none,none]]
def goalRgE:Prop:=∀ (k key val hi most:Int),wxF Try.prog noSm (λ _=>none) 1000 52 (canA gOp [.agg [.v (.y .i64 k),.v (.y .u64 key),.v (.y .u64 val),.v (.y .u64 hi),.v (.y .i64 most)]] []).1 (heapOf (canA gOp [.agg [.v (.y .i64 k),.v (.y .u64 key),.v (.y .u64 val),.v (.y .u64 hi),.v (.y .i64 most)]] []).2) (λ v _=>cmpC (.yb (rightE k most)) v)
def lGn:List (Nat × Sm):=[(52,.ct (ctS gOp fRgE)),(64,.ct (ctS gResult fSame))]
abbrev wxH (P:Program)(sm:FuncId->Option Sm)(ann:Nat->Option (St->LoopA))(f:FuncId)(ss:List Sx)(ds:List Dx)(rs:Sx)(r:Dx)(post:List (List Dx)):Prop:=
 wxF P sm ann 1000 f (canXs nmI ss ds []).1 (heapOf (canXs nmI ss ds []).2)
  (postX (canXs nmI ss ds []).2.length (delX 0 (canXs nmI ss ds []).2 (ptrId ss (canXs nmI ss ds []).1)) (ptrId ss (canXs nmI ss ds []).1) (expR (λ j=>(canXs nmI ss ds []).2.length + j) (ptrSh ss ds) rs r post))
def fGn (ds:List Dx):Option (Bool × Dx × List (List Dx)):=
 match ds with
 | [.rows _ n [.int .i64 kd,.int .i64 th,.int .i64 id,.int .i64 at_,.int .i64 ok,.int .u64 key,.int .u64 val,.int .u64 hi,.int .i64 most,.int .i64 rk,.int .u64 rv,.ls nil pn [.int .u64 pk,.int .u64 pv]]]=>
   some (preE ⟨kd,th,id,at_,ok,key,val,hi,most,rk,rv,nil,pn,pk,pv⟩ n,dGn ⟨kd,th,id,at_,ok,key,val,hi,most,rk,rv,nil,pn,pk,pv⟩ n,[])
 | _=>none
def goalGn:Prop:=∀ (E:EvS) (nil:Bool) (n:Nat),preE E n=true->wxH Try.prog (smL lGn) (annGn E n) 33 [sEv] [.rows nil n (colsE E)] rGn (dGn E n) []
theorem goalRgE_eq:goalRgE=(∀ (k key val hi most:Int),(yEq k (4:Int)=true->(yLe (1:Int) most=true->rightE k most=yLe most (1000:Int))/\(yLe (1:Int) most=false->rightE k most=false))/\(yEq k (4:Int)=false->(yLe (1:Int) k=true->rightE k most=yLe k (3:Int))/\(yLe (1:Int) k=false->rightE k most=false))):=by kernel_rfl
def goalGn_1 (E:EvS)(i:Nat):=ySel (gP E i (eTh E (yNat (yInt i)))) (gV E i (eTh E (yNat (yInt i)))) 0
def goalGn_0 (E:EvS)(i:Nat):=yNadd 0 (yNat (goalGn_1 E i))
def goalGn_2 (E:EvS)(i:Nat):=yAnd (yEq (eOk E (gEv E i (goalGn_0 E i))) (eOk E (yNat (yInt i)))) (yAnd (yEq (eKey E (gEv E i (goalGn_0 E i))) (eKey E (yNat (yInt i)))) (yAnd (yEq (eVal E (gEv E i (goalGn_0 E i))) (eVal E (yNat (yInt i)))) (yAnd (yEq (eHi E (gEv E i (goalGn_0 E i))) (eHi E (yNat (yInt i)))) (yAnd (yEq (eMost E (gEv E i (goalGn_0 E i))) (eMost E (yNat (yInt i)))) true))))
def goalGn_3 (E:EvS)(i:Nat):=sameRes (eRk E (yNat (yInt i))) (eRv E (yNat (yInt i))) (ePn E (yNat (yInt i))) (λ (i_1:Nat)=>ePk E (yNat (yInt i)) i_1) (λ (i_1:Nat)=>ePv E (yNat (yInt i)) i_1) 0 0 0 (λ (i:Nat)=>(0:Int)) λ (i:Nat)=>(0:Int)
def goalGnV:Prop:=(∀ (E:EvS) (nil:Bool) (n:Nat),preE E n=true->true=true/\(∃ (i0:Nat),prGn E n i0/\true=true/\yNeq (gN E i0) (nat_lit 0)=true/\gN E i0=nat_lit 0/\gAt E i0=(0:Int)/\yInt i0=(0:Int)/\(∀ (x:Int),gP E i0 x=false)/\gN E i0=nat_lit 0/\true=true/\true=true)/\∀ (g:Nat->AV) (i:Nat),prGn E n i->(yLt (yInt i) (yInt n)=true->mst (yIn (yInt i) n) ((yLt (eAt E (yNat (yInt i))) (gAt E i)=true->yNeq (resN E n) (nat_lit 0)=true/\resN E n=nat_lit 0/\gOk E n=false/\resN E n=nat_lit 0/\true=true/\true=true)/\(yLt (eAt E (yNat (yInt i))) (gAt E i)=false->(yLt (eTh E (yNat (yInt i))) (0:Int)=true->yNeq (resN E n) (nat_lit 0)=true/\resN E n=nat_lit 0/\gOk E n=false/\resN E n=nat_lit 0/\true=true/\true=true)/\(yLt (eTh E (yNat (yInt i))) (0:Int)=false->(yEq (eKd E (yNat (yInt i))) (1:Int)=true->(gP E i (eTh E (yNat (yInt i)))=true->yNeq (resN E n) (nat_lit 0)=true/\resN E n=nat_lit 0/\gOk E n=false/\resN E n=nat_lit 0/\true=true/\true=true)/\(gP E i (eTh E (yNat (yInt i)))=false->(yNot (yEq (eId E (yNat (yInt i))) (yWrap .i64 (yAdd (yInt (gN E i)) 1)))=true->yNeq (resN E n) (nat_lit 0)=true/\resN E n=nat_lit 0/\gOk E n=false/\resN E n=nat_lit 0/\true=true/\true=true)/\(yNot (yEq (eId E (yNat (yInt i))) (yWrap .i64 (yAdd (yInt (gN E i)) 1)))=false->mst (true) ((yNot (rightE (eOk E (yNat (yInt i))) (eMost E (yNat (yInt i))))=true->yNeq (resN E n) (nat_lit 0)=true/\resN E n=nat_lit 0/\gOk E n=false/\resN E n=nat_lit 0/\true=true/\true=true)/\(yNot (rightE (eOk E (yNat (yInt i))) (eMost E (yNat (yInt i))))=false->mst (yCol (CK.int .u64) (ePn E (yNat (yInt i))) λ (i_1:Nat)=>AV.y .u64 (ePk E (yNat (yInt i)) i_1)) (mst (yCol (CK.int .u64) (ePn E (yNat (yInt i))) λ (i_1:Nat)=>AV.y .u64 (ePv E (yNat (yInt i)) i_1)) (mst (yNle (ePn E (yNat (yInt i))) 1000000) ((yNot (goalGn_3 E i)=true->yNeq (resN E n) (nat_lit 0)=true/\resN E n=nat_lit 0/\gOk E n=false/\resN E n=nat_lit 0/\true=true/\true=true)/\(yNot (goalGn_3 E i)=false->mst (yNeq (gN E i) (gN E i)) (mst (yGrow (yNadd (gN E i) 1) 120) (true=true/\∃ (i':Nat),prGn E n i'/\Nat.succ (mGn n i')<=mGn n i/\true=true/\yNeq (gN E i') (nat_lit 0)=yAnd (yNeq (gN E i) 0) (yNeq 1 0)/\nat_lit 0=nat_lit 0/\gN E i'=yNadd (gN E i) 1/\gAt E i'=eAt E (yNat (yInt i))/\yInt i'=yWrap .i64 (yAdd (yInt i) 1)/\(∀ (x:Int),gP E i' x=yOr (yEq x (eTh E (yNat (yInt i)))) (gP E i x)/\(gP E i' x=true->gV E i' x=ySel (yEq x (eTh E (yNat (yInt i)))) (yInt (gN E i)) (gV E i x)))/\gN E i'=yNadd (gN E i) 1/\(∀ (i_1:Nat),Nat.succ i_1<=gN E i'->eId E (gEv E i' i_1)=ySel (yNlt i_1 (gN E i)) (eId E (gEv E i i_1)) (eId E (yNat (yInt i)))/\eTh E (gEv E i' i_1)=ySel (yNlt i_1 (gN E i)) (eTh E (gEv E i i_1)) (eTh E (yNat (yInt i)))/\eOk E (gEv E i' i_1)=ySel (yNlt i_1 (gN E i)) (eOk E (gEv E i i_1)) (eOk E (yNat (yInt i)))/\eKey E (gEv E i' i_1)=ySel (yNlt i_1 (gN E i)) (eKey E (gEv E i i_1)) (eKey E (yNat (yInt i)))/\eVal E (gEv E i' i_1)=ySel (yNlt i_1 (gN E i)) (eVal E (gEv E i i_1)) (eVal E (yNat (yInt i)))/\eHi E (gEv E i' i_1)=ySel (yNlt i_1 (gN E i)) (eHi E (gEv E i i_1)) (eHi E (yNat (yInt i)))/\eMost E (gEv E i' i_1)=ySel (yNlt i_1 (gN E i)) (eMost E (gEv E i i_1)) (eMost E (yNat (yInt i)))/\eAt E (gEv E i' i_1)=ySel (yNlt i_1 (gN E i)) (eAt E (gEv E i i_1)) (eAt E (yNat (yInt i)))/\cTo E (gEn E i' i_1)=ySel (yNlt i_1 (gN E i)) (cTo E (gEn E i i_1)) (-1:Int)/\cOv (gEn E i' i_1)=ySelB (yNlt i_1 (gN E i)) (cOv (gEn E i i_1)) false/\cRk E (gEn E i' i_1)=ySel (yNlt i_1 (gN E i)) (cRk E (gEn E i i_1)) 0/\cRv E (gEn E i' i_1)=ySel (yNlt i_1 (gN E i)) (cRv E (gEn E i i_1)) 0/\(cNil E (gEn E i' i_1)=ySelB (yNlt i_1 (gN E i)) (cNil E (gEn E i i_1)) true/\cPn E (gEn E i' i_1)=ySelN (yNlt i_1 (gN E i)) (cPn E (gEn E i i_1)) 0/\∀ (i_2:Nat),Nat.succ i_2<=cPn E (gEn E i' i_1)->cPk E (gEn E i' i_1) i_2=cPk E (gEn E i i_1) i_2/\cPv E (gEn E i' i_1) i_2=cPv E (gEn E i i_1) i_2/\True)/\True)/\true=true)))))))))))/\(yEq (eKd E (yNat (yInt i))) (1:Int)=false->(yEq (eKd E (yNat (yInt i))) (2:Int)=true->(gP E i (eTh E (yNat (yInt i)))=true->mst (yIn (goalGn_1 E i) (gN E i)) (mst (yNlt (goalGn_0 E i) (gN E i)) ((yNot (yEq (eId E (gEv E i (goalGn_0 E i))) (eId E (yNat (yInt i))))=true->yNeq (resN E n) (nat_lit 0)=true/\resN E n=nat_lit 0/\gOk E n=false/\resN E n=nat_lit 0/\true=true/\true=true)/\(yNot (yEq (eId E (gEv E i (goalGn_0 E i))) (eId E (yNat (yInt i))))=false->mst (yIn (goalGn_1 E i) (gN E i)) (mst (yNlt (goalGn_0 E i) (gN E i)) ((yNot (goalGn_2 E i)=true->yNeq (resN E n) (nat_lit 0)=true/\resN E n=nat_lit 0/\gOk E n=false/\resN E n=nat_lit 0/\true=true/\true=true)/\(yNot (goalGn_2 E i)=false->mst (yIn (goalGn_1 E i) (gN E i)) (mst (yNlt (goalGn_0 E i) (gN E i)) (mst (yIn (goalGn_1 E i) (gN E i)) (mst (yNlt (goalGn_0 E i) (gN E i)) (mst (yIn (goalGn_1 E i) (gN E i)) (mst (yNlt (goalGn_0 E i) (gN E i)) (true=true/\∃ (i':Nat),prGn E n i'/\Nat.succ (mGn n i')<=mGn n i/\true=true/\yNeq (gN E i') (nat_lit 0)=yNeq (gN E i) 0/\nat_lit 0=nat_lit 0/\gN E i'=gN E i/\gAt E i'=eAt E (yNat (yInt i))/\yInt i'=yWrap .i64 (yAdd (yInt i) 1)/\(∀ (x:Int),gP E i' x=yAnd (yNot (yEq x (eTh E (yNat (yInt i))))) (gP E i x)/\(gP E i' x=true->gV E i' x=gV E i x))/\gN E i'=gN E i/\(∀ (i_1:Nat),Nat.succ i_1<=gN E i'->eId E (gEv E i' i_1)=eId E (gEv E i i_1)/\eTh E (gEv E i' i_1)=eTh E (gEv E i i_1)/\eOk E (gEv E i' i_1)=eOk E (gEv E i i_1)/\eKey E (gEv E i' i_1)=eKey E (gEv E i i_1)/\eVal E (gEv E i' i_1)=eVal E (gEv E i i_1)/\eHi E (gEv E i' i_1)=eHi E (gEv E i i_1)/\eMost E (gEv E i' i_1)=eMost E (gEv E i i_1)/\eAt E (gEv E i' i_1)=eAt E (gEv E i i_1)/\cTo E (gEn E i' i_1)=ySel (yNeq i_1 (goalGn_0 E i)) (eAt E (yNat (yInt i))) (cTo E (gEn E i i_1))/\cOv (gEn E i' i_1)=ySelB (yNeq i_1 (goalGn_0 E i)) true (cOv (gEn E i i_1))/\cRk E (gEn E i' i_1)=ySel (yNeq i_1 (goalGn_0 E i)) (eRk E (yNat (yInt i))) (cRk E (gEn E i i_1))/\cRv E (gEn E i' i_1)=ySel (yNeq i_1 (goalGn_0 E i)) (eRv E (yNat (yInt i))) (cRv E (gEn E i i_1))/\(cNil E (gEn E i' i_1)=ySelB (yNeq i_1 (goalGn_0 E i)) (eNil E (yNat (yInt i))) (cNil E (gEn E i i_1))/\cPn E (gEn E i' i_1)=ySelN (yNeq i_1 (goalGn_0 E i)) (ePn E (yNat (yInt i))) (cPn E (gEn E i i_1))/\∀ (i_2:Nat),Nat.succ i_2<=cPn E (gEn E i' i_1)->cPk E (gEn E i' i_1) i_2=ySel (yNeq i_1 (goalGn_0 E i)) (ePk E (yNat (yInt i)) i_2) (cPk E (gEn E i i_1) i_2)/\cPv E (gEn E i' i_1) i_2=ySel (yNeq i_1 (goalGn_0 E i)) (ePv E (yNat (yInt i)) i_2) (cPv E (gEn E i i_1) i_2)/\True)/\True)/\true=true)))))))))))))/\(gP E i (eTh E (yNat (yInt i)))=false->yNeq (resN E n) (nat_lit 0)=true/\resN E n=nat_lit 0/\gOk E n=false/\resN E n=nat_lit 0/\true=true/\true=true))/\(yEq (eKd E (yNat (yInt i))) (2:Int)=false->yNeq (resN E n) (nat_lit 0)=true/\resN E n=nat_lit 0/\gOk E n=false/\resN E n=nat_lit 0/\true=true/\true=true))))))/\(yLt (yInt i) (yInt n)=false->yNeq (resN E n) (nat_lit 0)=yNeq (gN E i) 0/\nat_lit 0=nat_lit 0/\resN E n=gN E i/\gOk E n=true/\resN E n=gN E i/\(∀ (i_1:Nat),Nat.succ i_1<=resN E n->eId E (gEv E n i_1)=eId E (gEv E i i_1)/\eTh E (gEv E n i_1)=eTh E (gEv E i i_1)/\eOk E (gEv E n i_1)=eOk E (gEv E i i_1)/\eKey E (gEv E n i_1)=eKey E (gEv E i i_1)/\eVal E (gEv E n i_1)=eVal E (gEv E i i_1)/\eHi E (gEv E n i_1)=eHi E (gEv E i i_1)/\eMost E (gEv E n i_1)=eMost E (gEv E i i_1)/\eAt E (gEv E n i_1)=eAt E (gEv E i i_1)/\cTo E (gEn E n i_1)=cTo E (gEn E i i_1)/\cOv (gEn E n i_1)=cOv (gEn E i i_1)/\cRk E (gEn E n i_1)=cRk E (gEn E i i_1)/\cRv E (gEn E n i_1)=cRv E (gEn E i i_1)/\(cNil E (gEn E n i_1)=cNil E (gEn E i i_1)/\cPn E (gEn E n i_1)=cPn E (gEn E i i_1)/\∀ (i_2:Nat),Nat.succ i_2<=cPn E (gEn E n i_1)->cPk E (gEn E n i_1) i_2=cPk E (gEn E i i_1) i_2/\cPv E (gEn E n i_1) i_2=cPv E (gEn E i i_1) i_2/\True)/\True)/\true=true))
theorem goalGn_eq:goalGn=goalGnV:=by kernel_rfl
theorem goalRgE_ok:goalRgE:=by
 refine @kernel_go _ _ goalRgE_eq ?_
 intro k _ _ _ most
 unfold rightE
 refine ⟨λ h=>?_,λ h=>?_⟩
 . rw [h]
   exact ⟨λ h2=>by simp only [cond_true];rw [h2];rfl,λ h2=>by simp only [cond_true];rw [h2];rfl⟩
 . rw [h]
   exact ⟨λ h2=>by simp only [cond_false];rw [h2];rfl,λ h2=>by simp only [cond_false];rw [h2];rfl⟩
theorem gS_step {E:EvS}{i:Nat}(h:gOk E i=true):gS E (i + 1)=gs1 E i (gS E i):=by
 have h:(gS E i).ok=true:=h
 show (bif (gS E i).ok then gs1 E i (gS E i) else gS E i)=_
 rw [h];rfl
theorem gOk_stay {E:EvS}{i:Nat}(h:gOk E i=false):∀ k,gOk E (i + k)=false
 | 0=>h
 | k + 1=>by
   have ih:(gS E (i + k)).ok=false:=gOk_stay h k
   show (bif (gS E (i + k)).ok then gs1 E (i + k) (gS E (i + k)) else gS E (i + k)).ok=false
   rw [ih];exact ih
theorem gBad {E:EvS}{i n:Nat}(hin:i < n)(h:(gs1 E i (gS E i)).ok=false)(hok:gOk E i=true):resN E n=0/\resN E n=0/\gOk E n=false/\resN E n=0:=by
 have h1:gOk E (i + 1)=false:=by
  show (gS E (i + 1)).ok=false
  rw [gS_step hok];exact h
 have h2:=gOk_stay h1 (n - (i + 1))
 rw [show i + 1 + (n - (i + 1))=n by omega] at h2
 have h3:resN E n=0:=by unfold resN;rw [h2];rfl
 exact ⟨h3,h3,h2,h3⟩
theorem gs1_f1 {E:EvS}{i:Nat}{g:GS}(h:eAt E i < g.at_ ∨ eTh E i < 0):(gs1 E i g).ok=false:=by unfold gs1;rw [if_pos h]
theorem gs1_f2 {E:EvS}{i:Nat}{g:GS}(h1:¬ (eAt E i < g.at_ ∨ eTh E i < 0))(h2:eKd E i=1)(h:g.p (eTh E i)=true ∨ eId E i ≠ g.n + 1 ∨ rightE (eOk E i) (eMost E i)=false ∨ zeroR E i=false):(gs1 E i g).ok=false:=by
 unfold gs1;rw [if_neg h1,if_pos h2,if_pos h]
theorem gs1_t2 {E:EvS}{i:Nat}{g:GS}(h1:¬ (eAt E i < g.at_ ∨ eTh E i < 0))(h2:eKd E i=1)(h:¬ (g.p (eTh E i)=true ∨ eId E i ≠ g.n + 1 ∨ rightE (eOk E i) (eMost E i)=false ∨ zeroR E i=false)):
 gs1 E i g={ ok:=true,n:=g.n + 1,at_:=eAt E i,p:=λ x=>yOr (yEq x (eTh E i)) (g.p x),v:=λ x=>ySel (yEq x (eTh E i)) g.n (g.v x),ev:=λ j=>if j=g.n then i else g.ev j,en:=λ j=>if j=g.n then 0 else g.en j }:=by
 unfold gs1;rw [if_neg h1,if_pos h2,if_neg h]
theorem gs1_f3 {E:EvS}{i:Nat}{g:GS}(h1:¬ (eAt E i < g.at_ ∨ eTh E i < 0))(h2:eKd E i ≠ 1)(h3:eKd E i=2)(h:g.p (eTh E i)=false ∨ eId E (g.ev (g.v (eTh E i)).toNat) ≠ eId E i ∨ sameOp E (g.ev (g.v (eTh E i)).toNat) i=false):(gs1 E i g).ok=false:=by
 unfold gs1;rw [if_neg h1,if_neg h2,if_pos h3,if_pos h]
theorem gs1_t3 {E:EvS}{i:Nat}{g:GS}(h1:¬ (eAt E i < g.at_ ∨ eTh E i < 0))(h2:eKd E i ≠ 1)(h3:eKd E i=2)(h:¬ (g.p (eTh E i)=false ∨ eId E (g.ev (g.v (eTh E i)).toNat) ≠ eId E i ∨ sameOp E (g.ev (g.v (eTh E i)).toNat) i=false)):
 gs1 E i g={ g with at_:=eAt E i,p:=λ x=>yAnd (yNot (yEq x (eTh E i))) (g.p x),en:=λ j=>if j=(g.v (eTh E i)).toNat then i + 1 else g.en j }:=by
 unfold gs1;rw [if_neg h1,if_neg h2,if_pos h3,if_neg h]
theorem gs1_f4 {E:EvS}{i:Nat}{g:GS}(h1:¬ (eAt E i < g.at_ ∨ eTh E i < 0))(h2:eKd E i ≠ 1)(h3:eKd E i ≠ 2):(gs1 E i g).ok=false:=by
 unfold gs1;rw [if_neg h1,if_neg h2,if_neg h3]
theorem gs1_cases (E:EvS)(i:Nat)(g:GS):(gs1 E i g={ g with ok:=false }) ∨
 (eKd E i=1/\¬ (eAt E i < g.at_ ∨ eTh E i < 0)/\¬ (g.p (eTh E i)=true ∨ eId E i ≠ g.n + 1 ∨ rightE (eOk E i) (eMost E i)=false ∨ zeroR E i=false)) ∨
 (eKd E i=2/\¬ (eAt E i < g.at_ ∨ eTh E i < 0)/\¬ (g.p (eTh E i)=false ∨ eId E (g.ev (g.v (eTh E i)).toNat) ≠ eId E i ∨ sameOp E (g.ev (g.v (eTh E i)).toNat) i=false)):=by
 unfold gs1
 by_cases h1:eAt E i < g.at_ ∨ eTh E i < 0
 . rw [if_pos h1];exact .inl rfl
 . rw [if_neg h1]
   by_cases h2:eKd E i=1
   . rw [if_pos h2]
     by_cases h3:g.p (eTh E i)=true ∨ eId E i ≠ g.n + 1 ∨ rightE (eOk E i) (eMost E i)=false ∨ zeroR E i=false
     . rw [if_pos h3];exact .inl rfl
     . exact .inr (.inl ⟨h2,h1,h3⟩)
   . rw [if_neg h2]
     by_cases h3:eKd E i=2
     . rw [if_pos h3]
       by_cases h4:g.p (eTh E i)=false ∨ eId E (g.ev (g.v (eTh E i)).toNat) ≠ eId E i ∨ sameOp E (g.ev (g.v (eTh E i)).toNat) i=false
       . rw [if_pos h4];exact .inl rfl
       . exact .inr (.inr ⟨h3,h1,h4⟩)
     . rw [if_neg h3];exact .inl rfl
structure GInv (g:GS)(i:Nat):Prop where
 le:g.n<=i
 v:∀ x,g.p x=true->0<=g.v x/\g.v x < g.n
theorem gInv (E:EvS):∀ i,GInv (gS E i) i
 | 0=>⟨Nat.le_refl _,λ x h=>by cases h⟩
 | i + 1=>by
   have ih:=gInv E i
   show GInv (bif (gS E i).ok then gs1 E i (gS E i) else gS E i) (i + 1)
   cases hok:(gS E i).ok with
   | false=>exact ⟨Nat.le_succ_of_le ih.le,ih.v⟩
   | true=>
     rw [cond_true]
     rcases gs1_cases E i (gS E i) with h | ⟨h2,h1,h3⟩ | ⟨h3,h1,h4⟩
     . rw [h];exact ⟨Nat.le_succ_of_le ih.le,ih.v⟩
     . rw [gs1_t2 h1 h2 h3]
       refine ⟨Nat.succ_le_succ ih.le,λ x hx=>?_⟩
       show 0<=ySel (yEq x (eTh E i)) ((gS E i).n:Int) ((gS E i).v x)/\ySel (yEq x (eTh E i)) ((gS E i).n:Int) ((gS E i).v x) < (((gS E i).n + 1:Nat):Int)
       have hx:yOr (yEq x (eTh E i)) ((gS E i).p x)=true:=hx
       cases hq:yEq x (eTh E i) with
       | true=>
         show 0<=((gS E i).n:Int)/\((gS E i).n:Int) < _
         omega
       | false=>
         rw [hq] at hx
         have:=ih.v x hx
         show 0<=(gS E i).v x/\(gS E i).v x < _
         omega
     . rw [gs1_t3 h1 (by omega) h3 h4]
       refine ⟨Nat.le_succ_of_le ih.le,λ x hx=>ih.v x ?_⟩
       have hx:yAnd (yNot (yEq x (eTh E i))) ((gS E i).p x)=true:=hx
       simp only [yAnd_t] at hx
       exact hx.2
theorem goalGn_ok:goalGn:=by
 refine @kernel_go _ _ goalGn_eq ?_
 unfold goalGnV goalGn_3 goalGn_2 goalGn_0 goalGn_1
 intro E nil n hpre
 obtain ⟨hn,hp⟩:=of_decide_eq_true hpre
 simp only [vS,forall_const,reduceCtorEq]
 refine ⟨⟨0,⟨Nat.zero_le _,rfl⟩,rfl,rfl,rfl,rfl,λ _=>rfl,rfl⟩,λ _ i hi=>?_⟩
 obtain ⟨hle,hok⟩:=hi
 have hI:=gInv E i
 have hN:gN E i<=i:=hI.le
 have w0:yWrap .i64 ((gN E i:Int) + 1)=(gN E i:Int) + 1:=wrap64 (by omega) (by omega)
 have w1:yWrap .i64 ((i:Int) + 1)=((i + 1:Nat):Int):=by rw [wrap64 (by omega) (by omega)];omega
 rw [w0]
 simp only [w1]
 refine ⟨λ hlt=>⟨λ _=>?_,λ h=>h ⟨by omega,hlt⟩⟩,λ hge=>?_⟩
 . have hin:i < n:=by omega
   have hm:(mGn n (i + 1)).succ<=mGn n i:=by unfold mGn;omega
   refine ⟨λ h1=>gBad hin (gs1_f1 (.inl h1)) hok,λ h1=>⟨λ h2=>gBad hin (gs1_f1 (.inr h2)) hok,λ h2=>?_⟩⟩
   have h12:¬ (eAt E i < (gS E i).at_ ∨ eTh E i < 0):=by
    have h1:(gS E i).at_<=eAt E i:=h1
    omega
   refine ⟨λ h3=>?_,λ h3=>⟨λ h4=>?_,λ h4=>gBad hin (gs1_f4 h12 h3 h4) hok⟩⟩
   . refine ⟨λ h4=>gBad hin (gs1_f2 h12 h3 (.inl h4)) hok,λ h4=>⟨λ h5=>gBad hin (gs1_f2 h12 h3 (.inr (.inl h5))) hok,λ h5=>⟨λ h6=>gBad hin (gs1_f2 h12 h3 (.inr (.inr (.inl h6)))) hok,λ h6=>⟨λ _=>⟨λ h7=>gBad hin (gs1_f2 h12 h3 (.inr (.inr (.inr h7)))) hok,λ h7=>⟨⟨λ _=>?_,λ h=>?_⟩,λ h=>absurd rfl h⟩⟩,λ h=>?_⟩⟩⟩⟩
     . have hne:¬ ((gS E i).p (eTh E i)=true ∨ eId E i ≠ (gS E i).n + 1 ∨ rightE (eOk E i) (eMost E i)=false ∨ zeroR E i=false):=by
        rintro (h | h | h | h)
        . exact Bool.noConfusion (h.symm.trans h4)
        . exact h h5
        . exact Bool.noConfusion (h.symm.trans h6)
        . exact Bool.noConfusion (h.symm.trans h7)
       have hS:=(gS_step hok).trans (gs1_t2 h12 h3 hne)
       have eN:gN E (i + 1)=gN E i + 1:=by unfold gN;rw [hS]
       have eP:∀ x,gP E (i + 1) x=yOr (yEq x (eTh E i)) (gP E i x):=λ x=>by unfold gP;rw [hS]
       have eV:∀ x,gV E (i + 1) x=ySel (yEq x (eTh E i)) (gN E i) (gV E i x):=λ x=>by unfold gV gN;rw [hS]
       have eEv:∀ q,gEv E (i + 1) q=if q=gN E i then i else gEv E i q:=λ q=>by unfold gEv gN;rw [hS]
       have eEn:∀ q,gEn E (i + 1) q=if q=gN E i then 0 else gEn E i q:=λ q=>by unfold gEn gN;rw [hS]
       refine ⟨i + 1,⟨hin,by unfold gOk;rw [hS]⟩,hm,?_,eN,by unfold gAt;rw [hS],rfl,λ x=>⟨eP x,λ _=>eV x⟩,eN,λ q hq=>?_⟩
       . rw [eN]
         have e1:yNeq (gN E i + 1) 0=false:=by simp only [yNeq_f];omega
         have e2:yNeq 1 0=false:=rfl
         rw [e1,e2]
         cases yNeq (gN E i) 0 <;> rfl
       . rw [eN] at hq
         rw [eEv,eEn]
         rcases Nat.lt_or_ge q (gN E i) with h | h
         . have hb:yNlt q (gN E i)=true:=decide_eq_true h
           rw [if_neg (by omega),if_neg (by omega),hb]
           exact ⟨rfl,rfl,rfl,rfl,rfl,rfl,rfl,rfl,rfl,rfl,rfl,rfl,rfl,rfl,λ _ _=>⟨rfl,rfl⟩⟩
         . obtain rfl:q=gN E i:=by omega
           have hb:yNlt (gN E i) (gN E i)=false:=decide_eq_false (by omega)
           rw [if_pos rfl,if_pos rfl,hb]
           exact ⟨rfl,rfl,rfl,rfl,rfl,rfl,rfl,rfl,rfl,rfl,rfl,rfl,rfl,rfl,λ p hp=>absurd hp (Nat.not_succ_le_zero p)⟩
     . omega
     . have:=hp i hin;omega
   . refine ⟨λ h5=>?_,λ h5=>gBad hin (gs1_f3 h12 h3 h4 (.inl h5)) hok⟩
     obtain ⟨j0,j1⟩:=hI.v _ h5
     have j0:0<=gV E i (eTh E i):=j0
     have j1:gV E i (eTh E i) < gN E i:=j1
     have hs:ySel (gP E i (eTh E i)) (gV E i (eTh E i)) 0=gV E i (eTh E i):=by rw [h5];rfl
     have j2:yNat (gV E i (eTh E i)) < gN E i:=by unfold yNat;omega
     simp only [hs]
     refine ⟨λ _=>⟨λ _=>⟨λ h6=>gBad hin (gs1_f3 h12 h3 h4 (.inr (.inl h6))) hok,λ h6=>⟨λ _=>⟨λ _=>⟨λ h7=>gBad hin (gs1_f3 h12 h3 h4 (.inr (.inr ?_))) hok,λ h7=>⟨λ _=>⟨λ _=>⟨λ _=>⟨λ _=>⟨λ _=>⟨λ _=>?_,λ h=>?_⟩,λ h=>h ⟨j0,j1⟩⟩,λ h=>?_⟩,λ h=>h ⟨j0,j1⟩⟩,λ h=>?_⟩,λ h=>h ⟨j0,j1⟩⟩⟩,λ h=>?_⟩,λ h=>h ⟨j0,j1⟩⟩⟩,λ h=>?_⟩,λ h=>h ⟨j0,j1⟩⟩
     . show sameOp E (gEv E i (yNat (gV E i (eTh E i)))) i=false
       simpa [sameOp,yAnd_f,yEq_f] using h7
     . have hop:sameOp E (gEv E i (yNat (gV E i (eTh E i)))) i=true:=by
        simp only [sameOp,yAnd_t,yEq_t];exact h7
       have hne:¬ ((gS E i).p (eTh E i)=false ∨ eId E ((gS E i).ev ((gS E i).v (eTh E i)).toNat) ≠ eId E i ∨ sameOp E ((gS E i).ev ((gS E i).v (eTh E i)).toNat) i=false):=by
        rintro (h | h | h)
        . exact Bool.noConfusion (h.symm.trans h5)
        . exact h h6
        . exact Bool.noConfusion (h.symm.trans hop)
       have hS:=(gS_step hok).trans (gs1_t3 h12 h3 h4 hne)
       have eN:gN E (i + 1)=gN E i:=by unfold gN;rw [hS]
       have eP:∀ x,gP E (i + 1) x=yAnd (yNot (yEq x (eTh E i))) (gP E i x):=λ x=>by unfold gP;rw [hS]
       have eV:∀ x,gV E (i + 1) x=gV E i x:=λ x=>by unfold gV;rw [hS]
       have eEv:∀ q,gEv E (i + 1) q=gEv E i q:=λ q=>by unfold gEv;rw [hS]
       have eEn:∀ q,gEn E (i + 1) q=if q=yNat (gV E i (eTh E i)) then i + 1 else gEn E i q:=λ q=>by unfold gEn gV yNat;rw [hS]
       refine ⟨i + 1,⟨hin,by unfold gOk;rw [hS];exact hok⟩,hm,by rw [eN],eN,by unfold gAt;rw [hS],rfl,λ x=>⟨eP x,λ _=>eV x⟩,eN,λ q hq=>?_⟩
       rw [eEv,eEn]
       by_cases h:q=yNat (gV E i (eTh E i))
       . have hb:yNeq q (yNat (gV E i (eTh E i)))=true:=decide_eq_true h
         rw [if_pos h,hb]
         exact ⟨rfl,rfl,rfl,rfl,rfl,rfl,rfl,rfl,rfl,rfl,rfl,rfl,rfl,rfl,λ _ _=>⟨rfl,rfl⟩⟩
       . have hb:yNeq q (yNat (gV E i (eTh E i)))=false:=decide_eq_false h
         rw [if_neg h,hb]
         exact ⟨rfl,rfl,rfl,rfl,rfl,rfl,rfl,rfl,rfl,rfl,rfl,rfl,rfl,rfl,λ _ _=>⟨rfl,rfl⟩⟩
     all_goals omega
 . obtain rfl:i=n:=by omega
   have hr:resN E i=gN E i:=by unfold resN;rw [hok];rfl
   exact ⟨by rw [hr],hr,hok,hr,λ q _=>⟨rfl,rfl,rfl,rfl,rfl,rfl,rfl,rfl,rfl,rfl,rfl,rfl,rfl,rfl,λ _ _=>⟨rfl,rfl⟩⟩⟩
theorem smGn (hm:Try.prog.follows .mixedOrders=true)(hs:SmOK Try.prog (smL lGn)):SmCall Try.prog 33 (λ args h=>(ctX [sEv] rGn fGn args h).sel):=
 ctX_ok hm hs (λ ds r post h=>by
  unfold fGn at h
  split at h
  . rename_i nil n kd th id at_ ok key val hi most rk rv nl pn pk pv
    simp only [sI,Prod.mk.injEq] at h
    obtain ⟨h1,rfl,rfl⟩:=h
    refine ⟨annGn ⟨kd,th,id,at_,ok,key,val,hi,most,rk,rv,nl,pn,pk,pv⟩ n,1000,?_⟩
    have h2:=@goalGn_ok
    unfold goalGn at h2
    exact @h2 ⟨kd,th,id,at_,ok,key,val,hi,most,rk,rv,nl,pn,pk,pv⟩ nil n h1
  . cases h)
abbrev kP:List CK:=[.int .u64,.int .u64]
abbrev sP:Sx:=.pl kP
def nilOk (nil:Bool)(n:Nat):Bool:=yOr (yNot nil) (yNeq n 0)
def wfE (E:EvS)(n:Nat):Bool:=decide (∀ i,i < n->nilOk (eNil E i) (ePn E i)=true)
def fCln (ds:List Dx):Option (Bool × Dx × List (List Dx)):=
 match ds with
 | [.rows nil n [.int .u64 a,.int .u64 b]]=>some (yAnd (yNle n 1000000) (nilOk nil n),.rows nil n [.int .u64 a,.int .u64 b],[])
 | _=>none
def goalCln:Prop:=∀ (nil:Bool) (n:Nat) (a b:Nat->Int),yNle n 1000000=true->nilOk nil n=true->wxH Try.prog noSm (λ _=>none) 67 [sP] [.rows nil n [.int .u64 a,.int .u64 b]] sP (.rows nil n [.int .u64 a,.int .u64 b]) []
abbrev rCl:Sx:=.own 62 kCl
abbrev dCl (E:EvS)(n:Nat):Dx:=.rows (yNeq (resN E n) 0) (resN E n) (colsG E n)
def lCl:List (Nat × Sm):=[(33,.ct (ctX [sEv] rGn fGn)),(67,.ct (ctX [sP] sP fCln))]
def prCl (E:EvS)(n i:Nat):Prop:=i<=resN E n
def annCl (E:EvS)(n:Nat)(b:Nat):Option (St->LoopA):=
 match b with
 | 0=>some λ _=>{ ι:=Nat,tms:=[13],tmU:=λ i=>[.y .i64 (yInt i)],ids:=[0],hpU:=λ _=>[.arr false 62 13 (resN E n) (colF (colsG E n))],del:=[],ex:=0,pre:=prCl E n,ms:=mGn (resN E n) }
 | _=>none
def goalCl:Prop:=∀ (E:EvS) (nil:Bool) (n:Nat),preE E n=true->wfE E n=true->wxH Try.prog (smL lCl) (annCl E n) 36 [sEv] [.rows nil n (colsE E)] rCl (dCl E n) []
theorem goalCln_eq:goalCln=(∀ (nil:Bool) (n:Nat) (a b:Nat->Int),yNle n (nat_lit 1000000)=true->nilOk nil n=true->(nil=true->nil=true/\n=nat_lit 0/\true=true)/\(nil=false->(yNeq n (nat_lit 0)=true->nil=false/\n=nat_lit 0/\true=true)/\(yNeq n (nat_lit 0)=false->(yGrow (yNadd 0 n) (nat_lit 16)=true->nil=false/\n=yNadd 0 n/\yNadd 0 (yNadd 0 n)<=yNadd 0 n/\(∀ (i:Nat),Nat.succ i<=n->a i=a (yNadd 0 (yNadd 0 i))/\b i=b (yNadd 0 (yNadd 0 i))/\True)/\true=true)/\(yGrow (yNadd 0 n) (nat_lit 16)=false->False)))):=by kernel_rfl
def goalCl_0 (E:EvS)(nil:Bool)(n:Nat)(i:Nat):=gEv { kd:=λ (i:Nat)=>eKd E i,th:=λ (i:Nat)=>eTh E i,id:=λ (i:Nat)=>eId E i,at_:=λ (i:Nat)=>eAt E i,ok:=λ (i:Nat)=>eOk E i,key:=λ (i:Nat)=>eKey E i,val:=λ (i:Nat)=>eVal E i,hi:=λ (i:Nat)=>eHi E i,most:=λ (i:Nat)=>eMost E i,rk:=λ (i:Nat)=>eRk E i,rv:=λ (i:Nat)=>eRv E i,nil:=λ (i:Nat)=>eNil E i,pn:=λ (i:Nat)=>ePn E i,pk:=λ (i p:Nat)=>ePk E i p,pv:=λ (i p:Nat)=>ePv E i p } n i
def goalCl_1 (E:EvS)(nil:Bool)(n:Nat)(i:Nat):=gEn { kd:=λ (i:Nat)=>eKd E i,th:=λ (i:Nat)=>eTh E i,id:=λ (i:Nat)=>eId E i,at_:=λ (i:Nat)=>eAt E i,ok:=λ (i:Nat)=>eOk E i,key:=λ (i:Nat)=>eKey E i,val:=λ (i:Nat)=>eVal E i,hi:=λ (i:Nat)=>eHi E i,most:=λ (i:Nat)=>eMost E i,rk:=λ (i:Nat)=>eRk E i,rv:=λ (i:Nat)=>eRv E i,nil:=λ (i:Nat)=>eNil E i,pn:=λ (i:Nat)=>ePn E i,pk:=λ (i p:Nat)=>ePk E i p,pv:=λ (i p:Nat)=>ePv E i p } n i
def goalCl_2 (E:EvS)(nil:Bool)(n:Nat):=resN { kd:=λ (i:Nat)=>eKd E i,th:=λ (i:Nat)=>eTh E i,id:=λ (i:Nat)=>eId E i,at_:=λ (i:Nat)=>eAt E i,ok:=λ (i:Nat)=>eOk E i,key:=λ (i:Nat)=>eKey E i,val:=λ (i:Nat)=>eVal E i,hi:=λ (i:Nat)=>eHi E i,most:=λ (i:Nat)=>eMost E i,rk:=λ (i:Nat)=>eRk E i,rv:=λ (i:Nat)=>eRv E i,nil:=λ (i:Nat)=>eNil E i,pn:=λ (i:Nat)=>ePn E i,pk:=λ (i p:Nat)=>ePk E i p,pv:=λ (i p:Nat)=>ePv E i p } n
def goalClV:Prop:=(∀ (E:EvS) (nil:Bool) (n:Nat),preE E n=true->wfE E n=true->mst (yCol (CK.int .i64) n λ (i:Nat)=>AV.y .i64 (eKd E i)) (mst (yCol (CK.int .i64) n λ (i:Nat)=>AV.y .i64 (eTh E i)) (mst (yCol (CK.int .i64) n λ (i:Nat)=>AV.y .i64 (eId E i)) (mst (yCol (CK.int .i64) n λ (i:Nat)=>AV.y .i64 (eAt E i)) (mst (yCol (CK.int .i64) n λ (i:Nat)=>AV.y .i64 (eOk E i)) (mst (yCol (CK.int .u64) n λ (i:Nat)=>AV.y .u64 (eKey E i)) (mst (yCol (CK.int .u64) n λ (i:Nat)=>AV.y .u64 (eVal E i)) (mst (yCol (CK.int .u64) n λ (i:Nat)=>AV.y .u64 (eHi E i)) (mst (yCol (CK.int .i64) n λ (i:Nat)=>AV.y .i64 (eMost E i)) (mst (yCol (CK.int .i64) n λ (i:Nat)=>AV.y .i64 (eRk E i)) (mst (yCol (CK.int .u64) n λ (i:Nat)=>AV.y .u64 (eRv E i)) (mst (yCol (CK.ls [K1.int .u64,K1.int .u64]) n λ (i:Nat)=>AV.lst false (eNil E i) 2 (ePn E i) (cl2F [Cl2.int .u64 (ePk E),Cl2.int .u64 (ePv E)] i)) (mst (preE { kd:=λ (i:Nat)=>eKd E i,th:=λ (i:Nat)=>eTh E i,id:=λ (i:Nat)=>eId E i,at_:=λ (i:Nat)=>eAt E i,ok:=λ (i:Nat)=>eOk E i,key:=λ (i:Nat)=>eKey E i,val:=λ (i:Nat)=>eVal E i,hi:=λ (i:Nat)=>eHi E i,most:=λ (i:Nat)=>eMost E i,rk:=λ (i:Nat)=>eRk E i,rv:=λ (i:Nat)=>eRv E i,nil:=λ (i:Nat)=>eNil E i,pn:=λ (i:Nat)=>ePn E i,pk:=λ (i p:Nat)=>ePk E i p,pv:=λ (i p:Nat)=>ePv E i p } n) (true=true/\(∃ (i0:Nat),prCl E n i0/\true=true/\yInt i0=(0:Int)/\resN E n=resN { kd:=λ (i:Nat)=>eKd E i,th:=λ (i:Nat)=>eTh E i,id:=λ (i:Nat)=>eId E i,at_:=λ (i:Nat)=>eAt E i,ok:=λ (i:Nat)=>eOk E i,key:=λ (i:Nat)=>eKey E i,val:=λ (i:Nat)=>eVal E i,hi:=λ (i:Nat)=>eHi E i,most:=λ (i:Nat)=>eMost E i,rk:=λ (i:Nat)=>eRk E i,rv:=λ (i:Nat)=>eRv E i,nil:=λ (i:Nat)=>eNil E i,pn:=λ (i:Nat)=>ePn E i,pk:=λ (i p:Nat)=>ePk E i p,pv:=λ (i p:Nat)=>ePv E i p } n/\(∀ (i:Nat),Nat.succ i<=resN E n->eId E (gEv E n i)=eId { kd:=λ (i:Nat)=>eKd E i,th:=λ (i:Nat)=>eTh E i,id:=λ (i:Nat)=>eId E i,at_:=λ (i:Nat)=>eAt E i,ok:=λ (i:Nat)=>eOk E i,key:=λ (i:Nat)=>eKey E i,val:=λ (i:Nat)=>eVal E i,hi:=λ (i:Nat)=>eHi E i,most:=λ (i:Nat)=>eMost E i,rk:=λ (i:Nat)=>eRk E i,rv:=λ (i:Nat)=>eRv E i,nil:=λ (i:Nat)=>eNil E i,pn:=λ (i:Nat)=>ePn E i,pk:=λ (i p:Nat)=>ePk E i p,pv:=λ (i p:Nat)=>ePv E i p } (goalCl_0 E nil n i)/\eTh E (gEv E n i)=eTh { kd:=λ (i:Nat)=>eKd E i,th:=λ (i:Nat)=>eTh E i,id:=λ (i:Nat)=>eId E i,at_:=λ (i:Nat)=>eAt E i,ok:=λ (i:Nat)=>eOk E i,key:=λ (i:Nat)=>eKey E i,val:=λ (i:Nat)=>eVal E i,hi:=λ (i:Nat)=>eHi E i,most:=λ (i:Nat)=>eMost E i,rk:=λ (i:Nat)=>eRk E i,rv:=λ (i:Nat)=>eRv E i,nil:=λ (i:Nat)=>eNil E i,pn:=λ (i:Nat)=>ePn E i,pk:=λ (i p:Nat)=>ePk E i p,pv:=λ (i p:Nat)=>ePv E i p } (goalCl_0 E nil n i)/\eOk E (gEv E n i)=eOk { kd:=λ (i:Nat)=>eKd E i,th:=λ (i:Nat)=>eTh E i,id:=λ (i:Nat)=>eId E i,at_:=λ (i:Nat)=>eAt E i,ok:=λ (i:Nat)=>eOk E i,key:=λ (i:Nat)=>eKey E i,val:=λ (i:Nat)=>eVal E i,hi:=λ (i:Nat)=>eHi E i,most:=λ (i:Nat)=>eMost E i,rk:=λ (i:Nat)=>eRk E i,rv:=λ (i:Nat)=>eRv E i,nil:=λ (i:Nat)=>eNil E i,pn:=λ (i:Nat)=>ePn E i,pk:=λ (i p:Nat)=>ePk E i p,pv:=λ (i p:Nat)=>ePv E i p } (goalCl_0 E nil n i)/\eKey E (gEv E n i)=eKey { kd:=λ (i:Nat)=>eKd E i,th:=λ (i:Nat)=>eTh E i,id:=λ (i:Nat)=>eId E i,at_:=λ (i:Nat)=>eAt E i,ok:=λ (i:Nat)=>eOk E i,key:=λ (i:Nat)=>eKey E i,val:=λ (i:Nat)=>eVal E i,hi:=λ (i:Nat)=>eHi E i,most:=λ (i:Nat)=>eMost E i,rk:=λ (i:Nat)=>eRk E i,rv:=λ (i:Nat)=>eRv E i,nil:=λ (i:Nat)=>eNil E i,pn:=λ (i:Nat)=>ePn E i,pk:=λ (i p:Nat)=>ePk E i p,pv:=λ (i p:Nat)=>ePv E i p } (goalCl_0 E nil n i)/\eVal E (gEv E n i)=eVal { kd:=λ (i:Nat)=>eKd E i,th:=λ (i:Nat)=>eTh E i,id:=λ (i:Nat)=>eId E i,at_:=λ (i:Nat)=>eAt E i,ok:=λ (i:Nat)=>eOk E i,key:=λ (i:Nat)=>eKey E i,val:=λ (i:Nat)=>eVal E i,hi:=λ (i:Nat)=>eHi E i,most:=λ (i:Nat)=>eMost E i,rk:=λ (i:Nat)=>eRk E i,rv:=λ (i:Nat)=>eRv E i,nil:=λ (i:Nat)=>eNil E i,pn:=λ (i:Nat)=>ePn E i,pk:=λ (i p:Nat)=>ePk E i p,pv:=λ (i p:Nat)=>ePv E i p } (goalCl_0 E nil n i)/\eHi E (gEv E n i)=eHi { kd:=λ (i:Nat)=>eKd E i,th:=λ (i:Nat)=>eTh E i,id:=λ (i:Nat)=>eId E i,at_:=λ (i:Nat)=>eAt E i,ok:=λ (i:Nat)=>eOk E i,key:=λ (i:Nat)=>eKey E i,val:=λ (i:Nat)=>eVal E i,hi:=λ (i:Nat)=>eHi E i,most:=λ (i:Nat)=>eMost E i,rk:=λ (i:Nat)=>eRk E i,rv:=λ (i:Nat)=>eRv E i,nil:=λ (i:Nat)=>eNil E i,pn:=λ (i:Nat)=>ePn E i,pk:=λ (i p:Nat)=>ePk E i p,pv:=λ (i p:Nat)=>ePv E i p } (goalCl_0 E nil n i)/\eMost E (gEv E n i)=eMost { kd:=λ (i:Nat)=>eKd E i,th:=λ (i:Nat)=>eTh E i,id:=λ (i:Nat)=>eId E i,at_:=λ (i:Nat)=>eAt E i,ok:=λ (i:Nat)=>eOk E i,key:=λ (i:Nat)=>eKey E i,val:=λ (i:Nat)=>eVal E i,hi:=λ (i:Nat)=>eHi E i,most:=λ (i:Nat)=>eMost E i,rk:=λ (i:Nat)=>eRk E i,rv:=λ (i:Nat)=>eRv E i,nil:=λ (i:Nat)=>eNil E i,pn:=λ (i:Nat)=>ePn E i,pk:=λ (i p:Nat)=>ePk E i p,pv:=λ (i p:Nat)=>ePv E i p } (goalCl_0 E nil n i)/\eAt E (gEv E n i)=eAt { kd:=λ (i:Nat)=>eKd E i,th:=λ (i:Nat)=>eTh E i,id:=λ (i:Nat)=>eId E i,at_:=λ (i:Nat)=>eAt E i,ok:=λ (i:Nat)=>eOk E i,key:=λ (i:Nat)=>eKey E i,val:=λ (i:Nat)=>eVal E i,hi:=λ (i:Nat)=>eHi E i,most:=λ (i:Nat)=>eMost E i,rk:=λ (i:Nat)=>eRk E i,rv:=λ (i:Nat)=>eRv E i,nil:=λ (i:Nat)=>eNil E i,pn:=λ (i:Nat)=>ePn E i,pk:=λ (i p:Nat)=>ePk E i p,pv:=λ (i p:Nat)=>ePv E i p } (goalCl_0 E nil n i)/\cTo E (gEn E n i)=cTo { kd:=λ (i:Nat)=>eKd E i,th:=λ (i:Nat)=>eTh E i,id:=λ (i:Nat)=>eId E i,at_:=λ (i:Nat)=>eAt E i,ok:=λ (i:Nat)=>eOk E i,key:=λ (i:Nat)=>eKey E i,val:=λ (i:Nat)=>eVal E i,hi:=λ (i:Nat)=>eHi E i,most:=λ (i:Nat)=>eMost E i,rk:=λ (i:Nat)=>eRk E i,rv:=λ (i:Nat)=>eRv E i,nil:=λ (i:Nat)=>eNil E i,pn:=λ (i:Nat)=>ePn E i,pk:=λ (i p:Nat)=>ePk E i p,pv:=λ (i p:Nat)=>ePv E i p } (goalCl_1 E nil n i)/\cOv (gEn E n i)=cOv (goalCl_1 E nil n i)/\cRk E (gEn E n i)=cRk { kd:=λ (i:Nat)=>eKd E i,th:=λ (i:Nat)=>eTh E i,id:=λ (i:Nat)=>eId E i,at_:=λ (i:Nat)=>eAt E i,ok:=λ (i:Nat)=>eOk E i,key:=λ (i:Nat)=>eKey E i,val:=λ (i:Nat)=>eVal E i,hi:=λ (i:Nat)=>eHi E i,most:=λ (i:Nat)=>eMost E i,rk:=λ (i:Nat)=>eRk E i,rv:=λ (i:Nat)=>eRv E i,nil:=λ (i:Nat)=>eNil E i,pn:=λ (i:Nat)=>ePn E i,pk:=λ (i p:Nat)=>ePk E i p,pv:=λ (i p:Nat)=>ePv E i p } (goalCl_1 E nil n i)/\cRv E (gEn E n i)=cRv { kd:=λ (i:Nat)=>eKd E i,th:=λ (i:Nat)=>eTh E i,id:=λ (i:Nat)=>eId E i,at_:=λ (i:Nat)=>eAt E i,ok:=λ (i:Nat)=>eOk E i,key:=λ (i:Nat)=>eKey E i,val:=λ (i:Nat)=>eVal E i,hi:=λ (i:Nat)=>eHi E i,most:=λ (i:Nat)=>eMost E i,rk:=λ (i:Nat)=>eRk E i,rv:=λ (i:Nat)=>eRv E i,nil:=λ (i:Nat)=>eNil E i,pn:=λ (i:Nat)=>ePn E i,pk:=λ (i p:Nat)=>ePk E i p,pv:=λ (i p:Nat)=>ePv E i p } (goalCl_1 E nil n i)/\(cNil E (gEn E n i)=cNil { kd:=λ (i:Nat)=>eKd E i,th:=λ (i:Nat)=>eTh E i,id:=λ (i:Nat)=>eId E i,at_:=λ (i:Nat)=>eAt E i,ok:=λ (i:Nat)=>eOk E i,key:=λ (i:Nat)=>eKey E i,val:=λ (i:Nat)=>eVal E i,hi:=λ (i:Nat)=>eHi E i,most:=λ (i:Nat)=>eMost E i,rk:=λ (i:Nat)=>eRk E i,rv:=λ (i:Nat)=>eRv E i,nil:=λ (i:Nat)=>eNil E i,pn:=λ (i:Nat)=>ePn E i,pk:=λ (i p:Nat)=>ePk E i p,pv:=λ (i p:Nat)=>ePv E i p } (goalCl_1 E nil n i)/\cPn E (gEn E n i)=cPn { kd:=λ (i:Nat)=>eKd E i,th:=λ (i:Nat)=>eTh E i,id:=λ (i:Nat)=>eId E i,at_:=λ (i:Nat)=>eAt E i,ok:=λ (i:Nat)=>eOk E i,key:=λ (i:Nat)=>eKey E i,val:=λ (i:Nat)=>eVal E i,hi:=λ (i:Nat)=>eHi E i,most:=λ (i:Nat)=>eMost E i,rk:=λ (i:Nat)=>eRk E i,rv:=λ (i:Nat)=>eRv E i,nil:=λ (i:Nat)=>eNil E i,pn:=λ (i:Nat)=>ePn E i,pk:=λ (i p:Nat)=>ePk E i p,pv:=λ (i p:Nat)=>ePv E i p } (goalCl_1 E nil n i)/\∀ (i_1:Nat),Nat.succ i_1<=cPn E (gEn E n i)->cPk E (gEn E n i) i_1=cPk { kd:=λ (i:Nat)=>eKd E i,th:=λ (i:Nat)=>eTh E i,id:=λ (i:Nat)=>eId E i,at_:=λ (i:Nat)=>eAt E i,ok:=λ (i:Nat)=>eOk E i,key:=λ (i:Nat)=>eKey E i,val:=λ (i:Nat)=>eVal E i,hi:=λ (i:Nat)=>eHi E i,most:=λ (i:Nat)=>eMost E i,rk:=λ (i:Nat)=>eRk E i,rv:=λ (i:Nat)=>eRv E i,nil:=λ (i:Nat)=>eNil E i,pn:=λ (i:Nat)=>ePn E i,pk:=λ (i p:Nat)=>ePk E i p,pv:=λ (i p:Nat)=>ePv E i p } (goalCl_1 E nil n i) i_1/\cPv E (gEn E n i) i_1=cPv { kd:=λ (i:Nat)=>eKd E i,th:=λ (i:Nat)=>eTh E i,id:=λ (i:Nat)=>eId E i,at_:=λ (i:Nat)=>eAt E i,ok:=λ (i:Nat)=>eOk E i,key:=λ (i:Nat)=>eKey E i,val:=λ (i:Nat)=>eVal E i,hi:=λ (i:Nat)=>eHi E i,most:=λ (i:Nat)=>eMost E i,rk:=λ (i:Nat)=>eRk E i,rv:=λ (i:Nat)=>eRv E i,nil:=λ (i:Nat)=>eNil E i,pn:=λ (i:Nat)=>ePn E i,pk:=λ (i p:Nat)=>ePk E i p,pv:=λ (i p:Nat)=>ePv E i p } (goalCl_1 E nil n i) i_1/\True)/\True)/\true=true)/\∀ (g:Nat->AV) (i:Nat),prCl E n i->(yLt (yInt i) (yInt (goalCl_2 E nil n))=true->mst (yIn (yInt i) (goalCl_2 E nil n)) (mst (yNlt (yNadd 0 (yNat (yInt i))) (resN E n)) (mst (yCol (CK.int .u64) (cPn E (gEn E n (yNadd 0 (yNat (yInt i))))) λ (i_1:Nat)=>AV.y .u64 (cPk E (gEn E n (yNadd 0 (yNat (yInt i)))) i_1)) (mst (yCol (CK.int .u64) (cPn E (gEn E n (yNadd 0 (yNat (yInt i))))) λ (i_1:Nat)=>AV.y .u64 (cPv E (gEn E n (yNadd 0 (yNat (yInt i)))) i_1)) (mst (yAnd (yNle (cPn E (gEn E n (yNadd 0 (yNat (yInt i))))) 1000000) (nilOk (cNil E (gEn E n (yNadd 0 (yNat (yInt i))))) (cPn E (gEn E n (yNadd 0 (yNat (yInt i))))))) (mst (yIn (yInt i) (goalCl_2 E nil n)) (mst (yNlt (yNadd 0 (yNat (yInt i))) (resN E n)) (true=true/\∃ (i':Nat),prCl E n i'/\Nat.succ (mGn (resN E n) i')<=mGn (resN E n) i/\true=true/\yInt i'=yWrap .i64 (yAdd (yInt i) 1)/\resN E n=resN E n/\(∀ (i_1:Nat),Nat.succ i_1<=resN E n->eId E (gEv E n i_1)=eId E (gEv E n i_1)/\eTh E (gEv E n i_1)=eTh E (gEv E n i_1)/\eOk E (gEv E n i_1)=eOk E (gEv E n i_1)/\eKey E (gEv E n i_1)=eKey E (gEv E n i_1)/\eVal E (gEv E n i_1)=eVal E (gEv E n i_1)/\eHi E (gEv E n i_1)=eHi E (gEv E n i_1)/\eMost E (gEv E n i_1)=eMost E (gEv E n i_1)/\eAt E (gEv E n i_1)=eAt E (gEv E n i_1)/\cTo E (gEn E n i_1)=cTo E (gEn E n i_1)/\cOv (gEn E n i_1)=cOv (gEn E n i_1)/\cRk E (gEn E n i_1)=cRk E (gEn E n i_1)/\cRv E (gEn E n i_1)=cRv E (gEn E n i_1)/\(cNil E (gEn E n i_1)=ySelB (yNeq i_1 (yNadd 0 (yNat (yInt i)))) (cNil E (gEn E n (yNadd 0 (yNat (yInt i))))) (cNil E (gEn E n i_1))/\cPn E (gEn E n i_1)=ySelN (yNeq i_1 (yNadd 0 (yNat (yInt i)))) (cPn E (gEn E n (yNadd 0 (yNat (yInt i))))) (cPn E (gEn E n i_1))/\∀ (i_2:Nat),Nat.succ i_2<=cPn E (gEn E n i_1)->cPk E (gEn E n i_1) i_2=ySel (yNeq i_1 (yNadd 0 (yNat (yInt i)))) (cPk E (gEn E n (yNadd 0 (yNat (yInt i)))) i_2) (cPk E (gEn E n i_1) i_2)/\cPv E (gEn E n i_1) i_2=ySel (yNeq i_1 (yNadd 0 (yNat (yInt i)))) (cPv E (gEn E n (yNadd 0 (yNat (yInt i)))) i_2) (cPv E (gEn E n i_1) i_2)/\True)/\True)/\true=true))))))))/\(yLt (yInt i) (yInt (goalCl_2 E nil n))=false->yNeq (resN E n) (nat_lit 0)=yNeq (goalCl_2 E nil n) 0/\nat_lit 0=nat_lit 0/\resN E n=resN { kd:=λ (i:Nat)=>eKd E i,th:=λ (i:Nat)=>eTh E i,id:=λ (i:Nat)=>eId E i,at_:=λ (i:Nat)=>eAt E i,ok:=λ (i:Nat)=>eOk E i,key:=λ (i:Nat)=>eKey E i,val:=λ (i:Nat)=>eVal E i,hi:=λ (i:Nat)=>eHi E i,most:=λ (i:Nat)=>eMost E i,rk:=λ (i:Nat)=>eRk E i,rv:=λ (i:Nat)=>eRv E i,nil:=λ (i:Nat)=>eNil E i,pn:=λ (i:Nat)=>ePn E i,pk:=λ (i p:Nat)=>ePk E i p,pv:=λ (i p:Nat)=>ePv E i p } n/\resN E n=resN E n/\(∀ (i:Nat),Nat.succ i<=resN E n->eId E (gEv E n i)=eId E (gEv E n i)/\eTh E (gEv E n i)=eTh E (gEv E n i)/\eOk E (gEv E n i)=eOk E (gEv E n i)/\eKey E (gEv E n i)=eKey E (gEv E n i)/\eVal E (gEv E n i)=eVal E (gEv E n i)/\eHi E (gEv E n i)=eHi E (gEv E n i)/\eMost E (gEv E n i)=eMost E (gEv E n i)/\eAt E (gEv E n i)=eAt E (gEv E n i)/\cTo E (gEn E n i)=cTo E (gEn E n i)/\cOv (gEn E n i)=cOv (gEn E n i)/\cRk E (gEn E n i)=cRk E (gEn E n i)/\cRv E (gEn E n i)=cRv E (gEn E n i)/\(cNil E (gEn E n i)=cNil E (gEn E n i)/\cPn E (gEn E n i)=cPn E (gEn E n i)/\∀ (i_1:Nat),Nat.succ i_1<=cPn E (gEn E n i)->cPk E (gEn E n i) i_1=cPk E (gEn E n i) i_1/\cPv E (gEn E n i) i_1=cPv E (gEn E n i) i_1/\True)/\True)/\true=true)))))))))))))))
theorem goalCl_eq:goalCl=goalClV:=by kernel_rfl
theorem nilOk_t {nil:Bool}{n:Nat}(h:nilOk nil n=true)(hn:nil=true):n=0:=by
 unfold nilOk at h
 rw [hn] at h
 have h:yNeq n 0=true:=h
 simpa only [yNeq_t] using h
theorem gEn_le (E:EvS):∀ (i j:Nat),gEn E i j<=i
 | 0,_=>Nat.le_refl _
 | i + 1,j=>by
   have ih:=gEn_le E i
   have ih:∀ q,(gS E i).en q<=i:=ih
   show (bif (gS E i).ok then gs1 E i (gS E i) else gS E i).en j<=i + 1
   cases (gS E i).ok with
   | false=>exact Nat.le_succ_of_le (ih j)
   | true=>
     rw [cond_true]
     rcases gs1_cases E i (gS E i) with h | ⟨h2,h1,h3⟩ | ⟨h3,h1,h4⟩
     . rw [h];exact Nat.le_succ_of_le (ih j)
     . rw [gs1_t2 h1 h2 h3]
       show (if j=(gS E i).n then 0 else (gS E i).en j)<=i + 1
       split
       . omega
       . exact Nat.le_succ_of_le (ih j)
     . rw [gs1_t3 h1 (by omega) h3 h4]
       show (if j=((gS E i).v (eTh E i)).toNat then i + 1 else (gS E i).en j)<=i + 1
       split
       . omega
       . exact Nat.le_succ_of_le (ih j)
theorem goalCln_ok:goalCln:=by
 refine @kernel_go _ _ goalCln_eq ?_
 intro nil n a b hn hk
 have hz:=nilOk_t hk
 simp only [vS,forall_const,reduceCtorEq] at hn ⊢
 refine ⟨λ h=>⟨h,hz h⟩,λ h=>⟨λ h2=>⟨h,h2⟩,λ _=>⟨λ _=>⟨h,λ _ _=>trivial⟩,λ h=>by omega⟩⟩⟩
theorem goalCl_ok:goalCl:=by
 refine @kernel_go _ _ goalCl_eq ?_
 unfold goalClV goalCl_2 goalCl_1 goalCl_0
 intro E nil n hpre hwf
 obtain ⟨hn,hp⟩:=of_decide_eq_true hpre
 have hwf:=of_decide_eq_true hwf
 have hE:(EvS.mk (λ i=>eKd E i) (λ i=>eTh E i) (λ i=>eId E i) (λ i=>eAt E i) (λ i=>eOk E i) (λ i=>eKey E i) (λ i=>eVal E i) (λ i=>eHi E i) (λ i=>eMost E i) (λ i=>eRk E i) (λ i=>eRv E i) (λ i=>eNil E i) (λ i=>ePn E i) (λ i p=>ePk E i p) (λ i p=>ePv E i p))=E:=rfl
 simp only [hE,hpre,vS,forall_const,reduceCtorEq]
 have hle:∀ j,gEn E n j<=n:=gEn_le E n
 have hcn:∀ j,cPn E (gEn E n j)<=50/\(cNil E (gEn E n j)=true->cPn E (gEn E n j)=0):=λ j=>by
  have h:=hle j
  cases hg:gEn E n j with
  | zero=>exact ⟨Nat.zero_le _,λ _=>rfl⟩
  | succ e=>exact ⟨hp e (by omega),nilOk_t (hwf e (by omega))⟩
 have hrn:resN E n<=n:=by
  have:=(gInv E n).le
  have this:gN E n<=n:=this
  unfold resN
  cases gOk E n <;> simp <;> omega
 have hcol:∀ m,yCol (.ls [.int .u64,.int .u64]) m (λ i=>AV.lst false (eNil E i) 2 (ePn E i) (cl2F [Cl2.int .u64 (ePk E),Cl2.int .u64 (ePv E)] i))=true:=λ m=>yCol_ok.2 λ i _=>List.all_eq_true.2 λ p _=>rfl
 refine ⟨λ _=>⟨⟨0,Nat.zero_le _,rfl,λ _ _ _ _=>trivial⟩,λ _ i hi=>⟨λ hlt=>⟨λ hb=>⟨λ hi2=>⟨λ _=>⟨λ _=>⟨λ _=>?_,λ h=>?_⟩,λ h=>h hb⟩,λ h=>?_⟩,λ h=>?_⟩,λ h=>h ⟨by omega,hlt⟩⟩,λ _ _ _ _ _=>trivial⟩⟩,λ h=>Bool.noConfusion ((hcol n).symm.trans h)⟩
 . refine ⟨i + 1,hi2,by unfold mGn;omega,by rw [wrap64 (by omega) (by omega)];omega,λ q _=>?_⟩
   by_cases hq:q=i
   . subst hq
     have hb2:yNeq q q=true:=decide_eq_true rfl
     rw [hb2]
     exact ⟨rfl,rfl,λ _ _=>⟨rfl,rfl⟩⟩
   . have hb2:yNeq q i=false:=decide_eq_false hq
     rw [hb2]
     exact ⟨rfl,rfl,λ _ _=>⟨rfl,rfl⟩⟩
 . omega
 . have h1:=hcn i
   rcases h with h | h
   . omega
   . have:nilOk (cNil E (gEn E n i)) (cPn E (gEn E n i))=true:=by
      unfold nilOk
      cases hc:cNil E (gEn E n i) with
      | false=>rfl
      | true=>rw [h1.2 hc];rfl
     rw [this] at h;cases h
 . omega
def fCl (ds:List Dx):Option (Bool × Dx × List (List Dx)):=
 match ds with
 | [.rows _ n [.int .i64 kd,.int .i64 th,.int .i64 id,.int .i64 at_,.int .i64 ok,.int .u64 key,.int .u64 val,.int .u64 hi,.int .i64 most,.int .i64 rk,.int .u64 rv,.ls nl pn [.int .u64 pk,.int .u64 pv]]]=>some (yAnd (preE ⟨kd,th,id,at_,ok,key,val,hi,most,rk,rv,nl,pn,pk,pv⟩ n) (wfE ⟨kd,th,id,at_,ok,key,val,hi,most,rk,rv,nl,pn,pk,pv⟩ n),dCl ⟨kd,th,id,at_,ok,key,val,hi,most,rk,rv,nl,pn,pk,pv⟩ n,[])
 | _=>none
theorem smCln (hm:Try.prog.follows .mixedOrders=true):SmCall Try.prog 67 (λ args h=>(ctX [sP] sP fCln args h).sel):=
 ctX_ok hm noSm_ok (λ ds r post h=>by
  unfold fCln at h
  split at h
  . rename_i nil n a b
    simp only [sI,Prod.mk.injEq] at h
    obtain ⟨h1,rfl,rfl⟩:=h
    obtain ⟨h1,h3⟩:=yAnd_t.mp h1
    refine ⟨λ _=>none,1000,?_⟩
    have h2:=@goalCln_ok
    unfold goalCln at h2
    exact @h2 nil n a b h1 h3
  . cases h)
theorem smCl (hm:Try.prog.follows .mixedOrders=true)(hs:SmOK Try.prog (smL lCl)):SmCall Try.prog 36 (λ args h=>(ctX [sEv] rCl fCl args h).sel):=
 ctX_ok hm hs (λ ds r post h=>by
  unfold fCl at h
  split at h
  . rename_i nil n kd th id at_ ok key val hi most rk rv nl pn pk pv
    simp only [sI,Prod.mk.injEq] at h
    obtain ⟨h1,rfl,rfl⟩:=h
    obtain ⟨h1,h3⟩:=yAnd_t.mp h1
    refine ⟨annCl ⟨kd,th,id,at_,ok,key,val,hi,most,rk,rv,nl,pn,pk,pv⟩ n,1000,?_⟩
    have h2:=@goalCl_ok
    unfold goalCl at h2
    revert h1 h3
    exact @h2 ⟨kd,th,id,at_,ok,key,val,hi,most,rk,rv,nl,pn,pk,pv⟩ nil n
  . cases h)
def bkP (E:EvS)(n i:Nat)(x:Int):Bool:=decide (1<=x/\x<=i/\eOk E (gEv E n (x - 1).toNat) ≠ 4)
def bkG (x:Int):Nat:=(x - 1).toNat
theorem gIdS (E:EvS):∀ i,∀ j,j < (gS E i).n->eId E ((gS E i).ev j)=(j:Int) + 1
 | 0,j,hj=>absurd hj (Nat.not_lt_zero _)
 | i + 1,j,hj=>by
   have ih:=gIdS E i
   revert hj
   show j < (bif (gS E i).ok then gs1 E i (gS E i) else gS E i).n->eId E ((bif (gS E i).ok then gs1 E i (gS E i) else gS E i).ev j)=(j:Int) + 1
   cases hok:(gS E i).ok with
   | false=>exact ih j
   | true=>
     rw [cond_true]
     rcases gs1_cases E i (gS E i) with h | ⟨h2,h1,h3⟩ | ⟨h3,h1,h4⟩
     . rw [h];exact ih j
     . rw [gs1_t2 h1 h2 h3]
       intro hj
       show eId E (if j=(gS E i).n then i else (gS E i).ev j)=(j:Int) + 1
       by_cases hjn:j=(gS E i).n
       . rw [if_pos hjn,hjn]
         exact Classical.byContradiction λ hc=>h3 (.inr (.inl hc))
       . rw [if_neg hjn]
         have hj:j < (gS E i).n + 1:=hj
         exact ih j (by omega)
     . rw [gs1_t3 h1 (by omega) h3 h4];exact ih j
theorem gId {E:EvS}{i j:Nat}(h:j < gN E i):eId E (gEv E i j)=(j:Int) + 1:=gIdS E i j h
structure StS where
 th:Nat->Int
 ak:Nat->Int
 at_:Nat->Int
 old:Nat->Int
 new:Nat->Int
 got:Nat->Int
 nil:Nat->Bool
 mn:Nat->Nat
 kk:Nat->Nat->Int
 ma:Nat->Nat->Int
 mb:Nat->Nat->Int
instance:Inhabited StS:=⟨⟨λ _=>0,λ _=>0,λ _=>0,λ _=>0,λ _=>0,λ _=>0,λ _=>true,λ _=>0,λ _ _=>0,λ _ _=>0,λ _ _=>0⟩⟩
theorem find_range {p:Nat->Bool}{b:Nat}(h:∀ j,j < b->p j=false)(hb:p b=true):∀ N,b < N->(List.range N).find? p=some b
 | 0,hN=>absurd hN (Nat.not_lt_zero _)
 | N + 1,hN=>by
   rw [List.range_succ,List.find?_append]
   rcases Nat.lt_succ_iff_lt_or_eq.1 hN with h1 | h1
   . rw [find_range h hb N h1];rfl
   . subst h1
     have:(List.range b).find? p=none:=List.find?_eq_none.2 λ j hj=>by rw [h j (List.mem_range.1 hj)];simp
     rw [this]
     simp [hb]
theorem find_none {p:Nat->Bool}{N:Nat}(h:∀ j,j < N->p j=false):(List.range N).find? p=none:=List.find?_eq_none.2 λ j hj=>by rw [h j (List.mem_range.1 hj)];simp
def opB (th:Nat->Int)(ov:Nat->Bool)(t:Int)(j:Nat):Bool:=decide (th j=t/\ov j=false)
def opI (n:Nat)(th:Nat->Int)(ov:Nat->Bool)(t:Int):Int:=match (List.range n).find? (opB th ov t) with | some j=>(j:Int) | none=>-1
def prOp (n:Nat)(th:Nat->Int)(ov:Nat->Bool)(t:Int)(i:Nat):Prop:=i<=n/\∀ j,j < i->opB th ov t j=false
def mOp (n i:Nat):Nat:=n - i
def annOp (n:Nat)(th:Nat->Int)(ov:Nat->Bool)(t:Int)(b:Nat):Option (St->LoopA):=
 match b with
 | 0=>some λ _=>{ ι:=Nat,tms:=[5],tmU:=λ i=>[.y .i64 (yInt i)],ids:=[],hpU:=λ _=>[],del:=[],ex:=0,pre:=prOp n th ov t,ms:=mOp n }
 | _=>none
abbrev sRc:Sx:=.mut 75 kCl
abbrev colsC (id th ok:Nat->Int)(key val hi:Nat->Int)(most fr to:Nat->Int)(ov:Nat->Bool)(rk rv:Nat->Int)(nl:Nat->Bool)(pn:Nat->Nat)(pk pv:Nat->Nat->Int):List Col:=[.int .i64 id,.int .i64 th,.int .i64 ok,.int .u64 key,.int .u64 val,.int .u64 hi,.int .i64 most,.int .i64 fr,.int .i64 to,.bool ov,.int .i64 rk,.int .u64 rv,.ls nl pn [.int .u64 pk,.int .u64 pv]]
def fOp (ds:List Dx):Option (Bool × Dx × List (List Dx)):=
 match ds with
 | [.rows nil n [.int .i64 id,.int .i64 th,.int .i64 ok,.int .u64 key,.int .u64 val,.int .u64 hi,.int .i64 most,.int .i64 fr,.int .i64 to,.bool ov,.int .i64 rk,.int .u64 rv,.ls nl pn [.int .u64 pk,.int .u64 pv]],.v (.y .i64 t)]=>some (yNle n 1000000,.v (.y .i64 (opI n th ov t)),[[.rows nil n (colsC id th ok key val hi most fr to ov rk rv nl pn pk pv)]])
 | _=>none
def goalOp:Prop:=∀ (id th ok key val hi most fr to:Nat->Int) (ov:Nat->Bool) (rk rv:Nat->Int) (nl:Nat->Bool) (pn:Nat->Nat) (pk pv:Nat->Nat->Int) (nil:Bool) (n:Nat) (t:Int),yNle n 1000000=true →
 wxH Try.prog noSm (annOp n th ov t) 42 [sRc,.sc] [.rows nil n (colsC id th ok key val hi most fr to ov rk rv nl pn pk pv),.v (.y .i64 t)] .sc (.v (.y .i64 (opI n th ov t))) [[.rows nil n (colsC id th ok key val hi most fr to ov rk rv nl pn pk pv)]]
theorem goalOp_eq:goalOp=(∀ (id th ok key val hi most fr to:Nat->Int) (ov:Nat->Bool) (rk rv:Nat->Int) (nl:Nat->Bool) (pn:Nat->Nat) (pk pv:Nat->Nat->Int) (nil:Bool) (n:Nat) (t:Int),yNle n (nat_lit 1000000)=true->true=true/\(∃ (i0:Nat),prOp n th ov t i0/\true=true/\yInt i0=(0:Int)/\true=true)/\∀ (g:Nat->AV) (i:Nat),prOp n th ov t i->(yLt (yInt i) (yInt n)=true->(yIn (yInt i) n=true->(yNlt (yNadd 0 (yNat (yInt i))) n=true->(yEq (th (yNadd 0 (yNat (yInt i)))) t=true->(yIn (yInt i) n=true->(yNlt (yNadd 0 (yNat (yInt i))) n=true->(yNot (ov (yNadd 0 (yNat (yInt i))))=true->opI n th ov t=yInt i/\n=n/\(∀ (i:Nat),Nat.succ i<=n->id i=id i/\th i=th i/\ok i=ok i/\key i=key i/\val i=val i/\hi i=hi i/\most i=most i/\fr i=fr i/\to i=to i/\ov i=ov i/\rk i=rk i/\rv i=rv i/\(nl i=nl i/\pn i=pn i/\∀ (i_1:Nat),Nat.succ i_1<=pn i->pk i i_1=pk i i_1/\pv i i_1=pv i i_1/\True)/\True)/\true=true)/\(yNot (ov (yNadd 0 (yNat (yInt i))))=false->true=true/\∃ (i':Nat),prOp n th ov t i'/\Nat.succ (mOp n i')<=mOp n i/\true=true/\yInt i'=yWrap .i64 (yAdd (yInt i) 1)/\true=true))/\(yNlt (yNadd 0 (yNat (yInt i))) n=false->False))/\(yIn (yInt i) n=false->False))/\(yEq (th (yNadd 0 (yNat (yInt i)))) t=false->true=true/\∃ (i':Nat),prOp n th ov t i'/\Nat.succ (mOp n i')<=mOp n i/\true=true/\yInt i'=yWrap .i64 (yAdd (yInt i) 1)/\true=true))/\(yNlt (yNadd 0 (yNat (yInt i))) n=false->False))/\(yIn (yInt i) n=false->False))/\(yLt (yInt i) (yInt n)=false->opI n th ov t=(-1:Int)/\n=n/\(∀ (i:Nat),Nat.succ i<=n->id i=id i/\th i=th i/\ok i=ok i/\key i=key i/\val i=val i/\hi i=hi i/\most i=most i/\fr i=fr i/\to i=to i/\ov i=ov i/\rk i=rk i/\rv i=rv i/\(nl i=nl i/\pn i=pn i/\∀ (i_1:Nat),Nat.succ i_1<=pn i->pk i i_1=pk i i_1/\pv i i_1=pv i i_1/\True)/\True)/\true=true)):=by kernel_rfl
theorem goalOp_ok:goalOp:=by
 refine @kernel_go _ _ goalOp_eq ?_
 intro id th ok key val hi most fr to ov rk rv nl pn pk pv nil n t hn
 simp only [vS,forall_const,and_true,Nat.zero_add] at hn ⊢
 have nxt:∀ i,i < n->prOp n th ov t i->opB th ov t i=false->∃ i',prOp n th ov t i'/\(mOp n i').succ<=mOp n i/\(i':Int)=yWrap .i64 ((i:Int) + 1):=λ i hi hp hb=>
  ⟨i + 1,⟨hi,λ j hj=>by
   rcases Nat.lt_succ_iff_lt_or_eq.1 hj with h | rfl
   . exact hp.2 j h
   . exact hb⟩,by unfold mOp;omega,by rw [wrap64 (by omega) (by omega)];omega⟩
 refine ⟨⟨0,⟨Nat.zero_le _,λ j hj=>absurd hj (Nat.not_lt_zero _)⟩,rfl⟩,λ _ i hp=>⟨λ hlt=>⟨λ _=>⟨λ hi=>⟨λ e1=>⟨λ _=>⟨λ _=>⟨λ e2=>?_,λ e2=>?_⟩,λ h=>?_⟩,λ h=>?_⟩,λ e1=>?_⟩,λ h=>?_⟩,λ h=>?_⟩,λ hge=>?_⟩⟩
 . refine ⟨?_,λ _ _ _ _=>trivial⟩
   unfold opI
   rw [find_range hp.2 (show opB th ov t i=true from decide_eq_true ⟨e1,e2⟩) n hi]
 . refine nxt i hi hp (decide_eq_false ?_)
   rintro ⟨_,h⟩;rw [e2] at h;cases h
 . omega
 . exact h ⟨by omega,hlt⟩
 . refine nxt i hi hp (decide_eq_false ?_)
   rintro ⟨h,_⟩;exact e1 h
 . omega
 . exact h ⟨by omega,hlt⟩
 . refine ⟨?_,λ _ _ _ _=>trivial⟩
   unfold opI
   have hpn:=hp.1
   rw [find_none (λ j hj=>hp.2 j (by omega))]
theorem smOp (hm:Try.prog.follows .mixedOrders=true):SmCall Try.prog 42 (λ args h=>(ctX [sRc,.sc] .sc fOp args h).sel):=
 ctX_ok hm noSm_ok (λ ds r post h=>by
  unfold fOp at h
  split at h
  . rename_i nil n id th ok key val hi most fr to ov rk rv nl pn pk pv t
    simp only [sI,Prod.mk.injEq] at h
    obtain ⟨h1,rfl,rfl⟩:=h
    refine ⟨annOp n th ov t,1000,?_⟩
    have h2:=@goalOp_ok
    unfold goalOp at h2
    revert h1
    exact @h2 id th ok key val hi most fr to ov rk rv nl pn pk pv nil n t
  . cases h)
def prRk (E:EvS)(n i:Nat):Prop:=i<=n/\gOk E i=true
def annRk (E:EvS)(n:Nat)(b:Nat):Option (St->LoopA):=
 match b with
 | 0=>some λ _=>{ ι:=Nat,tms:=[4,5],tmU:=λ i=>[slG 0 (gN E i),.y .i64 (yInt i)],ids:=[0],hpU:=λ i=>[.arr false 75 13 (gN E i) (colF (colsG E i))],del:=[],ex:=1,pre:=prRk E n,ms:=mGn n }
 | _=>none
def goalRgR:Prop:=∀ (k key val hi most:Int),wxF Try.prog noSm (λ _=>none) 1000 43 (canA gOp [.agg [.v (.y .i64 k),.v (.y .u64 key),.v (.y .u64 val),.v (.y .u64 hi),.v (.y .i64 most)]] []).1 (heapOf (canA gOp [.agg [.v (.y .i64 k),.v (.y .u64 key),.v (.y .u64 val),.v (.y .u64 hi),.v (.y .i64 most)]] []).2) (λ v _=>cmpC (.yb (rightE k most)) v)
def lRk:List (Nat × Sm):=[(42,.ct (ctX [sRc,.sc] .sc fOp)),(43,.ct (ctS gOp fRgE)),(25,.ct (ctS gResult fSame))]
theorem goalRgR_eq:goalRgR=(∀ (k key val hi most:Int),(yEq k (4:Int)=true->(yLe (1:Int) most=true->rightE k most=yLe most (1000:Int))/\(yLe (1:Int) most=false->rightE k most=false))/\(yEq k (4:Int)=false->(yLe (1:Int) k=true->rightE k most=yLe k (3:Int))/\(yLe (1:Int) k=false->rightE k most=false))):=by kernel_rfl
theorem goalRgR_ok:goalRgR:=by
 refine @kernel_go _ _ goalRgR_eq ?_
 intro k _ _ _ most
 unfold rightE
 refine ⟨λ h=>?_,λ h=>?_⟩
 . rw [h]
   exact ⟨λ h2=>by simp only [cond_true];rw [h2];rfl,λ h2=>by simp only [cond_true];rw [h2];rfl⟩
 . rw [h]
   exact ⟨λ h2=>by simp only [cond_false];rw [h2];rfl,λ h2=>by simp only [cond_false];rw [h2];rfl⟩
theorem cOv_f {e:Nat}:cOv e=false ↔ e=0:=by
 cases e with
 | zero=>exact ⟨λ _=>rfl,λ _=>rfl⟩
 | succ e=>exact ⟨λ h=>(Bool.noConfusion h:False).elim,λ h=>absurd h (Nat.succ_ne_zero e)⟩
structure GLk (E:EvS)(g:GS):Prop where
 fw:∀ x,g.p x=true->eTh E (g.ev (g.v x).toNat)=x/\g.en (g.v x).toNat=0
 bw:∀ j,j < g.n->g.en j=0->g.p (eTh E (g.ev j))=true/\g.v (eTh E (g.ev j))=j
theorem gLk (E:EvS):∀ i,GLk E (gS E i)
 | 0=>⟨λ x h=>(Bool.noConfusion h:False).elim,λ j h=>absurd h (Nat.not_lt_zero j)⟩
 | i + 1=>by
   have ih:=gLk E i
   have hI:=gInv E i
   show GLk E (bif (gS E i).ok then gs1 E i (gS E i) else gS E i)
   cases hok:(gS E i).ok with
   | false=>exact ih
   | true=>
     rw [cond_true]
     rcases gs1_cases E i (gS E i) with h | ⟨h2,h1,h3⟩ | ⟨h3,h1,h4⟩
     . rw [h];exact ⟨ih.fw,ih.bw⟩
     . rw [gs1_t2 h1 h2 h3]
       have hnp:(gS E i).p (eTh E i)=false:=by
        cases hp:(gS E i).p (eTh E i) with
        | false=>rfl
        | true=>exact absurd (.inl hp) h3
       refine ⟨λ x hx=>?_,λ j hj he=>?_⟩
       . have hx:yOr (yEq x (eTh E i)) ((gS E i).p x)=true:=hx
         show eTh E (if (ySel (yEq x (eTh E i)) ((gS E i).n:Int) ((gS E i).v x)).toNat=(gS E i).n then i else (gS E i).ev (ySel (yEq x (eTh E i)) ((gS E i).n:Int) ((gS E i).v x)).toNat)=x/\(if (ySel (yEq x (eTh E i)) ((gS E i).n:Int) ((gS E i).v x)).toNat=(gS E i).n then 0 else (gS E i).en (ySel (yEq x (eTh E i)) ((gS E i).n:Int) ((gS E i).v x)).toNat)=0
         cases hq:yEq x (eTh E i) with
         | true=>
           have e:(ySel true ((gS E i).n:Int) ((gS E i).v x)).toNat=(gS E i).n:=by
            show ((gS E i).n:Int).toNat=_
            omega
           rw [if_pos e,if_pos e]
           simp only [yEq_t] at hq
           exact ⟨hq.symm,rfl⟩
         | false=>
           rw [hq] at hx
           have hx:(gS E i).p x=true:=hx
           have hv:=hI.v x hx
           have e:¬ (ySel false ((gS E i).n:Int) ((gS E i).v x)).toNat=(gS E i).n:=by
            show ¬ ((gS E i).v x).toNat=_
            omega
           rw [if_neg e,if_neg e]
           exact ih.fw x hx
       . have hj:j < (gS E i).n + 1:=hj
         have he:(if j=(gS E i).n then 0 else (gS E i).en j)=0:=he
         show yOr (yEq (eTh E (if j=(gS E i).n then i else (gS E i).ev j)) (eTh E i)) ((gS E i).p (eTh E (if j=(gS E i).n then i else (gS E i).ev j)))=true/\ySel (yEq (eTh E (if j=(gS E i).n then i else (gS E i).ev j)) (eTh E i)) ((gS E i).n:Int) ((gS E i).v (eTh E (if j=(gS E i).n then i else (gS E i).ev j)))=(j:Int)
         by_cases hjn:j=(gS E i).n
         . rw [if_pos hjn]
           have e:yEq (eTh E i) (eTh E i)=true:=by simp only [yEq_t]
           rw [e]
           exact ⟨rfl,by rw [hjn];rfl⟩
         . rw [if_neg hjn] at he ⊢
           obtain ⟨a,b⟩:=ih.bw j (by omega) he
           cases hq:yEq (eTh E ((gS E i).ev j)) (eTh E i) with
           | true=>
             simp only [yEq_t] at hq
             rw [hq,hnp] at a;cases a
           | false=>
             rw [a,b];exact ⟨rfl,rfl⟩
     . rw [gs1_t3 h1 (by omega) h3 h4]
       have hp:(gS E i).p (eTh E i)=true:=by
        cases hp:(gS E i).p (eTh E i) with
        | true=>rfl
        | false=>exact absurd (.inl hp) h4
       refine ⟨λ x hx=>?_,λ j hj he=>?_⟩
       . have hx:yAnd (yNot (yEq x (eTh E i))) ((gS E i).p x)=true:=hx
         simp only [yAnd_t,yNot_t,yEq_f] at hx
         obtain ⟨a,b⟩:=ih.fw x hx.2
         show eTh E ((gS E i).ev ((gS E i).v x).toNat)=x/\(if ((gS E i).v x).toNat=((gS E i).v (eTh E i)).toNat then i + 1 else (gS E i).en ((gS E i).v x).toNat)=0
         have hne:¬ ((gS E i).v x).toNat=((gS E i).v (eTh E i)).toNat:=λ e=>by
          rw [e] at a
          exact hx.1 (a.symm.trans (ih.fw _ hp).1)
         rw [if_neg hne]
         exact ⟨a,b⟩
       . have he:(if j=((gS E i).v (eTh E i)).toNat then i + 1 else (gS E i).en j)=0:=he
         by_cases hjn:j=((gS E i).v (eTh E i)).toNat
         . rw [if_pos hjn] at he;cases he
         . rw [if_neg hjn] at he
           obtain ⟨a,b⟩:=ih.bw j hj he
           show yAnd (yNot (yEq (eTh E ((gS E i).ev j)) (eTh E i))) ((gS E i).p (eTh E ((gS E i).ev j)))=true/\(gS E i).v (eTh E ((gS E i).ev j))=j
           refine ⟨?_,b⟩
           simp only [yAnd_t,yNot_t,yEq_f]
           refine ⟨λ e=>hjn ?_,a⟩
           rw [<- e,b];omega
theorem gs1_at {E:EvS}{i:Nat}(h:gOk E (i + 1)=true):gOk E i=true/\gAt E (i + 1)=eAt E i:=by
 have h0:gOk E i=true:=by
  cases hb:gOk E i with
  | true=>rfl
  | false=>have:=gOk_stay hb 1;rw [h] at this;cases this
 refine ⟨h0,?_⟩
 have h:(gS E (i + 1)).ok=true:=h
 unfold gAt
 rw [gS_step h0] at h ⊢
 rcases gs1_cases E i (gS E i) with e | ⟨h2,h1,h3⟩ | ⟨h3,h1,h4⟩
 . rw [e] at h;cases h
 . rw [gs1_t2 h1 h2 h3]
 . rw [gs1_t3 h1 (by omega) h3 h4]
theorem gAt_nn (E:EvS):∀ i,gOk E i=true->0<=(gS E i).at_
 | 0,_=>Int.le_refl 0
 | i + 1,h=>by
   obtain ⟨h0,h1⟩:=gs1_at h
   have ih:=gAt_nn E i h0
   have h1:(gS E (i + 1)).at_=eAt E i:=h1
   rw [h1]
   have h:(gS E (i + 1)).ok=true:=h
   rw [gS_step h0] at h
   rcases gs1_cases E i (gS E i) with e | ⟨_,h2,_⟩ | ⟨_,h2,_⟩
   . rw [e] at h;cases h
   . omega
   . omega
theorem opI_eq (E:EvS)(i:Nat)(t:Int):opI (gN E i) (λ j=>eTh E (gEv E i j)) (λ j=>cOv (gEn E i j)) t=bif gP E i t then gV E i t else -1:=by
 have hL:=gLk E i
 have hI:=gInv E i
 cases hp:gP E i t with
 | true=>
   obtain ⟨a,b⟩:=hL.fw t hp
   obtain ⟨c,d⟩:=hI.v t hp
   have hlt:((gS E i).v t).toNat < gN E i:=by
    show _ < (gS E i).n
    omega
   have hj:opB (λ j=>eTh E (gEv E i j)) (λ j=>cOv (gEn E i j)) t ((gS E i).v t).toNat=true:=decide_eq_true ⟨a,cOv_f.2 b⟩
   have hb:∀ j,j < ((gS E i).v t).toNat->opB (λ j=>eTh E (gEv E i j)) (λ j=>cOv (gEn E i j)) t j=false:=λ j hjl=>decide_eq_false λ h=>by
    obtain ⟨h1,h2⟩:=h
    have h3:=hL.bw j (by omega) (cOv_f.1 h2)
    have h1:eTh E ((gS E i).ev j)=t:=h1
    rw [h1] at h3
    have:=h3.2
    omega
   unfold opI
   rw [find_range hb hj (gN E i) hlt]
   show ((((gS E i).v t).toNat:Nat):Int)=(gS E i).v t
   omega
 | false=>
   unfold opI
   have hb:∀ j,j < gN E i->opB (λ j=>eTh E (gEv E i j)) (λ j=>cOv (gEn E i j)) t j=false:=λ j hj=>decide_eq_false λ h=>by
    obtain ⟨h1,h2⟩:=h
    have h3:=hL.bw j hj (cOv_f.1 h2)
    have h1:eTh E ((gS E i).ev j)=t:=h1
    rw [h1] at h3
    exact Bool.noConfusion (h3.1.symm.trans hp)
   rw [find_none hb]
   rfl
def fRk (ds:List Dx):Option (Bool × Dx × List (List Dx)):=fGn ds
def fullE (ov:Bool)(ok rk rv:Int)(n:Nat)(a0 a1:Nat->Int):Bool:=yAnd ov (yAnd (yEq ok 2) (sameRes rk rv n a0 a1 3 0 0 (λ _=>0) (λ _=>0)))
abbrev gCa:List Ag:=[.agg [none,none,none,none,none,none,none,none,none,none,none,none,cPair]]
def lFu:List (Nat × Sm):=[(25,.ct (ctS gResult fSame)),(64,.ct (ctS gResult fSame))]
def fFu (ds:List Da):Option (Bool × AV):=
 match ds with
 | [.agg [.v (.y .i64 _),.v (.y .i64 _),.v (.y .i64 ok),.v (.y .u64 _),.v (.y .u64 _),.v (.y .u64 _),.v (.y .i64 _),.v (.y .i64 _),.v (.y .i64 _),.v (.yb ov),.v (.y .i64 rk),.v (.y .u64 rv),.rows _ n [.int .u64 a0,.int .u64 a1]]]=>some (yNle n 1000000,.yb (fullE ov ok rk rv n a0 a1))
 | _=>none
def goalFu (f:FuncId):Prop:=∀ (id th ok key val hi most fr to:Int) (ov:Bool) (rk rv:Int) (nl:Bool) (n:Nat) (a0 a1:Nat->Int),yNle n 1000000=true →
 wxF Try.prog (smL lFu) (λ _=>none) 1000 f (canA gCa [.agg [.v (.y .i64 id),.v (.y .i64 th),.v (.y .i64 ok),.v (.y .u64 key),.v (.y .u64 val),.v (.y .u64 hi),.v (.y .i64 most),.v (.y .i64 fr),.v (.y .i64 to),.v (.yb ov),.v (.y .i64 rk),.v (.y .u64 rv),.rows nl n [.int .u64 a0,.int .u64 a1]]] []).1 (heapOf (canA gCa [.agg [.v (.y .i64 id),.v (.y .i64 th),.v (.y .i64 ok),.v (.y .u64 key),.v (.y .u64 val),.v (.y .u64 hi),.v (.y .i64 most),.v (.y .i64 fr),.v (.y .i64 to),.v (.yb ov),.v (.y .i64 rk),.v (.y .u64 rv),.rows nl n [.int .u64 a0,.int .u64 a1]]] []).2) (λ r _=>cmpC (.yb (fullE ov ok rk rv n a0 a1)) r)
def goalFuR:Prop:=goalFu 24
theorem goalFuR_eq:goalFuR=(∀ (id th ok key val hi most fr to:Int) (ov:Bool) (rk rv:Int) (nl:Bool) (n:Nat) (a0 a1:Nat->Int),yNle n (nat_lit 1000000)=true->(ov=true->(yEq ok (2:Int)=true->(yNle (yNadd 0 n) n=true->((yCol (CK.int .u64) n λ (i:Nat)=>AV.y .u64 (a0 i))=true->((yCol (CK.int .u64) n λ (i:Nat)=>AV.y .u64 (a1 i))=true->(yNle n (nat_lit 1000000)=true->fullE ov ok rk rv n a0 a1=sameRes rk rv n (λ (i:Nat)=>a0 i) (λ (i:Nat)=>a1 i) 3 0 0 (λ (i:Nat)=>(0:Int)) λ (i:Nat)=>(0:Int))/\(yNle n (nat_lit 1000000)=false->False))/\((yCol (CK.int .u64) n λ (i:Nat)=>AV.y .u64 (a1 i))=false->False))/\((yCol (CK.int .u64) n λ (i:Nat)=>AV.y .u64 (a0 i))=false->False))/\(yNle (yNadd 0 n) n=false->False))/\(yEq ok (2:Int)=false->fullE ov ok rk rv n a0 a1=false))/\(ov=false->fullE ov ok rk rv n a0 a1=false)):=by kernel_rfl
theorem fullE_ok {f:FuncId}(he:goalFu f=(∀ (id th ok key val hi most fr to:Int) (ov:Bool) (rk rv:Int) (nl:Bool) (n:Nat) (a0 a1:Nat->Int),yNle n (nat_lit 1000000)=true->(ov=true->(yEq ok (2:Int)=true->(yNle (yNadd 0 n) n=true->((yCol (CK.int .u64) n λ (i:Nat)=>AV.y .u64 (a0 i))=true->((yCol (CK.int .u64) n λ (i:Nat)=>AV.y .u64 (a1 i))=true->(yNle n (nat_lit 1000000)=true->fullE ov ok rk rv n a0 a1=sameRes rk rv n (λ (i:Nat)=>a0 i) (λ (i:Nat)=>a1 i) 3 0 0 (λ (i:Nat)=>(0:Int)) λ (i:Nat)=>(0:Int))/\(yNle n (nat_lit 1000000)=false->False))/\((yCol (CK.int .u64) n λ (i:Nat)=>AV.y .u64 (a1 i))=false->False))/\((yCol (CK.int .u64) n λ (i:Nat)=>AV.y .u64 (a0 i))=false->False))/\(yNle (yNadd 0 n) n=false->False))/\(yEq ok (2:Int)=false->fullE ov ok rk rv n a0 a1=false))/\(ov=false->fullE ov ok rk rv n a0 a1=false))):goalFu f:=by
 refine @kernel_go _ _ he ?_
 intro id th ok key val hi most fr to ov rk rv nl n a0 a1 hn
 simp only [vS,forall_const] at hn ⊢
 unfold fullE
 refine ⟨λ h=>⟨λ h2=>?_,λ h2=>?_⟩,λ h=>?_⟩
 . have e:yEq ok 2=true:=decide_eq_true h2
   rw [h,e]
   exact ⟨⟨λ _=>rfl,λ h=>by omega⟩,λ h=>by omega⟩
 . have e:yEq ok 2=false:=decide_eq_false h2
   rw [e];cases ov <;> rfl
 . rw [h];rfl
theorem goalFuR_ok:goalFu 24:=@fullE_ok _ goalFuR_eq
theorem smFu (hm:Try.prog.follows .mixedOrders=true)(hs:SmOK Try.prog (smL lFu)){f:FuncId}(hf:goalFu f):SmCall Try.prog f (λ args h=>(ctS gCa fFu args h).sel):=
 ctS_ok hm hs (by decide) (λ ds a h=>by
  unfold fFu at h
  split at h
  . rename_i id th ok key val hi most fr to ov rk rv nl n a0 a1
    simp only [sI,Prod.mk.injEq] at h
    obtain ⟨h1,rfl⟩:=h
    have h2:=hf
    unfold goalFu at h2
    exact ⟨λ _=>none,1000,@h2 id th ok key val hi most fr to ov rk rv nl n a0 a1 h1⟩
  . cases h)
def prs (n:Nat)(a0 a1:Nat->Int):List (Int × Int):=(List.range n).map λ j=>(a0 j,a1 j)
def rN (l:List (Int × Int)):Nat:=l.length
def rA (l:List (Int × Int))(i:Nat):Int:=(l.getD i (0,0)).1
def rB (l:List (Int × Int))(i:Nat):Int:=(l.getD i (0,0)).2
def rE (l:List (Int × Int)):Bool:=l.isEmpty
def mTo (n i:Nat):Nat:=n - i
abbrev cols2 (a0 a1:Nat->Int):List Col:=[.int .u64 a0,.int .u64 a1]
abbrev rowsL (l:List (Int × Int)):Dx:=.rows (rE l) (rN l) (cols2 (rA l) (rB l))
abbrev roP:Sx:=.ro 113 [.int .u64,.int .u64]
abbrev ownP:Sx:=.own 113 [.int .u64,.int .u64]
abbrev slP (id:Nat)(l:List (Int × Int)):AV:=.ysl false (rE l) id 2 0 (rN l)
abbrev arP (l:List (Int × Int)):AO:=.arr false 113 2 (rN l) (colF (cols2 (rA l) (rB l)))
abbrev wxP (P:Program)(sm:FuncId->Option Sm)(ann:Nat->Option (St->LoopA))(f:FuncId)(ss:List Sx)(ds:List Dx)(rs:Sx)(r:Dx)(post:List (List Dx)):Prop:=
 wxF P sm ann 1000 f (canXs nmI ss ds []).1 (heapOf (canXs nmI ss ds []).2)
  (postX (canXs nmI ss ds []).2.length (delX 0 (canXs nmI ss ds []).2 (ptrId ss (canXs nmI ss ds []).1)) (ptrId ss (canXs nmI ss ds []).1) (expR (λ j=>(canXs nmI ss ds []).2.length + j) (ptrSh ss ds) rs r post))
theorem prs_succ (i:Nat)(a0 a1:Nat->Int):prs (i + 1) a0 a1=prs i a0 a1 ++ [(a0 i,a1 i)]:=by simp [prs,List.range_succ]
theorem prs_len (i:Nat)(a0 a1:Nat->Int):(prs i a0 a1).length=i:=by simp [prs]
theorem rN_snoc (l:List (Int × Int))(x:Int × Int):rN (l ++ [x])=rN l + 1:=by simp [rN]
theorem rE_snoc (l:List (Int × Int))(x:Int × Int):rE (l ++ [x])=false:=by simp [rE]
theorem rA_snoc (l:List (Int × Int))(x:Int × Int){j:Nat}(h:j < rN l + 1):rA (l ++ [x]) j=ySel (yNlt j (rN l)) (rA l j) x.1:=by
 unfold rN at h
 unfold rA ySel yNlt rN
 rw [List.getD_eq_getElem?_getD,List.getD_eq_getElem?_getD,List.getElem?_append]
 by_cases hj:j < l.length
 . simp [hj]
 . have:j=l.length:=by omega
   subst this;simp
theorem rB_snoc (l:List (Int × Int))(x:Int × Int){j:Nat}(h:j < rN l + 1):rB (l ++ [x]) j=ySel (yNlt j (rN l)) (rB l j) x.2:=by
 unfold rN at h
 unfold rB ySel yNlt rN
 rw [List.getD_eq_getElem?_getD,List.getD_eq_getElem?_getD,List.getElem?_append]
 by_cases hj:j < l.length
 . simp [hj]
 . have:j=l.length:=by omega
   subst this;simp
theorem rA_snoc2 (l:List (Int × Int))(x y:Int × Int){j:Nat}(h:j < rN l + 1 + 1):rA (l ++ [x] ++ [y]) j=ySel (yNlt j (rN l + 1)) (ySel (yNlt j (rN l)) (rA l j) x.1) y.1:=by
 rw [rA_snoc _ y (by rw [rN_snoc];exact h),rN_snoc]
 by_cases hj:j < rN l + 1
 . rw [rA_snoc _ x hj]
 . simp [ySel,yNlt,hj]
theorem rB_snoc2 (l:List (Int × Int))(x y:Int × Int){j:Nat}(h:j < rN l + 1 + 1):rB (l ++ [x] ++ [y]) j=ySel (yNlt j (rN l + 1)) (ySel (yNlt j (rN l)) (rB l j) x.2) y.2:=by
 rw [rB_snoc _ y (by rw [rN_snoc];exact h),rN_snoc]
 by_cases hj:j < rN l + 1
 . rw [rB_snoc _ x hj]
 . simp [ySel,yNlt,hj]
theorem yAnd10 (b:Bool):yAnd b (yNeq 1 0)=false:=by cases b <;> rfl
def putStep (k v:Int)(s:List (Int × Int) × Bool)(x:Int × Int):List (Int × Int) × Bool:=
 let s1:=if k<=x.1/\s.2=false then (s.1 ++ [(k,v)],true) else s
 if x.1=k then s1 else (s1.1 ++ [x],s1.2)
def putSt (k v:Int)(l:List (Int × Int)):List (Int × Int) × Bool:=l.foldl (putStep k v) ([],false)
def putO (k v:Int)(l:List (Int × Int)):List (Int × Int):=(putSt k v l).1
def putD (k v:Int)(l:List (Int × Int)):Bool:=(putSt k v l).2
def putL (k v:Int)(l:List (Int × Int)):List (Int × Int):=if putD k v l=true then putO k v l else putO k v l ++ [(k,v)]
def annPut (n:Nat)(a0 a1:Nat->Int)(k v:Int)(b:Nat):Option (St->LoopA):=
 match b with
 | 0=>some λ _=>{ ι:=Nat,tms:=[7,8,9],tmU:=λ i=>[slP 1 (putO k v (prs i a0 a1)),.yb (putD k v (prs i a0 a1)),.y .i64 (yInt i)],ids:=[1],hpU:=λ i=>[arP (putO k v (prs i a0 a1))],del:=[],ex:=1,pre:=λ i=>i<=n,ms:=mTo n }
 | _=>none
def fPut (ds:List Dx):Option (Bool × Dx × List (List Dx)):=
 match ds with
 | [.rows _ n [.int .u64 a0,.int .u64 a1],.v (.y .u64 k),.v (.y .u64 v)]=>some (yNle n 1000000,rowsL (putL k v (prs n a0 a1)),[])
 | _=>none
def goalPut:Prop:=∀ (nilA:Bool) (n:Nat) (a0 a1:Nat->Int) (k v:Int),yNle n 1000000=true →
 wxP Try.prog noSm (annPut n a0 a1 k v) 47 [roP,.sc,.sc] [.rows nilA n (cols2 a0 a1),.v (.y .u64 k),.v (.y .u64 v)] ownP (rowsL (putL k v (prs n a0 a1))) []
def goalPut_0 (i:Nat)(n:Nat)(a0:Nat->Int)(k:Int)(v:Int)(a1:Nat->Int):=mst (yNlt (yNadd 0 (yNat (yInt i))) n) ((yNot (yEq (a0 (yNadd 0 (yNat (yInt i)))) k)=true->mst (yIn (yInt i) n) (mst (yNlt (yNadd 0 (yNat (yInt i))) n) (mst (yNeq (rN (putO k v (prs i a0 a1))) (rN (putO k v (prs i a0 a1)))) (mst (yGrow (yNadd (rN (putO k v (prs i a0 a1))) 1) 16) (true=true/\∃ (i':Nat),i'<=n/\Nat.succ (mTo n i')<=mTo n i/\true=true/\rE (putO k v (prs i' a0 a1))=yAnd (rE (putO k v (prs i a0 a1))) (yNeq 1 0)/\0=0/\rN (putO k v (prs i' a0 a1))=yNadd (rN (putO k v (prs i a0 a1))) 1/\putD k v (prs i' a0 a1)=putD k v (prs i a0 a1)/\yInt i'=yWrap .i64 (yAdd (yInt i) 1)/\rN (putO k v (prs i' a0 a1))=yNadd (rN (putO k v (prs i a0 a1))) 1/\(∀ (i_1:Nat),Nat.succ i_1<=rN (putO k v (prs i' a0 a1))->rA (putO k v (prs i' a0 a1)) i_1=ySel (yNlt i_1 (rN (putO k v (prs i a0 a1)))) (rA (putO k v (prs i a0 a1)) i_1) (a0 (yNadd 0 (yNat (yInt i))))/\rB (putO k v (prs i' a0 a1)) i_1=ySel (yNlt i_1 (rN (putO k v (prs i a0 a1)))) (rB (putO k v (prs i a0 a1)) i_1) (a1 (yNadd 0 (yNat (yInt i))))/\True)/\true=true)))))/\(yNot (yEq (a0 (yNadd 0 (yNat (yInt i)))) k)=false->true=true/\∃ (i':Nat),i'<=n/\Nat.succ (mTo n i')<=mTo n i/\true=true/\rE (putO k v (prs i' a0 a1))=rE (putO k v (prs i a0 a1))/\0=0/\rN (putO k v (prs i' a0 a1))=rN (putO k v (prs i a0 a1))/\putD k v (prs i' a0 a1)=putD k v (prs i a0 a1)/\yInt i'=yWrap .i64 (yAdd (yInt i) 1)/\rN (putO k v (prs i' a0 a1))=rN (putO k v (prs i a0 a1))/\(∀ (i_1:Nat),Nat.succ i_1<=rN (putO k v (prs i' a0 a1))->rA (putO k v (prs i' a0 a1)) i_1=rA (putO k v (prs i a0 a1)) i_1/\rB (putO k v (prs i' a0 a1)) i_1=rB (putO k v (prs i a0 a1)) i_1/\True)/\true=true))
def goalPutV:Prop:=(∀ (nilA:Bool) (n:Nat) (a0 a1:Nat->Int) (k v:Int),yNle n 1000000=true->true=true/\(∃ (i0:Nat),i0<=n/\true=true/\rE (putO k v (prs i0 a0 a1))=true/\rN (putO k v (prs i0 a0 a1))=0/\putD k v (prs i0 a0 a1)=false/\yInt i0=0/\rN (putO k v (prs i0 a0 a1))=0/\true=true/\true=true)/\∀ (g:Nat->AV) (i:Nat),i<=n->(yLt (yInt i) (yInt n)=true->mst (yIn (yInt i) n) (mst (yNlt (yNadd 0 (yNat (yInt i))) n) ((yLe k (a0 (yNadd 0 (yNat (yInt i))))=true->(putD k v (prs i a0 a1)=true->mst (yIn (yInt i) n) (goalPut_0 i n a0 k v a1))/\(putD k v (prs i a0 a1)=false->mst (yNeq (rN (putO k v (prs i a0 a1))) (rN (putO k v (prs i a0 a1)))) (mst (yGrow (yNadd (rN (putO k v (prs i a0 a1))) 1) 16) (mst (yIn (yInt i) n) (mst (yNlt (yNadd 0 (yNat (yInt i))) n) ((yNot (yEq (a0 (yNadd 0 (yNat (yInt i)))) k)=true->mst (yIn (yInt i) n) (mst (yNlt (yNadd 0 (yNat (yInt i))) n) (mst (yNeq (yNadd (rN (putO k v (prs i a0 a1))) 1) (yNadd (rN (putO k v (prs i a0 a1))) 1)) (mst (yGrow (yNadd (yNadd (rN (putO k v (prs i a0 a1))) 1) 1) 16) (true=true/\∃ (i':Nat),i'<=n/\Nat.succ (mTo n i')<=mTo n i/\true=true/\rE (putO k v (prs i' a0 a1))=yAnd (yAnd (rE (putO k v (prs i a0 a1))) (yNeq 1 0)) (yNeq 1 0)/\0=0/\rN (putO k v (prs i' a0 a1))=yNadd (yNadd (rN (putO k v (prs i a0 a1))) 1) 1/\putD k v (prs i' a0 a1)=true/\yInt i'=yWrap .i64 (yAdd (yInt i) 1)/\rN (putO k v (prs i' a0 a1))=yNadd (yNadd (rN (putO k v (prs i a0 a1))) 1) 1/\(∀ (i_1:Nat),Nat.succ i_1<=rN (putO k v (prs i' a0 a1))->rA (putO k v (prs i' a0 a1)) i_1=ySel (yNlt i_1 (yNadd (rN (putO k v (prs i a0 a1))) 1)) (ySel (yNlt i_1 (rN (putO k v (prs i a0 a1)))) (rA (putO k v (prs i a0 a1)) i_1) k) (a0 (yNadd 0 (yNat (yInt i))))/\rB (putO k v (prs i' a0 a1)) i_1=ySel (yNlt i_1 (yNadd (rN (putO k v (prs i a0 a1))) 1)) (ySel (yNlt i_1 (rN (putO k v (prs i a0 a1)))) (rB (putO k v (prs i a0 a1)) i_1) v) (a1 (yNadd 0 (yNat (yInt i))))/\True)/\true=true)))))/\(yNot (yEq (a0 (yNadd 0 (yNat (yInt i)))) k)=false->true=true/\∃ (i':Nat),i'<=n/\Nat.succ (mTo n i')<=mTo n i/\true=true/\rE (putO k v (prs i' a0 a1))=yAnd (rE (putO k v (prs i a0 a1))) (yNeq 1 0)/\0=0/\rN (putO k v (prs i' a0 a1))=yNadd (rN (putO k v (prs i a0 a1))) 1/\putD k v (prs i' a0 a1)=true/\yInt i'=yWrap .i64 (yAdd (yInt i) 1)/\rN (putO k v (prs i' a0 a1))=yNadd (rN (putO k v (prs i a0 a1))) 1/\(∀ (i_1:Nat),Nat.succ i_1<=rN (putO k v (prs i' a0 a1))->rA (putO k v (prs i' a0 a1)) i_1=ySel (yNlt i_1 (rN (putO k v (prs i a0 a1)))) (rA (putO k v (prs i a0 a1)) i_1) k/\rB (putO k v (prs i' a0 a1)) i_1=ySel (yNlt i_1 (rN (putO k v (prs i a0 a1)))) (rB (putO k v (prs i a0 a1)) i_1) v/\True)/\true=true)))))))/\(yLe k (a0 (yNadd 0 (yNat (yInt i))))=false->mst (yIn (yInt i) n) (goalPut_0 i n a0 k v a1)))))/\(yLt (yInt i) (yInt n)=false->(putD k v (prs i a0 a1)=true->rE (putL k v (prs n a0 a1))=rE (putO k v (prs i a0 a1))/\0=0/\rN (putL k v (prs n a0 a1))=rN (putO k v (prs i a0 a1))/\rN (putL k v (prs n a0 a1))=rN (putO k v (prs i a0 a1))/\(∀ (i_1:Nat),Nat.succ i_1<=rN (putL k v (prs n a0 a1))->rA (putL k v (prs n a0 a1)) i_1=rA (putO k v (prs i a0 a1)) i_1/\rB (putL k v (prs n a0 a1)) i_1=rB (putO k v (prs i a0 a1)) i_1/\True)/\true=true)/\(putD k v (prs i a0 a1)=false->mst (yNeq (rN (putO k v (prs i a0 a1))) (rN (putO k v (prs i a0 a1)))) (mst (yGrow (yNadd (rN (putO k v (prs i a0 a1))) 1) 16) (rE (putL k v (prs n a0 a1))=yAnd (rE (putO k v (prs i a0 a1))) (yNeq 1 0)/\0=0/\rN (putL k v (prs n a0 a1))=yNadd (rN (putO k v (prs i a0 a1))) 1/\rN (putL k v (prs n a0 a1))=yNadd (rN (putO k v (prs i a0 a1))) 1/\(∀ (i_1:Nat),Nat.succ i_1<=rN (putL k v (prs n a0 a1))->rA (putL k v (prs n a0 a1)) i_1=ySel (yNlt i_1 (rN (putO k v (prs i a0 a1)))) (rA (putO k v (prs i a0 a1)) i_1) k/\rB (putL k v (prs n a0 a1)) i_1=ySel (yNlt i_1 (rN (putO k v (prs i a0 a1)))) (rB (putO k v (prs i a0 a1)) i_1) v/\True)/\true=true)))))
theorem goalPut_eq:goalPut=goalPutV:=by kernel_rfl
theorem putSt_succ (k v:Int)(i:Nat)(a0 a1:Nat->Int):putSt k v (prs (i + 1) a0 a1)=putStep k v (putSt k v (prs i a0 a1)) (a0 i,a1 i):=by
 unfold putSt;rw [prs_succ,List.foldl_append];rfl
theorem putO_len (k v:Int)(l:List (Int × Int)):rN (putO k v l)<=2 * l.length:=by
 have:∀ (l:List (Int × Int)) (s:List (Int × Int) × Bool),(l.foldl (putStep k v) s).1.length<=s.1.length + 2 * l.length:=by
  intro l
  induction l with
  | nil=>intro s;simp
  | cons x l ih=>
    intro s
    have:=ih (putStep k v s x)
    have h2:(putStep k v s x).1.length<=s.1.length + 2:=by
     unfold putStep
     simp only
     repeat' split
     all_goals simp
    simp only [List.foldl_cons,List.length_cons]
    omega
 simpa [rN,putO,putSt] using this l ([],false)
theorem goalPut_ok:goalPut:=by
 refine kernel_go goalPut_eq ?_
 unfold goalPutV goalPut_0
 intro nilA n a0 a1 k v hn
 simp only [vS,forall_const] at hn ⊢
 refine ⟨⟨0,Nat.zero_le _,rfl,rfl,rfl,rfl,rfl⟩,λ _ i hi=>⟨?_,λ hge=>?_⟩⟩
 . have hs:=putSt_succ k v i a0 a1
   have hl:=putO_len k v (prs i a0 a1)
   rw [prs_len] at hl
   have hO:putO k v (prs (i + 1) a0 a1)=(putStep k v (putO k v (prs i a0 a1),putD k v (prs i a0 a1)) (a0 i,a1 i)).1:=congrArg Prod.fst hs
   have hD:putD k v (prs (i + 1) a0 a1)=(putStep k v (putO k v (prs i a0 a1),putD k v (prs i a0 a1)) (a0 i,a1 i)).2:=congrArg Prod.snd hs
   generalize putO k v (prs i a0 a1)=O at *
   generalize putD k v (prs i a0 a1)=D at *
   cases D <;> by_cases h1:k<=a0 i <;> by_cases h2:a0 i=k
   all_goals simp only [putStep,h1,h2,Bool.false_eq_true,Bool.true_eq_false,and_true,and_false,if_true,if_false,Int.le_refl] at hO hD ⊢
   all_goals repeat' (first | apply And.intro | intro _)
   all_goals try omega
   all_goals try contradiction
   all_goals refine ⟨i + 1,by omega,by unfold mTo;omega,?_⟩
   all_goals rw [hO,hD,wrap64 (by omega) (by omega)]
   all_goals simp only [rE_snoc,rN_snoc,yAnd10,true_and]
   all_goals refine ⟨rfl,?_⟩
   all_goals first | exact λ _ _=>trivial | exact λ j hj=>⟨rA_snoc _ _ hj,rB_snoc _ _ hj⟩ | exact λ j hj=>⟨rA_snoc2 _ _ _ hj,rB_snoc2 _ _ _ hj⟩
 . have:i=n:=by omega
   subst this
   have hl:=putO_len k v (prs i a0 a1)
   rw [prs_len] at hl
   unfold putL
   generalize putO k v (prs i a0 a1)=O at *
   generalize putD k v (prs i a0 a1)=D at *
   cases D
   all_goals simp only [Bool.false_eq_true,if_true,if_false]
   all_goals repeat' (first | apply And.intro | intro _)
   all_goals try first | omega | contradiction | rfl
   all_goals try simp only [rE_snoc,rN_snoc,yAnd10]
   . rename_i hj;exact rA_snoc _ _ (by rw [rN_snoc] at hj;exact hj)
   . rename_i hj;exact rB_snoc _ _ (by rw [rN_snoc] at hj;exact hj)
theorem smPut (hm:Try.prog.follows .mixedOrders=true):SmCall Try.prog 47 (λ args h=>(ctX [roP,.sc,.sc] ownP fPut args h).sel):=
 ctX_ok hm noSm_ok (λ ds r post h=>by
  unfold fPut at h
  split at h
  . simp only [sI,Prod.mk.injEq] at h
    obtain ⟨h1,rfl,rfl⟩:=h
    rename_i nA n a0 a1 k v
    have h2:=goalPut_ok
    unfold goalPut at h2
    exact ⟨annPut n a0 a1 k v,1000,h2 nA n a0 a1 k v h1⟩
  . cases h)
def dropL (k:Int)(l:List (Int × Int)):List (Int × Int):=l.filter λ p=>p.1 != k
def annDrop (n:Nat)(a0 a1:Nat->Int)(k:Int)(b:Nat):Option (St->LoopA):=
 match b with
 | 0=>some λ _=>{ ι:=Nat,tms:=[5,6],tmU:=λ i=>[slP 1 (dropL k (prs i a0 a1)),.y .i64 (yInt i)],ids:=[1],hpU:=λ i=>[arP (dropL k (prs i a0 a1))],del:=[],ex:=1,pre:=λ i=>i<=n,ms:=mTo n }
 | _=>none
def fDrop (ds:List Dx):Option (Bool × Dx × List (List Dx)):=
 match ds with
 | [.rows _ n [.int .u64 a0,.int .u64 a1],.v (.y .u64 k)]=>some (yNle n 1000000,rowsL (dropL k (prs n a0 a1)),[])
 | _=>none
def goalDrop:Prop:=∀ (nilA:Bool) (n:Nat) (a0 a1:Nat->Int) (k:Int),yNle n 1000000=true →
 wxP Try.prog noSm (annDrop n a0 a1 k) 48 [roP,.sc] [.rows nilA n (cols2 a0 a1),.v (.y .u64 k)] ownP (rowsL (dropL k (prs n a0 a1))) []
theorem goalDrop_eq:goalDrop=(∀ (nilA:Bool) (n:Nat) (a0 a1:Nat->Int) (k:Int),yNle n 1000000=true->true=true/\(∃ (i0:Nat),i0<=n/\true=true/\rE (dropL k (prs i0 a0 a1))=true/\rN (dropL k (prs i0 a0 a1))=0/\yInt i0=0/\rN (dropL k (prs i0 a0 a1))=0/\true=true/\true=true)/\∀ (g:Nat->AV) (i:Nat),i<=n->(yLt (yInt i) (yInt n)=true->(yIn (yInt i) n=true->(yNlt (yNadd 0 (yNat (yInt i))) n=true->(yNot (yEq (a0 (yNadd 0 (yNat (yInt i)))) k)=true->(yIn (yInt i) n=true->(yNlt (yNadd 0 (yNat (yInt i))) n=true->(yNeq (rN (dropL k (prs i a0 a1))) (rN (dropL k (prs i a0 a1)))=true->(yGrow (yNadd (rN (dropL k (prs i a0 a1))) 1) 16=true->true=true/\∃ (i':Nat),i'<=n/\Nat.succ (mTo n i')<=mTo n i/\true=true/\rE (dropL k (prs i' a0 a1))=yAnd (rE (dropL k (prs i a0 a1))) (yNeq 1 0)/\0=0/\rN (dropL k (prs i' a0 a1))=yNadd (rN (dropL k (prs i a0 a1))) 1/\yInt i'=yWrap .i64 (yAdd (yInt i) 1)/\rN (dropL k (prs i' a0 a1))=yNadd (rN (dropL k (prs i a0 a1))) 1/\(∀ (i_1:Nat),Nat.succ i_1<=rN (dropL k (prs i' a0 a1))->rA (dropL k (prs i' a0 a1)) i_1=ySel (yNlt i_1 (rN (dropL k (prs i a0 a1)))) (rA (dropL k (prs i a0 a1)) i_1) (a0 (yNadd 0 (yNat (yInt i))))/\rB (dropL k (prs i' a0 a1)) i_1=ySel (yNlt i_1 (rN (dropL k (prs i a0 a1)))) (rB (dropL k (prs i a0 a1)) i_1) (a1 (yNadd 0 (yNat (yInt i))))/\True)/\true=true)/\(yGrow (yNadd (rN (dropL k (prs i a0 a1))) 1) 16=false->False))/\(yNeq (rN (dropL k (prs i a0 a1))) (rN (dropL k (prs i a0 a1)))=false->False))/\(yNlt (yNadd 0 (yNat (yInt i))) n=false->False))/\(yIn (yInt i) n=false->False))/\(yNot (yEq (a0 (yNadd 0 (yNat (yInt i)))) k)=false->true=true/\∃ (i':Nat),i'<=n/\Nat.succ (mTo n i')<=mTo n i/\true=true/\rE (dropL k (prs i' a0 a1))=rE (dropL k (prs i a0 a1))/\0=0/\rN (dropL k (prs i' a0 a1))=rN (dropL k (prs i a0 a1))/\yInt i'=yWrap .i64 (yAdd (yInt i) 1)/\rN (dropL k (prs i' a0 a1))=rN (dropL k (prs i a0 a1))/\(∀ (i_1:Nat),Nat.succ i_1<=rN (dropL k (prs i' a0 a1))->rA (dropL k (prs i' a0 a1)) i_1=rA (dropL k (prs i a0 a1)) i_1/\rB (dropL k (prs i' a0 a1)) i_1=rB (dropL k (prs i a0 a1)) i_1/\True)/\true=true))/\(yNlt (yNadd 0 (yNat (yInt i))) n=false->False))/\(yIn (yInt i) n=false->False))/\(yLt (yInt i) (yInt n)=false->rE (dropL k (prs n a0 a1))=rE (dropL k (prs i a0 a1))/\0=0/\rN (dropL k (prs n a0 a1))=rN (dropL k (prs i a0 a1))/\rN (dropL k (prs n a0 a1))=rN (dropL k (prs i a0 a1))/\(∀ (i_1:Nat),Nat.succ i_1<=rN (dropL k (prs n a0 a1))->rA (dropL k (prs n a0 a1)) i_1=rA (dropL k (prs i a0 a1)) i_1/\rB (dropL k (prs n a0 a1)) i_1=rB (dropL k (prs i a0 a1)) i_1/\True)/\true=true)):=by kernel_rfl
theorem dropL_len (k:Int)(l:List (Int × Int)):rN (dropL k l)<=l.length:=List.length_filter_le _ _
theorem goalDrop_ok:goalDrop:=by
 refine kernel_go goalDrop_eq ?_
 intro nilA n a0 a1 k hn
 simp only [vS,forall_const] at hn ⊢
 refine ⟨⟨0,Nat.zero_le _,rfl,rfl,rfl,rfl⟩,λ _ i hi=>⟨?_,λ hge=>?_⟩⟩
 . have hd:dropL k (prs (i + 1) a0 a1)=if a0 i=k then dropL k (prs i a0 a1) else dropL k (prs i a0 a1) ++ [(a0 i,a1 i)]:=by
    rw [prs_succ];unfold dropL;rw [List.filter_append];by_cases h:a0 i=k <;> simp [h]
   have hl:=dropL_len k (prs i a0 a1)
   rw [prs_len] at hl
   repeat' (first | apply And.intro | intro _)
   all_goals try omega
   all_goals refine ⟨i + 1,by omega,by unfold mTo;omega,?_⟩
   all_goals rw [hd,wrap64 (by omega) (by omega)]
   . rename_i hk _ _ _
     rw [if_neg hk,rE_snoc,rN_snoc,yAnd10]
     exact ⟨rfl,rfl,rfl,rfl,λ j hj=>⟨rA_snoc _ _ hj,rB_snoc _ _ hj⟩⟩
   . rename_i hk
     rw [if_pos hk]
     exact ⟨rfl,rfl,rfl,rfl,λ _ _=>⟨rfl,rfl⟩⟩
 . have:i=n:=by omega
   subst this
   exact ⟨rfl,rfl,rfl,λ _ _=>⟨rfl,rfl⟩⟩
theorem smDrop (hm:Try.prog.follows .mixedOrders=true):SmCall Try.prog 48 (λ args h=>(ctX [roP,.sc] ownP fDrop args h).sel):=
 ctX_ok hm noSm_ok (λ ds r post h=>by
  unfold fDrop at h
  split at h
  . simp only [sI,Prod.mk.injEq] at h
    obtain ⟨h1,rfl,rfl⟩:=h
    rename_i nA n a0 a1 k
    have h2:=goalDrop_ok
    unfold goalDrop at h2
    exact ⟨annDrop n a0 a1 k,1000,h2 nA n a0 a1 k h1⟩
  . cases h)
def withinStep (lo hi most:Int)(s:List (Int × Int))(x:Int × Int):List (Int × Int):=if lo<=x.1/\x.1<=hi/\(rN s:Int) < most then s ++ [x] else s
def withinO (lo hi most:Int)(l:List (Int × Int)):List (Int × Int):=l.foldl (withinStep lo hi most) []
def annWithin (n:Nat)(a0 a1:Nat->Int)(lo hi most:Int)(b:Nat):Option (St->LoopA):=
 match b with
 | 0=>some λ _=>{ ι:=Nat,tms:=[9,10],tmU:=λ i=>[slP 1 (withinO lo hi most (prs i a0 a1)),.y .i64 (yInt i)],ids:=[1],hpU:=λ i=>[arP (withinO lo hi most (prs i a0 a1))],del:=[],ex:=1,pre:=λ i=>i<=n,ms:=mTo n }
 | _=>none
def fWithin (ds:List Dx):Option (Bool × Dx × List (List Dx)):=
 match ds with
 | [.rows _ n [.int .u64 a0,.int .u64 a1],.v (.y .u64 lo),.v (.y .u64 hi),.v (.y .i64 most)]=>some (yNle n 1000000,rowsL (withinO lo hi most (prs n a0 a1)),[])
 | _=>none
def goalWithin:Prop:=∀ (nilA:Bool) (n:Nat) (a0 a1:Nat->Int) (lo hi most:Int),yNle n 1000000=true →
 wxP Try.prog noSm (annWithin n a0 a1 lo hi most) 45 [roP,.sc,.sc,.sc] [.rows nilA n (cols2 a0 a1),.v (.y .u64 lo),.v (.y .u64 hi),.v (.y .i64 most)] ownP (rowsL (withinO lo hi most (prs n a0 a1))) []
theorem goalWithin_eq:goalWithin=(∀ (nilA:Bool) (n:Nat) (a0 a1:Nat->Int) (lo hi most:Int),yNle n 1000000=true->true=true/\(∃ (i0:Nat),i0<=n/\true=true/\rE (withinO lo hi most (prs i0 a0 a1))=true/\rN (withinO lo hi most (prs i0 a0 a1))=0/\yInt i0=0/\rN (withinO lo hi most (prs i0 a0 a1))=0/\true=true/\true=true)/\∀ (g:Nat->AV) (i:Nat),i<=n->(yLt (yInt i) (yInt n)=true->(yIn (yInt i) n=true->(yNlt (yNadd 0 (yNat (yInt i))) n=true->(yLe lo (a0 (yNadd 0 (yNat (yInt i))))=true->(yIn (yInt i) n=true->(yNlt (yNadd 0 (yNat (yInt i))) n=true->(yLe (a0 (yNadd 0 (yNat (yInt i)))) hi=true->(yLt (yInt (rN (withinO lo hi most (prs i a0 a1)))) most=true->(yIn (yInt i) n=true->(yNlt (yNadd 0 (yNat (yInt i))) n=true->(yNeq (rN (withinO lo hi most (prs i a0 a1))) (rN (withinO lo hi most (prs i a0 a1)))=true->(yGrow (yNadd (rN (withinO lo hi most (prs i a0 a1))) 1) 16=true->true=true/\∃ (i':Nat),i'<=n/\Nat.succ (mTo n i')<=mTo n i/\true=true/\rE (withinO lo hi most (prs i' a0 a1))=yAnd (rE (withinO lo hi most (prs i a0 a1))) (yNeq 1 0)/\0=0/\rN (withinO lo hi most (prs i' a0 a1))=yNadd (rN (withinO lo hi most (prs i a0 a1))) 1/\yInt i'=yWrap .i64 (yAdd (yInt i) 1)/\rN (withinO lo hi most (prs i' a0 a1))=yNadd (rN (withinO lo hi most (prs i a0 a1))) 1/\(∀ (i_1:Nat),Nat.succ i_1<=rN (withinO lo hi most (prs i' a0 a1))->rA (withinO lo hi most (prs i' a0 a1)) i_1=ySel (yNlt i_1 (rN (withinO lo hi most (prs i a0 a1)))) (rA (withinO lo hi most (prs i a0 a1)) i_1) (a0 (yNadd 0 (yNat (yInt i))))/\rB (withinO lo hi most (prs i' a0 a1)) i_1=ySel (yNlt i_1 (rN (withinO lo hi most (prs i a0 a1)))) (rB (withinO lo hi most (prs i a0 a1)) i_1) (a1 (yNadd 0 (yNat (yInt i))))/\True)/\true=true)/\(yGrow (yNadd (rN (withinO lo hi most (prs i a0 a1))) 1) 16=false->False))/\(yNeq (rN (withinO lo hi most (prs i a0 a1))) (rN (withinO lo hi most (prs i a0 a1)))=false->False))/\(yNlt (yNadd 0 (yNat (yInt i))) n=false->False))/\(yIn (yInt i) n=false->False))/\(yLt (yInt (rN (withinO lo hi most (prs i a0 a1)))) most=false->true=true/\∃ (i':Nat),i'<=n/\Nat.succ (mTo n i')<=mTo n i/\true=true/\rE (withinO lo hi most (prs i' a0 a1))=rE (withinO lo hi most (prs i a0 a1))/\0=0/\rN (withinO lo hi most (prs i' a0 a1))=rN (withinO lo hi most (prs i a0 a1))/\yInt i'=yWrap .i64 (yAdd (yInt i) 1)/\rN (withinO lo hi most (prs i' a0 a1))=rN (withinO lo hi most (prs i a0 a1))/\(∀ (i_1:Nat),Nat.succ i_1<=rN (withinO lo hi most (prs i' a0 a1))->rA (withinO lo hi most (prs i' a0 a1)) i_1=rA (withinO lo hi most (prs i a0 a1)) i_1/\rB (withinO lo hi most (prs i' a0 a1)) i_1=rB (withinO lo hi most (prs i a0 a1)) i_1/\True)/\true=true))/\(yLe (a0 (yNadd 0 (yNat (yInt i)))) hi=false->true=true/\∃ (i':Nat),i'<=n/\Nat.succ (mTo n i')<=mTo n i/\true=true/\rE (withinO lo hi most (prs i' a0 a1))=rE (withinO lo hi most (prs i a0 a1))/\0=0/\rN (withinO lo hi most (prs i' a0 a1))=rN (withinO lo hi most (prs i a0 a1))/\yInt i'=yWrap .i64 (yAdd (yInt i) 1)/\rN (withinO lo hi most (prs i' a0 a1))=rN (withinO lo hi most (prs i a0 a1))/\(∀ (i_1:Nat),Nat.succ i_1<=rN (withinO lo hi most (prs i' a0 a1))->rA (withinO lo hi most (prs i' a0 a1)) i_1=rA (withinO lo hi most (prs i a0 a1)) i_1/\rB (withinO lo hi most (prs i' a0 a1)) i_1=rB (withinO lo hi most (prs i a0 a1)) i_1/\True)/\true=true))/\(yNlt (yNadd 0 (yNat (yInt i))) n=false->False))/\(yIn (yInt i) n=false->False))/\(yLe lo (a0 (yNadd 0 (yNat (yInt i))))=false->true=true/\∃ (i':Nat),i'<=n/\Nat.succ (mTo n i')<=mTo n i/\true=true/\rE (withinO lo hi most (prs i' a0 a1))=rE (withinO lo hi most (prs i a0 a1))/\0=0/\rN (withinO lo hi most (prs i' a0 a1))=rN (withinO lo hi most (prs i a0 a1))/\yInt i'=yWrap .i64 (yAdd (yInt i) 1)/\rN (withinO lo hi most (prs i' a0 a1))=rN (withinO lo hi most (prs i a0 a1))/\(∀ (i_1:Nat),Nat.succ i_1<=rN (withinO lo hi most (prs i' a0 a1))->rA (withinO lo hi most (prs i' a0 a1)) i_1=rA (withinO lo hi most (prs i a0 a1)) i_1/\rB (withinO lo hi most (prs i' a0 a1)) i_1=rB (withinO lo hi most (prs i a0 a1)) i_1/\True)/\true=true))/\(yNlt (yNadd 0 (yNat (yInt i))) n=false->False))/\(yIn (yInt i) n=false->False))/\(yLt (yInt i) (yInt n)=false->rE (withinO lo hi most (prs n a0 a1))=rE (withinO lo hi most (prs i a0 a1))/\0=0/\rN (withinO lo hi most (prs n a0 a1))=rN (withinO lo hi most (prs i a0 a1))/\rN (withinO lo hi most (prs n a0 a1))=rN (withinO lo hi most (prs i a0 a1))/\(∀ (i_1:Nat),Nat.succ i_1<=rN (withinO lo hi most (prs n a0 a1))->rA (withinO lo hi most (prs n a0 a1)) i_1=rA (withinO lo hi most (prs i a0 a1)) i_1/\rB (withinO lo hi most (prs n a0 a1)) i_1=rB (withinO lo hi most (prs i a0 a1)) i_1/\True)/\true=true)):=by kernel_rfl
theorem withinO_len (lo hi most:Int)(l:List (Int × Int)):rN (withinO lo hi most l)<=l.length:=by
 have:∀ (l:List (Int × Int)) (s:List (Int × Int)),(l.foldl (withinStep lo hi most) s).length<=s.length + l.length:=by
  intro l
  induction l with
  | nil=>intro s;simp
  | cons x l ih=>
    intro s
    have:=ih (withinStep lo hi most s x)
    have h2:(withinStep lo hi most s x).length<=s.length + 1:=by
     unfold withinStep
     split <;> simp
    simp only [List.foldl_cons,List.length_cons]
    omega
 simpa [rN,withinO] using this l []
theorem goalWithin_ok:goalWithin:=by
 refine kernel_go goalWithin_eq ?_
 intro nilA n a0 a1 lo hi most hn
 simp only [vS,forall_const] at hn ⊢
 refine ⟨⟨0,Nat.zero_le _,rfl,rfl,rfl,rfl⟩,λ _ i hi0=>⟨?_,λ hge=>?_⟩⟩
 . have hl:=withinO_len lo hi most (prs i a0 a1)
   rw [prs_len] at hl
   have hO:withinO lo hi most (prs (i + 1) a0 a1)=withinStep lo hi most (withinO lo hi most (prs i a0 a1)) (a0 i,a1 i):=by
    unfold withinO;rw [prs_succ,List.foldl_append];rfl
   generalize withinO lo hi most (prs i a0 a1)=O at *
   by_cases h1:lo<=a0 i <;> by_cases h2:a0 i<=hi <;> by_cases h3:(rN O:Int) < most
   all_goals simp only [withinStep,h1,h2,h3,and_true,and_false,false_and,if_true,if_false] at hO ⊢
   all_goals repeat' (first | apply And.intro | intro _)
   all_goals try omega
   all_goals try contradiction
   all_goals refine ⟨i + 1,by omega,by unfold mTo;omega,?_⟩
   all_goals rw [hO,wrap64 (by omega) (by omega)]
   all_goals simp only [rE_snoc,rN_snoc,yAnd10,true_and]
   all_goals refine ⟨rfl,?_⟩
   all_goals first | exact λ _ _=>trivial | exact λ j hj=>⟨rA_snoc _ _ hj,rB_snoc _ _ hj⟩
 . have:i=n:=by omega
   subst this
   exact ⟨rfl,rfl,rfl,λ _ _=>⟨rfl,rfl⟩⟩
theorem smWithin (hm:Try.prog.follows .mixedOrders=true):SmCall Try.prog 45 (λ args h=>(ctX [roP,.sc,.sc,.sc] ownP fWithin args h).sel):=
 ctX_ok hm noSm_ok (λ ds r post h=>by
  unfold fWithin at h
  split at h
  . simp only [sI,Prod.mk.injEq] at h
    obtain ⟨h1,rfl,rfl⟩:=h
    rename_i nA n a0 a1 lo hi most
    have h2:=goalWithin_ok
    unfold goalWithin at h2
    exact ⟨annWithin n a0 a1 lo hi most,1000,h2 nA n a0 a1 lo hi most h1⟩
  . cases h)
def atL (k:Int)(l:List (Int × Int)):Int:=match l.findIdx? (λ p=>p.1 == k) with | some i=>i | none=>-1
def atPre (n:Nat)(a0:Nat->Int)(k:Int)(i:Nat):Prop:=i<=n/\∀ j,j < i->a0 j ≠ k
def annAt (n:Nat)(a0:Nat->Int)(k:Int)(b:Nat):Option (St->LoopA):=
 match b with
 | 0=>some λ _=>{ ι:=Nat,tms:=[5],tmU:=λ i=>[.y .i64 (yInt i)],ids:=[],hpU:=λ _=>[],del:=[],ex:=0,pre:=atPre n a0 k,ms:=mTo n }
 | _=>none
def fAt (ds:List Dx):Option (Bool × Dx × List (List Dx)):=
 match ds with
 | [.rows _ n [.int .u64 a0,.int .u64 a1],.v (.y .u64 k)]=>some (yNle n 1000000,.v (.y .i64 (atL k (prs n a0 a1))),[])
 | _=>none
def goalAt:Prop:=∀ (nilA:Bool) (n:Nat) (a0 a1:Nat->Int) (k:Int),yNle n 1000000=true →
 wxP Try.prog noSm (annAt n a0 k) 46 [roP,.sc] [.rows nilA n (cols2 a0 a1),.v (.y .u64 k)] .sc (.v (.y .i64 (atL k (prs n a0 a1)))) []
theorem goalAt_eq:goalAt=(∀ (nilA:Bool) (n:Nat) (a0 a1:Nat->Int) (k:Int),yNle n 1000000=true->true=true/\(∃ (i0:Nat),atPre n a0 k i0/\true=true/\yInt i0=0/\true=true)/\∀ (g:Nat->AV) (i:Nat),atPre n a0 k i->(yLt (yInt i) (yInt n)=true->(yIn (yInt i) n=true->(yNlt (yNadd 0 (yNat (yInt i))) n=true->(yEq (a0 (yNadd 0 (yNat (yInt i)))) k=true->atL k (prs n a0 a1)=yInt i/\true=true)/\(yEq (a0 (yNadd 0 (yNat (yInt i)))) k=false->true=true/\∃ (i':Nat),atPre n a0 k i'/\Nat.succ (mTo n i')<=mTo n i/\true=true/\yInt i'=yWrap .i64 (yAdd (yInt i) 1)/\true=true))/\(yNlt (yNadd 0 (yNat (yInt i))) n=false->False))/\(yIn (yInt i) n=false->False))/\(yLt (yInt i) (yInt n)=false->atL k (prs n a0 a1)=-1/\true=true)):=by kernel_rfl
theorem atL_none {k:Int}{n:Nat}{a0 a1:Nat->Int}(h:∀ j,j < n->a0 j ≠ k):atL k (prs n a0 a1)=-1:=by
 unfold atL prs
 rw [List.findIdx?_eq_none_iff.2]
 intro x hx
 obtain ⟨j,hj,rfl⟩:=List.mem_map.1 hx
 simpa using h j (List.mem_range.1 hj)
theorem atL_some {k:Int}{n i:Nat}{a0 a1:Nat->Int}(h:∀ j,j < i->a0 j ≠ k)(hi:i < n)(hk:a0 i=k):atL k (prs n a0 a1)=i:=by
 unfold atL
 rw [List.findIdx?_eq_some_iff_getElem.2 (⟨by rw [prs_len];exact hi,by simp [prs,hk],λ j hj=>by simpa [prs] using h j hj⟩:∃ _:i < (prs n a0 a1).length,_)]
theorem goalAt_ok:goalAt:=by
 refine kernel_go goalAt_eq ?_
 intro nilA n a0 a1 k hn
 simp only [vS,forall_const] at hn ⊢
 refine ⟨⟨0,⟨Nat.zero_le _,λ j hj=>by omega⟩,rfl⟩,λ _ i hi=>⟨?_,λ hge=>?_⟩⟩
 . obtain ⟨hi1,hi2⟩:=hi
   repeat' (first | apply And.intro | intro _)
   all_goals try omega
   . rename_i hk;exact atL_some hi2 (by omega) hk
   . rename_i hk
     refine ⟨i + 1,⟨by omega,λ j hj=>?_⟩,by unfold mTo;omega,by rw [wrap64 (by omega) (by omega)];rfl⟩
     by_cases e:j=i
     . subst e;exact hk
     . exact hi2 j (by omega)
 . obtain ⟨hi1,hi2⟩:=hi
   have:i=n:=by omega
   subst this
   exact atL_none hi2
theorem smAt (hm:Try.prog.follows .mixedOrders=true):SmCall Try.prog 46 (λ args h=>(ctX [roP,.sc] .sc fAt args h).sel):=
 ctX_ok hm noSm_ok (λ ds r post h=>by
  unfold fAt at h
  split at h
  . simp only [sI,Prod.mk.injEq] at h
    obtain ⟨h1,rfl,rfl⟩:=h
    rename_i nA n a0 a1 k
    have h2:=goalAt_ok
    unfold goalAt at h2
    exact ⟨annAt n a0 k,1000,h2 nA n a0 a1 k h1⟩
  . cases h)
end Go.Proofs.Ytknfdbilpfblnaa.Ex
end
section
noncomputable section
namespace Go.Proofs.Ytknfdbilpfblnaa
open Go Go.RowKit
end Go.Proofs.Ytknfdbilpfblnaa
namespace Go.Proofs.Ytknfdbilpfblnaa.Ex
open Go Go.RowKit
theorem turn_ok {M:Mp}{h h1 h':AH}{w w':World}{id:Nat}{old ao:AO}{ob:Obj}{κ d:Nat}{S:Nat->Prop}(r:Rel M h w)(hg0:h.get id=some old)(hro0:old.ro=false)
 (hS:∀ k,S k->∃ κ0,M id=some (k,κ0)) (hp:h.put id none=some h1) (hn:h1.new ao=some h') (hM:M h1.nx=none) (ho:ObR (updM M h1.nx (d,κ)) κ ao ob) (hd:S d ∨ w.heap.size<=d) (hat:w'.heap[d]?=some ob)
 (hos:w'.os=w.os) (htp:w'.tape=w.tape) (hout:w'.output=w.output) (hsz:w.heap.size<=w'.heap.size) (hsame:∀ b,b < w.heap.size->¬ S b->w'.heap[b]?=w.heap[b]?) :
 Rel (updM M h1.nx (d,κ)) h' w'/\Fr h h' M (updM M h1.nx (d,κ)) w w'/\Ab h h':=by
 have hle:Le M (updM M h1.nx (d,κ)):=Le_updM hM
 obtain ⟨hnx1,_,_⟩:=AH.put_nx hp
 obtain ⟨hnx2,_,_⟩:=AH.new_nx hn
 have hg:∀ q,h'.get q=if q=h1.nx then some ao else if q=id then none else h.get q:=λ q=>by rw [AH.get_new hn,AH.get_put hp]
 have hidlt:id < h.nx:=r.wf id (by rw [hg0];simp)
 have hother:∀ q o,q ≠ h1.nx->updM M h1.nx (d,κ) q=some o->M q=some o:=λ q o hne e=>by simpa [updM,hne] using e
 have apart:∀ q b κ1,S b->h.get q ≠ none->q ≠ id->M q=some (b,κ1)->False:=λ q b κ1 hs hq hne e=>by
  obtain ⟨κ0,e0⟩:=hS b hs
  exact hne (r.inj id q b κ0 κ1 old hg0 hro0 hq e0 e).symm
 refine ⟨⟨λ q o e=>?_,λ i j b κ1 κ2 oi h0 hro h2 e1 e2=>?_,λ x hx=>?_,λ g c hgl=>?_,λ x b κ' o hx hro hM'=>?_,fz_kept (M:=M) r (λ b hb hz=>hsame b hb (λ hs=>?_)),λ i b κ' o e1 hro e2=>?_⟩,⟨hos,htp,hout,hsz,hle,λ q e=>?_,λ k hk hno=>hsame k hk (λ hs=>?_),λ q b κ' o' e1 e2=>?_,λ _ _ e=>.inl e⟩,(del_ab hp).trans (new_ab hn)⟩
 . rw [hg] at e
   split at e
   . rename_i hid
     simp only [sI] at e;subst e
     exact .inr ⟨d,κ,ob,by simp [updM,hid],hat,ho⟩
   . rename_i hid
     split at e
     . cases e
     . rename_i hne
       rcases r.obj q o e with ⟨hv,q1⟩ | ⟨b,κ',ob',q1,q2,q3⟩
       . exact .inl ⟨hv,by simpa [updM,hid] using q1⟩
       . exact .inr ⟨b,κ',ob',hle _ _ q1,by rw [hsame b (heap_lt q2) (λ hs=>apart q b κ' hs (by rw [e];simp) hne q1)];exact q2,ObR.mono hle _ _ q3⟩
 . have k1:h'.get i ≠ none:=by simp [h0]
   rw [hg] at h0 k1 h2
   by_cases hi:i=h1.nx <;> by_cases hj:j=h1.nx
   . omega
   . have e2':=hother j _ hj e2
     have hji:j ≠ id:=λ e=>h2 (by rw [if_neg hj,if_pos e])
     have hjg:h.get j ≠ none:=by simpa [hj,hji] using h2
     have hbd:d=b:=by simp [updM,hi] at e1;exact e1.1
     subst hbd
     rcases hd with hd | hd
     . exact (apart j d κ2 hd hjg hji e2').elim
     . have:=r.lt hjg e2';omega
   . have e1':=hother i _ hi e1
     have hii:i ≠ id:=λ e=>k1 (by rw [if_neg hi,if_pos e])
     have hig:h.get i ≠ none:=by simpa [hi,hii] using k1
     have hbd:d=b:=by simp [updM,hj] at e2;exact e2.1
     subst hbd
     rcases hd with hd | hd
     . exact (apart i d κ1 hd hig hii e1').elim
     . have:=r.lt hig e1';omega
   . have hii:i ≠ id:=λ e=>k1 (by rw [if_neg hi,if_pos e])
     have hji:j ≠ id:=λ e=>h2 (by rw [if_neg hj,if_pos e])
     exact r.inj i j b κ1 κ2 oi (by simpa [hi,hii] using h0) hro (by simpa [hj,hji] using h2) (hother i _ hi e1) (hother j _ hj e2)
 . rw [hg] at hx
   by_cases hid:x=h1.nx
   . omega
   . by_cases hxi:x=id
     . omega
     . have:=r.wf x (by simpa [hid,hxi] using hx);omega
 . obtain ⟨vs,e,fr,q1,q2⟩:=r.gw g c hgl
   exact ⟨vs,e,fr,by
    rw [hsame g (heap_lt q1) (λ hs=>by
     obtain ⟨κ0,e0⟩:=hS g hs
     rw [r.gf id g κ0 old hg0 hro0 e0] at hgl;cases hgl)]
    exact q1,q2⟩
 . rw [hg] at hx
   by_cases hid:x=h1.nx
   . have hbd:d=b:=by simp [updM,hid] at hM';exact hM'.1
     subst hbd
     rcases hd with hd | hd
     . obtain ⟨κ0,e0⟩:=hS d hd
       exact r.gf id d κ0 old hg0 hro0 e0
     . cases hgl:GL d with
       | none=>rfl
       | some c=>
         obtain ⟨vs,e,fr,q1,_⟩:=r.gw d c hgl
         have:=heap_lt q1;omega
   . by_cases hxi:x=id
     . rw [if_neg hid,if_pos hxi] at hx;cases hx
     . exact r.gf x b κ' o (by simpa [hid,hxi] using hx) hro (hother x _ hid hM')
 . obtain ⟨κ0,e0⟩:=hS b hs
   exact hz (r.fo id b κ0 old hg0 hro0 e0)
 . by_cases hid:i=h1.nx
   . have hbd:d=b:=by simp [updM,hid] at e2;exact e2.1
     subst hbd
     rcases hd with hd | hd
     . obtain ⟨κ0,e0⟩:=hS d hd
       exact r.fo id d κ0 old hg0 hro0 e0
     . exact r.fz_none hd
   . rw [hg] at e1
     by_cases hii:i=id
     . rw [if_neg hid,if_pos hii] at e1;cases e1
     . exact r.fo i b κ' o (by simpa [hid,hii] using e1) hro (hother i _ hid e2)
 . by_cases hid:q=h1.nx
   . omega
   . exact absurd (by simp [updM,hid]) e
 . obtain ⟨κ0,e0⟩:=hS k hs
   exact hno id κ0 old hg0 hro0 e0
 . rw [hg] at e1
   by_cases hid:q=h1.nx
   . have hbd:d=b:=by simp [updM,hid] at e2;exact e2.1
     subst hbd
     rcases hd with hd | hd
     . obtain ⟨κ0,e0⟩:=hS d hd
       exact .inr ⟨id,κ0,old,hg0,e0,λ _=>hro0⟩
     . exact .inl hd
   . by_cases hqi:q=id
     . rw [if_neg hid,if_pos hqi] at e1;cases e1
     . exact .inr ⟨q,κ',o',by simpa [hid,hqi] using e1,hother q _ hid e2,λ e=>e⟩
theorem enter_of {f:Nat}{fn:Func}(hf:Try.prog.funcs[f]?=some fn)(hok:okFn fn=true)(hb:fn.body.isSome=true)(us:Array Value)(w:World):(callFunc f us).run Try.prog w=.ok (.enter f us) w:=by
 have hnn : ¬ (fn.name = "runtime.NumGoroutine") := by simpa [okFn] using hok
 cases hbb:fn.body with
 | none=>rw [hbb] at hb;cases hb
 | some c=>simp [callFunc,hf,hnn,hbb]
theorem sel2 (p i:Nat)(a b:Int):ySel (yNlt p i) a b=if p < i then a else b:=by
 by_cases h:p < i <;> simp [ySel,yNlt,h]
abbrev sOpx:Sx:=.agg [.sc,.sc,.sc,.sc,.sc]
abbrev dOpx (kd x y hi mo:Int):Dx:=.l [.v (.y .i64 kd),.v (.y .u64 x),.v (.y .u64 y),.v (.y .u64 hi),.v (.y .i64 mo)]
theorem yN1 (i:Nat):yNeq (i + 1) 0=yAnd (yNeq i 0) (yNeq 1 0):=by rw [yAnd10];exact decide_eq_false (by omega)
structure MpS where
 nk:Bool
 nv:Bool
 n:Nat
 k:Nat->Int
 v:Nat->Int
instance:Inhabited MpS:=⟨⟨true,true,0,λ _=>0,λ _=>0⟩⟩
def cFl (E:EvS)(n g:Nat):Bool:=fullE (cOv (gEn E n g)) (eOk E (gEv E n g)) (cRk E (gEn E n g)) (cRv E (gEn E n g)) (cPn E (gEn E n g)) (cPk E (gEn E n g)) (cPv E (gEn E n g))
abbrev rPp:Sx:=.pl [.int .u64,.int .u64]
def Srt (n:Nat)(k:Nat->Int):Prop:=∀ i j,j < i->i < n->k j < k i
theorem Srt.lo {k:Nat->Int}{x:Int}:∀ {n:Nat},Srt n k->∃ lo,lo<=n/\(∀ j,j < lo->k j < x)/\∀ j,lo<=j->j < n->x<=k j
 | 0,_=>⟨0,Nat.le_refl _,λ j hj=>by omega,λ j _ hj=>by omega⟩
 | n + 1,h=>by
   obtain ⟨lo,h1,h2,h3⟩:=Srt.lo (x:=x) (n:=n) (λ i j a b=>h i j a (by omega))
   by_cases hlt:lo < n
   . refine ⟨lo,by omega,h2,λ j hj hjn=>?_⟩
     by_cases hj2:j < n
     . exact h3 j hj hj2
     . obtain rfl:j=n:=by omega
       have:=h3 lo (Nat.le_refl _) hlt
       have:=h j lo hlt (by omega)
       omega
   . obtain rfl:lo=n:=by omega
     by_cases hx:k lo < x
     . exact ⟨lo + 1,Nat.le_refl _,λ j hj=>by
        by_cases e:j=lo
        . subst e;exact hx
        . exact h2 j (by omega),λ j a b=>by omega⟩
     . refine ⟨lo,by omega,h2,λ j a b=>?_⟩
       have e:j=lo:=by omega
       rw [e];exact Int.not_lt.1 hx
theorem cPn_le {E:EvS}{n:Nat}(h:preE E n=true)(g:Nat):cPn E (gEn E n g)<=50:=by
 have h1:=gEn_le E n g
 have h2:=(of_decide_eq_true h).2
 unfold cPn
 cases hg:gEn E n g with
 | zero=>exact Nat.zero_le _
 | succ e=>exact h2 e (by omega)
def afL (kd x y:Int)(l:List (Int × Int)):List (Int × Int):=if kd=2 then putL x y l else if kd=3 then dropL x l else l
def lAt:List (Nat × Sm):=[(47,.ct (ctX [roP,.sc,.sc] ownP fPut)),(48,.ct (ctX [roP,.sc] ownP fDrop))]
abbrev sPp:Sx:=.pl [.int .u64,.int .u64]
def goalRaf:Prop:=∀ (nl:Bool) (n:Nat) (a0 a1:Nat->Int) (kd x y hi mo:Int),yNle n 1000000=true->yIff nl (yNeq n 0)=true →
 wxH Try.prog (smL lAt) (λ _=>none) 27 [sPp,sOpx] [.rows nl n (cols2 a0 a1),dOpx kd x y hi mo] rPp (rowsL (afL kd x y (prs n a0 a1))) []
theorem prs_back {n:Nat}{a b:Nat->Int}:rN (prs n a b)=n/\(∀ p,p < n->rA (prs n a b) p=a p/\rB (prs n a b) p=b p)/\rE (prs n a b)=yNeq n 0:=by
 refine ⟨prs_len n a b,λ p hp=>?_,?_⟩
 . unfold rA rB prs
   rw [List.getD_eq_getElem?_getD,List.getElem?_map,List.getElem?_range hp]
   exact ⟨rfl,rfl⟩
 . unfold rE
   have:=prs_len n a b
   cases h:prs n a b with
   | nil=>rw [h] at this;exact (decide_eq_true this.symm).symm
   | cons x l=>rw [h] at this;exact (decide_eq_false (by simp at this;omega)).symm
def goalRafV:Prop:=(∀ (nl:Bool) (n:Nat) (a0 a1:Nat->Int) (kd x y hi mo:Int),yNle n (nat_lit 1000000)=true->yIff nl (yNeq n 0)=true->(yEq kd (2:Int)=true->mst (yCol (CK.int .u64) n λ (i:Nat)=>AV.y .u64 (a0 i)) (mst (yCol (CK.int .u64) n λ (i:Nat)=>AV.y .u64 (a1 i)) (mst (yNle n 1000000) (rE (afL kd x y (prs n a0 a1))=rE (putL x y (prs n (λ (i:Nat)=>a0 i) λ (i:Nat)=>a1 i))/\rN (afL kd x y (prs n a0 a1))=rN (putL x y (prs n (λ (i:Nat)=>a0 i) λ (i:Nat)=>a1 i))/\yNadd 0 (rN (putL x y (prs n (λ (i:Nat)=>a0 i) λ (i:Nat)=>a1 i)))<=rN (putL x y (prs n (λ (i:Nat)=>a0 i) λ (i:Nat)=>a1 i))/\(∀ (i:Nat),Nat.succ i<=rN (afL kd x y (prs n a0 a1))->rA (afL kd x y (prs n a0 a1)) i=rA (putL x y (prs n (λ (i:Nat)=>a0 i) λ (i:Nat)=>a1 i)) (yNadd 0 i)/\rB (afL kd x y (prs n a0 a1)) i=rB (putL x y (prs n (λ (i:Nat)=>a0 i) λ (i:Nat)=>a1 i)) (yNadd 0 i)/\True)/\true=true))))/\(yEq kd (2:Int)=false->(yEq kd (3:Int)=true->mst (yCol (CK.int .u64) n λ (i:Nat)=>AV.y .u64 (a0 i)) (mst (yCol (CK.int .u64) n λ (i:Nat)=>AV.y .u64 (a1 i)) (mst (yNle n 1000000) (rE (afL kd x y (prs n a0 a1))=rE (dropL x (prs n (λ (i:Nat)=>a0 i) λ (i:Nat)=>a1 i))/\rN (afL kd x y (prs n a0 a1))=rN (dropL x (prs n (λ (i:Nat)=>a0 i) λ (i:Nat)=>a1 i))/\yNadd 0 (rN (dropL x (prs n (λ (i:Nat)=>a0 i) λ (i:Nat)=>a1 i)))<=rN (dropL x (prs n (λ (i:Nat)=>a0 i) λ (i:Nat)=>a1 i))/\(∀ (i:Nat),Nat.succ i<=rN (afL kd x y (prs n a0 a1))->rA (afL kd x y (prs n a0 a1)) i=rA (dropL x (prs n (λ (i:Nat)=>a0 i) λ (i:Nat)=>a1 i)) (yNadd 0 i)/\rB (afL kd x y (prs n a0 a1)) i=rB (dropL x (prs n (λ (i:Nat)=>a0 i) λ (i:Nat)=>a1 i)) (yNadd 0 i)/\True)/\true=true))))/\(yEq kd (3:Int)=false->(rE (afL kd x y (prs n a0 a1))=nl/\rN (afL kd x y (prs n a0 a1))=n/\∀ (i:Nat),Nat.succ i<=rN (afL kd x y (prs n a0 a1))->rA (afL kd x y (prs n a0 a1)) i=a0 i/\rB (afL kd x y (prs n a0 a1)) i=a1 i/\True)/\true=true)))
theorem goalRaf_eq:goalRaf=goalRafV:=by kernel_rfl
set_option maxHeartbeats 8000000 in
theorem goalRaf_vc:goalRafV:=by
 unfold goalRafV
 intro nl n a0 a1 kd x y hi mo hn hnl
 have c1:(yCol (CK.int .u64) n λ (i:Nat)=>AV.y .u64 (a0 i))=true:=yCol_int
 have c2:(yCol (CK.int .u64) n λ (i:Nat)=>AV.y .u64 (a1 i))=true:=yCol_int
 have z0:∀ q,yNadd 0 q=q:=Nat.zero_add
 simp only [z0]
 cases e2:yEq kd 2 with
 | true=>
   have k2:kd=2:=of_decide_eq_true e2
   have ha:afL kd x y (prs n a0 a1)=putL x y (prs n a0 a1):=if_pos k2
   refine fork_t rfl (mstI c1 (mstI c2 (mstI hn ?_)))
   rw [ha]
   repeat' (first | exact trivial | with_reducible rfl | exact Nat.le_refl _ | apply And.intro | intro _ | rfl)
 | false=>
   have k2:¬ kd=2:=of_decide_eq_false e2
   refine fork_f rfl ?_
   cases e3:yEq kd 3 with
   | true=>
     have k3:kd=3:=of_decide_eq_true e3
     have ha:afL kd x y (prs n a0 a1)=dropL x (prs n a0 a1):=(if_neg k2).trans (if_pos k3)
     refine fork_t rfl (mstI c1 (mstI c2 (mstI hn ?_)))
     rw [ha]
     repeat' (first | exact trivial | with_reducible rfl | exact Nat.le_refl _ | apply And.intro | intro _ | rfl)
   | false=>
     have k3:¬ kd=3:=of_decide_eq_false e3
     have ha:afL kd x y (prs n a0 a1)=prs n a0 a1:=(if_neg k2).trans (if_neg k3)
     obtain ⟨p1,p2,p3⟩:=prs_back (n:=n) (a:=a0) (b:=a1)
     have hnn:nl=yNeq n 0:=by
      revert hnl;cases nl <;> cases yNeq n 0 <;> decide
     refine fork_f rfl ?_
     rw [ha]
     refine ⟨⟨?_,p1,λ p hp=>?_⟩,?_⟩
     . rw [p3,hnn]
     . rw [p1] at hp
       exact ⟨(p2 p hp).1,(p2 p hp).2,trivial⟩
     . first | trivial | rfl
theorem goalRaf_tt:(goalRaf)=True:=goalRaf_eq.trans (eq_true goalRaf_vc)
theorem goalRaf_ok:goalRaf:=@ft' goalRaf goalRaf_tt
def fRaf (ds:List Dx):Option (Bool × Dx × List (List Dx)):=
 match ds with
 | [.rows nl n [.int .u64 a0,.int .u64 a1],.l [.v (.y .i64 kd),.v (.y .u64 x),.v (.y .u64 y),.v (.y .u64 _),.v (.y .i64 _)]]=>some (yAnd (yNle n 1000000) (yIff nl (yNeq n 0)),rowsL (afL kd x y (prs n a0 a1)),[])
 | _=>none
theorem smRaf (hm:Try.prog.follows .mixedOrders=true)(hs:SmOK Try.prog (smL lAt)):SmCall Try.prog 27 (λ args h=>(ctX [sPp,sOpx] rPp fRaf args h).sel):=
 ctX_ok hm hs (λ ds r post h=>by
  unfold fRaf at h
  split at h
  . rename_i nl n a0 a1 kd x y hi mo
    simp only [sI,Prod.mk.injEq] at h
    obtain ⟨h1,rfl,rfl⟩:=h
    obtain ⟨h1,h3⟩:=yAnd_t.mp h1
    have h2:=@goalRaf_ok
    unfold goalRaf at h2
    exact ⟨_,1000,@h2 nl n a0 a1 kd x y hi mo h1 h3⟩
  . cases h)
structure RcS where
 id:Nat->Int
 th:Nat->Int
 ok:Nat->Int
 key:Nat->Int
 val:Nat->Int
 hi:Nat->Int
 most:Nat->Int
 fr:Nat->Int
 to_:Nat->Int
 ov:Nat->Bool
 rk:Nat->Int
 rv:Nat->Int
 nl:Nat->Bool
 pn:Nat->Nat
 pk:Nat->Nat->Int
 pv:Nat->Nat->Int
instance:Inhabited RcS:=⟨⟨λ _=>0,λ _=>0,λ _=>0,λ _=>0,λ _=>0,λ _=>0,λ _=>0,λ _=>0,λ _=>0,λ _=>false,λ _=>0,λ _=>0,λ _=>true,λ _=>0,λ _ _=>0,λ _ _=>0⟩⟩
def fxI (n:Nat)(p:Nat->Bool):Int:=match (List.range n).find? p with | some i=>i | none=>-1
def pvB (k v:Nat->Int)(a b:Int)(p:Nat):Bool:=decide (k p=a/\v p=b)
def keB (k:Nat->Int)(a:Int)(p:Nat):Bool:=decide (k p=a)
def prFx (n:Nat)(p:Nat->Bool)(i:Nat):Prop:=i<=n/\∀ j,j < i->p j=false
def mFx (n i:Nat):Nat:=n - i
def annFx (t n:Nat)(p:Nat->Bool)(b:Nat):Option (St->LoopA):=
 match b with
 | 0=>some λ _=>{ ι:=Nat,tms:=[t],tmU:=λ i=>[.y .i64 (yInt i)],ids:=[],hpU:=λ _=>[],del:=[],ex:=0,pre:=prFx n p,ms:=mFx n }
 | _=>none
structure TtS where
 fr:Nat->Int
 nl:Nat->Bool
 n:Nat->Nat
 k:Nat->Nat->Int
 v:Nat->Nat->Int
instance:Inhabited TtS:=⟨⟨λ _=>0,λ _=>true,λ _=>0,λ _ _=>0,λ _ _=>0⟩⟩
def zN (T:TtS)(i:Nat):Nat:=T.n i
def zK (T:TtS)(i p:Nat):Int:=T.k i p
def zV (T:TtS)(i p:Nat):Int:=T.v i p
def stB (T:TtS)(a b:Int)(q:Nat):Bool:=yLe 0 (fxI (zN T q) (pvB (zK T q) (zV T q) a b))
theorem fx_hit {n:Nat}{p:Nat->Bool}{i:Nat}(h:prFx n p i)(hl:i < n)(hp:p i=true):fxI n p=(i:Int):=by
 unfold fxI;rw [find_range h.2 hp n hl]
theorem fx_none {n:Nat}{p:Nat->Bool}{i:Nat}(h:prFx n p i)(hl:n<=i):fxI n p=-1:=by
 unfold fxI;rw [find_none (λ j hj=>h.2 j (by omega))]
theorem fx_next {n:Nat}{p:Nat->Bool}{i:Nat}(hn:n<=1000000)(h:prFx n p i)(hl:i < n)(hp:p i=false):prFx n p (i + 1)/\Nat.succ (mFx n (i + 1))<=mFx n i/\yInt (i + 1)=yWrap .i64 (yAdd (yInt i) 1):=
 ⟨⟨hl,λ j hj=>by
   rcases Nat.lt_succ_iff_lt_or_eq.1 hj with h1 | rfl
   . exact h.2 j h1
   . exact hp⟩,by unfold mFx;omega,by
   show ((i + 1:Nat):Int)=yWrap .i64 ((i:Int) + 1)
   rw [wrap64 (by omega) (by omega)];omega⟩
theorem fx_0 (n:Nat)(p:Nat->Bool):prFx n p 0:=⟨Nat.zero_le _,λ j hj=>absurd hj (Nat.not_lt_zero _)⟩
theorem yLtN {i n:Nat}(h:yLt (yInt i) (yInt n)=true):i < n:=by have:(i:Int) < (n:Int):=yLt_t.mp h;omega
theorem yLtF {i n:Nat}(h:yLt (yInt i) (yInt n)=false):n<=i:=by have:(n:Int)<=(i:Int):=yLt_f.mp h;omega
theorem yInN {i n:Nat}(h:i < n):yIn (yInt i) n=true:=yIn_t.mpr ⟨Int.natCast_nonneg _,by show (i:Int) < n;omega⟩
end Go.Proofs.Ytknfdbilpfblnaa.Ex
end
