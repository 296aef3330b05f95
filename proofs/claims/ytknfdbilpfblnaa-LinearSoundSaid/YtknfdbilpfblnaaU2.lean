/- The texts ExJ, ExK, ExY, ExZ, ExU, ExV, ExW, ExX: The abstract machine: what its operations compute is what the machine's compute (6): append, copy, clear, len. The abstract machine: one operation. The abstract machine: what its operations compute .. -/
import Derived.Deep.Upon
import Derived.Laws.BytesString
import Derived.Test.YtknfdbilpfblnaaU1
set_option linter.all false
set_option maxRecDepth 100000
section
noncomputable section
namespace Go.Proofs.Ytknfdbilpfblnaa.Ex
open Go
section
variable {P : Program} {M : Mp}
theorem srcA_ok {h:AH}{w:World}{z n:Nat}{x:AV}{X:Value}{new:List AV}{tx:TypeId}(hs:srcA h z x=some (n,new))(rx:x.R M X)(r:Rel M h w)(hc:allCell new=true):
 ∃ us,AV.RL M new us/\us.length=n * z/\(∀ w':World,(Builtin.lenOf X).run P w'=.ok n w')/\(srcOk (P.underlying tx)=true->Src P z tx X n us w) ∧
   (∀ k,k<=n->(Builtin.firstCells z k X).run P w=.ok (us.take (k * z)).toArray w):=by
 unfold srcA at hs
 have kind:srcOk (P.underlying tx)=true->(∃ e',P.underlying tx=some (.slice e')) ∨ P.underlying tx=some .string:=λ hk=>by
  unfold srcOk at hk
  split at hk
  . rename_i e hu;exact .inl ⟨e,hu⟩
  . rename_i hu;exact .inr hu
  . cases hk
 split at hs
 . simp only [sI,Prod.mk.injEq] at hs
   obtain ⟨rfl,rfl⟩:=hs
   simp only [AV.R] at rx;subst rx
   exact ⟨[],rfl,by simp,λ _=>rfl,λ hk=>⟨kind hk,λ _=>rfl,run_firstCells_none w z 0 0 0,run_firstCells_none w.drew z 0 0 0,by simp,λ _ hh=>by cases hh⟩,λ k hk=>by simp [Builtin.firstCells]⟩
 . simp only [sI,Prod.mk.injEq] at hs
   obtain ⟨rfl,rfl⟩:=hs
   simp only [AV.R] at rx
   obtain ⟨a,c,rfl⟩:=rx
   refine ⟨[],rfl,by simp,λ _=>rfl,λ hk=>⟨kind hk,λ _=>rfl,?_,?_,by simp,λ _ hh=>by cases hh⟩,λ k hk=>?_⟩
   . exact run_firstCells_some w z 0 a 0 c [] (by simp) (by simp)
   . exact run_firstCells_some w.drew z 0 a 0 c [] (by simp) (by simp)
   . obtain rfl:k=0:=by omega
     simpa using run_firstCells_some (P:=P) w z 0 a 0 c [] (by simp) (by simp)
 . rename_i id off n' cap u
   simp only [AV.R] at rx
   obtain ⟨b,κ,hM,rfl⟩:=rx
   split at hs
   . rename_i c e g hg
     split at hs
     . rename_i l hl
       simp only [sI,Prod.mk.injEq] at hs
       obtain ⟨rfl,rfl⟩:=hs
       obtain ⟨ob,hb,ho⟩:=Ob_of r hg hM
       obtain ⟨us,h1,h2,h3,h4⟩:=cells_ok (P:=P) hb ho.row hl
       have h5:∀ j v,us[j]?=some v->w.cell? ((⟨b,off,none⟩:Addr).add j)=some v:=λ j v hj=>by rw [addr_add];exact h4 j v hj
       refine ⟨us,h2,h3,λ _=>rfl,λ hk=>⟨kind hk,λ _=>rfl,run_firstCells_some w z n' ⟨b,off,none⟩ n' _ us h3 h5,run_firstCells_some w.drew z n' ⟨b,off,none⟩ n' _ us h3 (by simpa using h5),h3,allCell_one h2 hc⟩,λ k hk=>?_⟩
       refine run_firstCells_some w z k ⟨b,off,none⟩ n' _ (us.take (k * z)) ?_ (λ j v hj=>h5 j v ?_)
       . have:k * z<=n' * z:=Nat.mul_le_mul_right z hk
         simp;omega
       . rw [List.getElem?_take] at hj
         split at hj
         . exact hj
         . cases hj
     . cases hs
   . cases hs
 . rename_i l
   simp only [nbeq,Bool.cond_decide] at hs
   split at hs
   . rename_i hz1
     subst hz1
     simp only [sI,Prod.mk.injEq] at hs
     obtain ⟨rfl,rfl⟩:=hs
     simp only [AV.R] at rx;subst rx
     have hsz:(⟨l.toArray⟩:ByteArray).size=l.length:=by simp [ByteArray.size]
     have hbc:byteCells ⟨l.toArray⟩=l.map λ c=>Value.int .u8 c.toNat:=by simp [byteCells]
     have hrl:AV.RL M (l.map λ c=>AV.i .u8 (.ofNat c.toNat)) (l.map λ c=>Value.int .u8 c.toNat):=by
      clear hc hsz hbc kind
      induction l with
      | nil=>rfl
      | cons c l ih=>simp only [List.map_cons,AV.RL];exact ⟨_,_,rfl,ih,rfl⟩
     refine ⟨l.map λ c=>Value.int .u8 c.toNat,hrl,by simp,λ _=>by simp [Builtin.lenOf,hsz],λ hk=>⟨kind hk,λ _=>by simp [Builtin.lenOf,hsz],?_,?_,by simp,allCell_one hrl hc⟩,λ k hk=>?_⟩
     . rw [<- hbc,<- hsz];exact firstCells_string _ w
     . rw [<- hbc,<- hsz];exact firstCells_string _ w.drew
     . simp only [Builtin.firstCells,Sem.run_pure,Nat.mul_one]
       congr 1
       apply Array.ext'
       simp [ByteArray.data_extract]
   . cases hs
 . cases hs
theorem need_le_grown (w:World)(need old:Nat)(e:TypeId):need<=grownCap w need old e:=by
 unfold grownCap Question.cut
 simp
theorem grow_len {olds:List Value}{z:Array Value}{need gc size:Nat}(h1:olds.length=need * size)(h2:z.size=size)(h3:need<=gc):(olds ++ (Builtin.zeroCells z (gc - need)).toList).length=gc * size:=by
 have:=size_zeroCells z (gc - need)
 have e:(Builtin.zeroCells z (gc - need)).toList.length=(gc - need) * size:=by simp [this,h2]
 rw [List.length_append,e,h1,<- Nat.add_mul]
 congr 1;omega
theorem re_ok {h h1 h':AH}{w w':World}{id b κ:Nat}{old ao:AO}{ob:Obj}(r:Rel M h w)(hg:h.get id=some old)(hM:M id=some (b,κ))(hd:h.put id none=some h1)(hn:h1.new ao=some h')
 (hF:M h.nx=none) (u:Upd w w' b ob) (ho:ObR M κ ao ob) (hro:old.ro=false:=by rfl):Rel (updM M h.nx (b,κ)) h' w'/\Fr h h' M (updM M h.nx (b,κ)) w w'/\Ab h h':=by
 have hgp:=AH.get_put hd
 obtain ⟨hnx1,hbs1,hwl1⟩:=AH.put_nx hd
 have hgn:=AH.get_new hn
 obtain ⟨hnx2,hbs2,hwl2⟩:=AH.new_nx hn
 have hab:=(del_ok r hd).2.2
 have hle:Le M (updM M h.nx (b,κ)):=Le_updM hF
 rw [hnx1] at hgn hnx2
 have hidn:id ≠ h.nx:=λ e=>by rw [e,hF] at hM;cases hM
 have hget:∀ x,h'.get x=if x=h.nx then some ao else if x=id then none else h.get x:=λ x=>by rw [hgn];split;rfl;rw [hgp]
 have hother:∀ x o,x ≠ h.nx->updM M h.nx (b,κ) x=some o->M x=some o:=λ x o hne e=>by simpa [updM,hne] using e
 have hgid:h.get id ≠ none:=by simp [hg]
 refine ⟨⟨λ x o e=>?_,λ i j c κ1 κ2 oi h1 hr h2 e1 e2=>?_,λ x hx=>?_,λ g c hgl=>?_,λ x c κ' o e1 hr e2=>?_,fz_kept (M:=M) r (λ c hc hz=>u.other c (λ ec=>hz (by rw [ec];exact r.fo id b κ old hg hro hM))),λ x c κ' o e1 hr e2=>?_⟩,⟨u.os,u.tape,u.output,Nat.le_of_eq u.size.symm,hle,λ x e=>?_,λ k hk hn=>u.other k (λ e=>hn id κ old hg hro (by rw [e];exact hM)),λ x c κ' o' e1 e2=>?_,λ _ _ e=>.inl e⟩,?_⟩
 . rw [hget] at e
   split at e
   . rename_i hx
     simp only [sI] at e;subst e
     exact .inr ⟨b,κ,ob,by simp [updM,hx],u.at_,ObR.mono hle _ _ ho⟩
   . split at e
     . cases e
     . rename_i hx hxi
       rcases r.obj x o e with ⟨hv,q1⟩ | ⟨c,κ',ob',q1,q2,q3⟩
       . exact .inl ⟨hv,by simpa [updM,hx] using q1⟩
       refine .inr ⟨c,κ',ob',hle _ _ q1,?_,ObR.mono hle _ _ q3⟩
       rw [u.other c (λ ec=>hxi (r.inj id x b κ κ' old hg hro (by simp [e]) hM (by rw [<- ec];exact q1)).symm)]
       exact q2
 . rw [hget] at h1 h2
   by_cases hi:i=h.nx <;> by_cases hj:j=h.nx
   . omega
   . simp only [hj,if_false] at h2
     by_cases hji:j=id
     . simp [hji] at h2
     . simp only [hji,if_false] at h2
       have e2':=hother j _ hj e2
       simp [updM,hi] at e1
       obtain ⟨rfl,rfl⟩:=e1
       exact absurd (r.inj id j b κ κ2 old hg hro h2 hM e2').symm hji
   . simp only [hi,if_false] at h1
     by_cases hii:i=id
     . simp [hii] at h1
     . simp only [hii,if_false] at h1
       have e1':=hother i _ hi e1
       simp [updM,hj] at e2
       obtain ⟨rfl,rfl⟩:=e2
       exact absurd (r.inj id i b κ κ1 old hg hro (by simp [h1]) hM e1').symm hii
   . simp only [hi,if_false] at h1
     simp only [hj,if_false] at h2
     by_cases hii:i=id
     . simp [hii] at h1
     . by_cases hji:j=id
       . simp [hji] at h2
       . simp only [hii,if_false] at h1
         simp only [hji,if_false] at h2
         exact r.inj i j c κ1 κ2 oi h1 hr h2 (hother i _ hi e1) (hother j _ hj e2)
 . rw [hget] at hx
   by_cases hxn:x=h.nx
   . omega
   . simp only [hxn,if_false] at hx
     split at hx
     . exact absurd rfl hx
     . have:=r.wf x hx;omega
 . obtain ⟨vs,e,fr,q1,q2⟩:=r.gw g c hgl
   have hgb:g ≠ b:=λ e2=>by
    have:=r.gf id b κ old hg hro hM
    rw [<- e2,hgl] at this;cases this
   exact ⟨vs,e,fr,by rw [u.other g hgb];exact q1,q2⟩
 . rw [hget] at e1
   by_cases hxn:x=h.nx
   . simp [updM,hxn] at e2
     rw [<- e2.1]
     exact r.gf id b κ old hg hro hM
   . simp only [hxn,if_false] at e1
     split at e1
     . cases e1
     . exact r.gf x c κ' o e1 hr (hother x _ hxn e2)
 . rw [hget] at e1
   by_cases hxn:x=h.nx
   . simp [updM,hxn] at e2
     rw [<- e2.1]
     exact r.fo id b κ old hg hro hM
   . simp only [hxn,if_false] at e1
     split at e1
     . cases e1
     . exact r.fo x c κ' o e1 hr (hother x _ hxn e2)
 . by_cases hx:x=h.nx
   . omega
   . exact absurd (by simp [updM,hx]) e
 . right
   by_cases hx:x=h.nx
   . simp [updM,hx] at e2
     obtain ⟨rfl,rfl⟩:=e2
     exact ⟨id,κ,old,hg,hM,λ _=>hro⟩
   . refine ⟨x,κ',o',?_,hother x _ hx e2,λ e=>e⟩
     rw [hget] at e1
     simp only [hx,if_false] at e1
     split at e1
     . cases e1
     . exact e1
 . refine hab.trans ⟨by omega,hbs2,λ x hx=>by rw [hwl2];exact hx,λ x hx hy hn=>?_,λ x hx=>?_⟩
   . rw [hgn]
     have:x ≠ h.nx:=by omega
     simp [this]
   . rw [hgn] at hx
     by_cases hxn:x=h.nx
     . right;omega
     . left;simpa [hxn] using hx
theorem grow_ok {h h':AH}{w:World}{t tx ty e:TypeId}{i:TypeInfo}{z:Value}{base:Option Addr}{len cap n:Nat}{old new:List AV}{olds us:List Value}{X:Value}
 (hu:P.underlying t=some (.slice e)) (hi:P.info? e=some i) (hz:i.zero=some z) (hzs:z.cells.size=i.size) (ro:AV.RL M old olds) (rn:AV.RL M new us)
 (hol:olds.length=len * i.size) (hold:(Builtin.firstCells i.size len (.slice base len cap)).run P w.drew=.ok olds.toArray w.drew) (hs:Src P i.size tx X n us w) (hcap:cap < len + n)
 (hg:growOk (len + n) i.bytes=true) (hb:0 < i.bytes) (r:Rel M h w) (fr:M h.nx=none) (hn:h.new (.cells (old ++ new) e (some i.size))=some h') :
 Got P h h' M w (.sl h.nx 0 (len + n) 0 true) (Builtin.append_ #[t,tx] ty #[.slice base len cap,X]):=by
 have hbd:4 * (len + n) * i.bytes<=140737488355328:=by simpa [growOk,nble] using hg
 have hbd2:4 * (len + n) * 1<=4 * (len + n) * i.bytes:=Nat.mul_le_mul_left _ hb
 have hns:=nextslicecap_le hcap
 have hfit:Builtin.nextslicecap (len + n) cap * i.bytes<=281474976710656:=by
  have h1:=Nat.mul_le_mul_right i.bytes hns
  have h2:4 * (len + n) * i.bytes=2 * (2 * (len + n) * i.bytes):=by rw [<- Nat.mul_assoc];congr 1;omega
  omega
 have hrun:=run_append_grow_src (P:=P) w t tx ty e i z hu hi hz base len cap olds hold X n us hs hcap (by omega) hfit
 have hgc:=need_le_grown w (len + n) cap e
 have hnl:=hs.newsLen
 have ho:ObR M (grownCap w (len + n) cap e) (.cells (old ++ new) e (some i.size)) (.cells ((olds ++ us).toArray ++ Builtin.zeroCells z.cells (grownCap w (len + n) cap e - (len + n))) e (0,0)):=by
  refine ⟨olds ++ us,(Builtin.zeroCells z.cells (grownCap w (len + n) cap e - (len + n))).toList,RL_append ro rn,?_,?_⟩
  . congr 1;apply Array.ext';simp
  . exact grow_len (by rw [List.length_append,hol,hnl,Nat.add_mul]) hzs hgc
 have rd:Rel M h w.drew:=r.same rfl
 obtain ⟨q1,q2,q3⟩:=new_ok rd hn fr ho
 refine ⟨_,_,_,hrun,?_,q1,q2.drew,q3⟩
 simp only [AV.R]
 exact ⟨_,_,by simp [updM];exact ⟨rfl,rfl⟩,by simp⟩
theorem Got.after {h h1 h':AH}{w:World}{v:AV}{s:Sem Value}(k:Fr h h1 M M w w)(ka:Ab h h1)(g:Got P h1 h' M w v s):Got P h h' M w v s:=by
 obtain ⟨M',u,w',e,rv,r,f,a⟩:=g
 exact ⟨M',u,w',e,rv,r,k.trans ka.nx a.nx f,ka.trans a⟩
theorem append_ok {h h':AH}{w:World}{t tx ty:TypeId}{s x v:AV}{S X:Value}(ha:appendA P h t (some tx) s x=some (v,h'))(rs:s.R M S)(rx:x.R M X)(r:Rel M h w)(fr:Fresh M h h'):
 Got P h h' M w v (Builtin.append_ #[t,tx] ty #[S,X]):=by
 unfold appendA at ha
 split at ha
 . rename_i e hu
   split at ha
   . rename_i i za hi hza
     obtain ⟨z,hzr,rz,i',hi',hzz⟩:=zeroT_ok (M:=M) hza
     rw [hi] at hi'
     simp only [sI] at hi';subst hi'
     cases hcond:(srcOk ((some tx).bind P.underlying) && Nat.beq (cellsA za).length i.size && Nat.blt 0 i.bytes && Nat.blt 0 i.size) with
     | false=>rw [hcond] at ha;cases ha
     | true=>
       rw [hcond,cond_true] at ha
       simp only [Option.bind_some,Bool.and_eq_true,nbeq,nblt,decide_eq_true_eq] at hcond
       obtain ⟨⟨⟨hk,hzl⟩,hby⟩,hsz⟩:=hcond
       have hzs:z.cells.size=i.size:=by have:=RL_length (cellsA_R rz);simp at this;omega
       split at ha
       . rename_i n new hsrc
         cases hc:allCell new with
         | false=>rw [hc] at ha;cases ha
         | true=>
           rw [hc,cond_true] at ha
           obtain ⟨us,rn,hul,hlen,hS,_⟩:=srcA_ok (P:=P) (tx:=tx) hsrc rx r hc
           have hS:=hS hk
           split at ha
           . -- nil
             simp only [AV.R] at rs;subst rs
             simp only [nbeq,Bool.cond_decide] at ha
             split at ha
             . rename_i h0;subst h0
               simp only [sI,Prod.mk.injEq] at ha
               obtain ⟨rfl,rfl⟩:=ha
               have:us=[]:=List.length_eq_zero_iff.1 (by rw [hul];simp)
               subst this
               exact Got.pure r (run_append_nothing w t tx ty e i hu hi none 0 0 (Nat.le_refl _) X hS) rfl
             . rename_i h0
               cases hg:growOk n i.bytes with
               | false=>rw [hg] at ha;cases ha
               | true=>
                 rw [hg,cond_true] at ha
                 unfold newA at ha
                 split at ha
                 . rename_i h2 hn
                   simp only [sI,Prod.mk.injEq] at ha
                   obtain ⟨rfl,rfl⟩:=ha
                   have:=grow_ok (P:=P) (w:=w) (ty:=ty) (len:=0) (cap:=0) (base:=none) (old:=[]) (olds:=[]) hu hi hzz hzs rfl rn (by simp) (run_firstCells_none w.drew i.size 0 0 0) hS (by omega) (by simpa using hg) hby r (fr h.nx (Nat.le_refl _) (by have:=(AH.new_nx hn).1;omega)) (by simpa using hn)
                   simpa using this
                 . cases ha
           . -- a slice
             rename_i id off len cap u
             have rs0:=rs
             simp only [AV.R] at rs
             obtain ⟨b,κ,hM,rfl⟩:=rs
             cases hc0:(Nat.beq n 0 && Nat.ble len cap && !u) with
             | true=>
               rw [hc0,cond_true] at ha
               simp only [Bool.and_eq_true,nbeq,nble,decide_eq_true_eq,Bool.not_eq_true'] at hc0
               obtain ⟨⟨rfl,hlc⟩,rfl⟩:=hc0
               simp only [sI,Prod.mk.injEq] at ha
               obtain ⟨rfl,rfl⟩:=ha
               have:us=[]:=List.length_eq_zero_iff.1 (by rw [hul];simp)
               subst this
               exact Got.pure r (run_append_nothing w t tx ty e i hu hi _ len cap hlc X hS) rs0
             | false=>
               rw [hc0,cond_false] at ha
               clear hc0
               split at ha
               . rename_i c e' g hg
                 split at ha
                 . -- the capacity is known
                   simp only [nble,Bool.cond_decide] at ha
                   split at ha
                   . rename_i hroom
                     split at ha
                     . rename_i c' hsp
                       split at ha
                       . rename_i h2 hp
                         simp only [sI,Prod.mk.injEq] at ha
                         obtain ⟨rfl,rfl⟩:=ha
                         obtain ⟨b',κ',w',hM',hst,q1,q2,q3⟩:=splice_ok (P:=P) r hg hsp hp rn hS.one
                         rw [hM] at hM'
                         simp only [sI,Prod.mk.injEq] at hM'
                         obtain ⟨rfl,rfl⟩:=hM'
                         refine ⟨M,.slice (some ⟨b,off,none⟩) (len + n) cap,w',?_,by simp only [AV.R];exact ⟨b,κ,hM,rfl⟩,q1,q2,q3⟩
                         rcases hS.kind with ⟨e2,hk2⟩ | hk2 <;> simp [Builtin.append_,run_underlying hu,run_underlying hk2,sizeOf,typeInfo,hi,hlen,hroom,hS.cells,addr_add,hst]
                       . cases ha
                     . cases ha
                   . rename_i hroom
                     cases hgo:growOk (len + n) i.bytes with
                     | false=>rw [hgo] at ha;cases ha
                     | true=>
                       rw [hgo,cond_true] at ha
                       split at ha
                       . rename_i old hso
                         unfold newA at ha
                         split at ha
                         . rename_i h2 hn
                           simp only [sI,Prod.mk.injEq] at ha
                           obtain ⟨rfl,rfl⟩:=ha
                           obtain ⟨ob,hb,ho⟩:=Ob_of r hg hM
                           obtain ⟨olds,h1,h2',h3,_⟩:=cells_ok (P:=P) hb ho.row hso
                           exact grow_ok (P:=P) (w:=w) (ty:=ty) hu hi hzz hzs h2' rn h3 (by simpa [Builtin.firstCells] using h1 w.drew rfl) hS (by simp;omega) hgo hby r (fr h.nx (Nat.le_refl _) (by have:=(AH.new_nx hn).1;omega)) hn
                         . cases ha
                       . cases ha
                 . -- it is not
                   split at ha
                   . cases ha
                   . rename_i z'
                     simp only [nbeq,nble,Bool.cond_decide,<- Bool.decide_and] at ha
                     split at ha
                     . rename_i hzz';subst hzz'
                       obtain ⟨ob,hb,vs,rest,rl,rfl,hκ⟩:=Ob_of r hg hM
                       simp only at hκ
                       have hcl:=RL_length rl
                       have hcκ:c.length<=κ * i.size:=by rw [<- hκ,<- hcl];simp
                       split at ha
                       . rename_i hroom
                         have hrk:cap + len + n<=κ:=Nat.le_of_mul_le_mul_right (Nat.le_trans hroom hcκ) hsz
                         split at ha
                         . rename_i c' hsp
                           split at ha
                           . rename_i h2 hp
                             simp only [sI,Prod.mk.injEq] at ha
                             obtain ⟨rfl,rfl⟩:=ha
                             obtain ⟨b',κ',w',hM',hst,q1,q2,q3⟩:=splice_ok (P:=P) r hg hsp hp rn hS.one
                             rw [hM] at hM'
                             simp only [sI,Prod.mk.injEq] at hM'
                             obtain ⟨rfl,rfl⟩:=hM'
                             refine ⟨M,.slice (some ⟨b,off,none⟩) (len + n) (κ - cap),w',?_,by simp only [AV.R];exact ⟨b,κ,hM,rfl⟩,q1,q2,q3⟩
                             have hroom':len + n<=κ - cap:=by omega
                             rcases hS.kind with ⟨e2,hk2⟩ | hk2 <;> simp [Builtin.append_,run_underlying hu,run_underlying hk2,sizeOf,typeInfo,hi,hlen,hroom',hS.cells,addr_add,hst]
                           . cases ha
                         . cases ha
                       . cases hcd:(decide (off=0/\cap=0) && decide (c.length=len * i.size) && decide (e=e') && growOk (len + n) i.bytes) with
                         | false=>
                           have:(decide (((off=0/\cap=0)/\c.length=len * i.size)/\e=e') && growOk (len + n) i.bytes)=false:=by simpa [Bool.decide_and] using hcd
                           rw [this] at ha;cases ha
                         | true=>
                           have:(decide (((off=0/\cap=0)/\c.length=len * i.size)/\e=e') && growOk (len + n) i.bytes)=true:=by simpa [Bool.decide_and] using hcd
                           rw [this,cond_true] at ha
                           simp only [Bool.and_eq_true,decide_eq_true_eq] at hcd
                           obtain ⟨⟨⟨⟨rfl,rfl⟩,hcn⟩,rfl⟩,hgo⟩:=hcd
                           split at ha
                           . rename_i h2 hd
                             obtain ⟨rd1,rd2,rd3⟩:=del_ok r hd
                             have hnx2:=(AH.put_nx hd).1
                             unfold newA at ha
                             split at ha
                             . rename_i h3 hn
                               simp only [sI,Prod.mk.injEq] at ha
                               obtain ⟨rfl,rfl⟩:=ha
                               have hfr:M h2.nx=none:=fr h2.nx (by omega) (by have:=(AH.new_nx hn).1;omega)
                               by_cases hin:len + n<=κ
                               . -- in its own place
                                 have hst:=run_storeCells_at P b (len * i.size) e us 0 (vs ++ rest).toArray w hb (by
                                  have:(len + n) * i.size<=κ * i.size:=Nat.mul_le_mul_right _ hin
                                  rw [Nat.add_mul] at this
                                  simp only [List.size_toArray,hκ,hul];omega) hS.one
                                 have hvl:vs.length=len * i.size:=by rw [hcl,hcn]
                                 have hul2:us.length<=rest.length:=by
                                  have h5:vs.length + rest.length=κ * i.size:=by rw [<- hκ];simp
                                  have:(len + n) * i.size<=κ * i.size:=Nat.mul_le_mul_right _ hin
                                  rw [Nat.add_mul] at this;omega
                                 have hrow:(vs ++ rest).toArray.toList.take (len * i.size + 0) ++ us ++ (vs ++ rest).toArray.toList.drop (len * i.size + 0 + us.length)=(vs ++ us) ++ rest.drop us.length:=by
                                  simp only [Nat.add_zero,<- hvl]
                                  rw [List.take_left',List.drop_append]
                                  . simp
                                  . rfl
                                 rw [hrow] at hst
                                 have hq:=re_ok (κ:=κ) (w':=w.setRow b ((vs ++ us) ++ rest.drop us.length).toArray) r hg hM hd hn (by rw [<- hnx2];exact hfr) (upd_setRow hb) ⟨vs ++ us,rest.drop us.length,RL_append rl rn,rfl,by
                                  have h5:vs.length + rest.length=κ * i.size:=by rw [<- hκ];simp
                                  simp only [List.length_append,List.length_drop];omega⟩
                                 obtain ⟨q1,q2,q3⟩:=hq
                                 refine ⟨_,.slice (some ⟨b,0,none⟩) (len + n) (κ - 0),_,?_,?_,q1,q2,q3⟩
                                 . rcases hS.kind with ⟨e2,hk2⟩ | hk2 <;> simp [Builtin.append_,run_underlying hu,run_underlying hk2,sizeOf,typeInfo,hi,hlen,hin,hS.cells,addr_add,hst]
                                 . simp only [AV.R]
                                   exact ⟨b,κ,by simp [updM,hnx2],by simp⟩
                               . -- in a new one
                                 refine Got.after rd2 rd3 ?_
                                 have h1:(loadCells ⟨b,0,none⟩ (len * i.size)).run P w.drew=.ok vs.toArray w.drew:=by
                                  have:=run_loadCells_list (P:=P) w.drew ⟨b,0,none⟩ vs (λ j v hj=>by
                                   rw [addr_add]
                                   have hlt:j < vs.length:=(List.getElem?_eq_some_iff.1 hj).1
                                   show w.cell? _=_
                                   simp [World.cell?,hb,List.getElem?_append_left hlt,hj])
                                  rw [hcl,hcn] at this;exact this
                                 exact grow_ok (P:=P) (w:=w) (ty:=ty) hu hi hzz hzs rl rn (by rw [hcl,hcn]) (by simpa [Builtin.firstCells] using h1) hS (by simp;omega) hgo hby rd1 hfr hn
                             . cases ha
                           . cases ha
                     . cases ha
               . cases ha
           . cases ha
       . cases ha
   . cases ha
 . cases ha
theorem copy_ok {h h':AH}{w:World}{t tx ty:TypeId}{d x v:AV}{D X:Value}(ha:copyA P h t d x=some (v,h'))(rd:d.R M D)(rx:x.R M X)(r:Rel M h w):
 Got P h h' M w v (Builtin.copy_ #[t,tx] ty #[D,X]):=by
 unfold copyA at ha
 split at ha
 . rename_i e hu
   split at ha
   . rename_i z hz
     split at ha
     . simp only [AV.R] at rd;subst rd
       split at ha
       . rename_i n new hsrc
         cases hc:allCell new with
         | false=>rw [hc] at ha;cases ha
         | true=>
           rw [hc,cond_true,sI,Prod.mk.injEq] at ha
           obtain ⟨rfl,rfl⟩:=ha
           obtain ⟨us,rn,hul,hlen,_,hfc⟩:=srcA_ok (P:=P) (tx:=tx) hsrc rx r hc
           have:=hfc 0 (Nat.zero_le _)
           refine Got.pure (u:=.int .i64 0) r ?_ rfl
           have hmm:Nat.min n 0=0:=Nat.min_zero n
           simp [Builtin.copy_,run_underlying hu,hlen,sizeT_ok hz,this,goInt]
       . cases ha
     . rename_i id off len cap u
       simp only [AV.R] at rd
       obtain ⟨b,κ,hM,rfl⟩:=rd
       split at ha
       . rename_i n new hsrc
         split at ha
         . rename_i c e' g hg
           cases hc:allCell new with
           | false=>simp [hc] at ha
           | true=>
             simp only [hc,Bool.not_true,cond_false] at ha
             obtain ⟨us,rn,hul,hlen,_,hfc⟩:=srcA_ok (P:=P) (tx:=tx) hsrc rx r hc
             split at ha
             . rename_i vs hvs
               split at ha
               . rename_i c' hsp
                 split at ha
                 . rename_i h2 hp
                   simp only [sI,Prod.mk.injEq] at ha
                   obtain ⟨rfl,rfl⟩:=ha
                   obtain ⟨e1,e2⟩:=takeA_eq hvs
                   subst e1
                   have ho:=allCell_one rn hc
                   obtain ⟨b',κ',w',hM',hst,q1,q2,q3⟩:=splice_ok (P:=P) r hg hsp hp (RL_take _ rn) (λ v hv=>ho v (List.mem_of_mem_take hv))
                   rw [hM] at hM'
                   simp only [sI,Prod.mk.injEq] at hM'
                   obtain ⟨rfl,rfl⟩:=hM'
                   refine ⟨M,.int .i64 (min n len:Nat),w',?_,rfl,q1,q2,q3⟩
                   have:=hfc (min n len) (Nat.min_le_left _ _)
                   have hmm:Nat.min n len=min n len:=rfl
                   simp [Builtin.copy_,run_underlying hu,hlen,sizeT_ok hz,hmm,this,hst,goInt]
                 . cases ha
               . cases ha
             . cases ha
         . cases ha
       . cases ha
     . cases ha
   . cases ha
 . cases ha
theorem clear_ok {h h':AH}{w:World}{t ty:TypeId}{x:AV}{X:Value}(ha:clearA P h t x=some h')(rx:x.R M X)(r:Rel M h w):
 ∃ w',(Builtin.clear_ #[t] ty #[X]).run P w=.ok (.tuple #[]) w'/\Rel M h' w'/\Fr h h' M M w w'/\Ab h h':=by
 unfold clearA at ha
 split at ha
 . rename_i e hu
   simp only [sI] at ha;subst ha
   simp only [AV.R] at rx;subst rx
   exact ⟨w,by simp [Builtin.clear_,run_underlying hu],r,Fr.same h M w,Ab.refl h⟩
 . rename_i e hu
   simp only [sI] at ha;subst ha
   simp only [AV.R] at rx
   obtain ⟨a,c,rfl⟩:=rx
   exact ⟨w,by simp [Builtin.clear_,run_underlying hu],r,Fr.same h M w,Ab.refl h⟩
 . rename_i e id off n cap u hu
   simp only [AV.R] at rx
   obtain ⟨b,κ,hM,rfl⟩:=rx
   simp only [nbeq,Bool.cond_decide] at ha
   split at ha
   . rename_i h0;subst h0
     simp only [sI] at ha;subst ha
     exact ⟨w,by simp [Builtin.clear_,run_underlying hu],r,Fr.same h M w,Ab.refl h⟩
   . rename_i h0
     split at ha
     . rename_i z v c e' g hz hv hg
       cases hcd:(decide ((cellsA v).length=z) && Nat.blt 0 z && allCell (cellsA v)) with
       | false=>rw [hcd] at ha;cases ha
       | true=>
         rw [hcd,cond_true] at ha
         simp only [Bool.and_eq_true,decide_eq_true_eq,nblt] at hcd
         obtain ⟨⟨hcl,hz0⟩,hac⟩:=hcd
         split at ha
         . rename_i c' hsp
           obtain ⟨y,hy,ry,_⟩:=zeroT_ok (M:=M) hv
           have rl:=cellsA_R ry
           have h1:=allCell_one rl hac
           have hrep:∀ v ∈ repV n y.cells.toList,v.oneCell'=true:=by
            clear hsp ha h0 rl hu
            induction n with
            | zero=>simp [repV]
            | succ n ih=>intro v hv;simp only [repV,List.mem_append] at hv;rcases hv with hv | hv;exact h1 v hv;exact ih v hv
           obtain ⟨b',κ',w',hM',hst,q1,q2,q3⟩:=splice_ok (P:=P) r hg hsp ha (RL_rep rl n) hrep
           rw [hM] at hM'
           simp only [sI,Prod.mk.injEq] at hM'
           obtain ⟨rfl,rfl⟩:=hM'
           refine ⟨w',?_,q1,q2,q3⟩
           have hzc:Builtin.zeroCells y.cells n=(repV n y.cells.toList).toArray:=rep_zero rfl
           obtain ⟨n,rfl⟩:∃ m,n=m + 1:=⟨n - 1,by omega⟩
           simp [Builtin.clear_,run_underlying hu,hy,hzc,hst]
         . cases ha
     . cases ha
 . cases ha
theorem len_ok {h:AH}{w:World}{t ty:TypeId}{x v:AV}{X:Value}(ha:lenA P h t x=some v)(rx:x.R M X)(r:Rel M h w):∃ u,(Builtin.len_ #[t] ty #[X]).run P w=.ok u w/\v.R M u:=by
 unfold lenA at ha
 split at ha
 . rename_i l hu
   simp only [sI] at ha;subst ha
   simp only [AV.R] at rx;subst rx
   have hsz:(⟨l.toArray⟩:ByteArray).size=l.length:=by simp [ByteArray.size]
   exact ⟨.int .i64 l.length,by simp [Builtin.len_,run_underlying hu,hsz,goInt],rfl⟩
 . rename_i e hu
   simp only [sI] at ha;subst ha
   simp only [AV.R] at rx;subst rx
   exact ⟨.int .i64 0,by simp [Builtin.len_,run_underlying hu,goInt],rfl⟩
 . rename_i e hu
   simp only [sI] at ha;subst ha
   simp only [AV.R] at rx
   obtain ⟨a,c,rfl⟩:=rx
   exact ⟨.int .i64 0,by simp [Builtin.len_,run_underlying hu,goInt],rfl⟩
 . rename_i e id off n cap u hu
   simp only [sI] at ha;subst ha
   simp only [AV.R] at rx
   obtain ⟨b,κ,hM,rfl⟩:=rx
   exact ⟨.int .i64 n,by simp [Builtin.len_,run_underlying hu,goInt],rfl⟩
 . rename_i n e hu
   simp only [sI] at ha;subst ha
   exact ⟨.int .i64 n,by simp [Builtin.len_,run_underlying hu,goInt],rfl⟩
 . rename_i k e hu
   simp only [sI] at ha;subst ha
   simp only [AV.R] at rx;subst rx
   exact ⟨.int .i64 0,by simp [Builtin.len_,run_underlying hu,goInt],rfl⟩
 . rename_i k e id hu
   split at ha
   . rename_i es ck hg
     simp only [sI] at ha;subst ha
     simp only [AV.R] at rx
     obtain ⟨b,κ,hM,rfl⟩:=rx
     obtain ⟨ob,hb,l,rl,rfl⟩:=Ob_of r hg hM
     have hgo:=run_getObj' (P:=P) hb (by simp)
     have hll:l.length=es.length:=by
      clear hg hb hgo
      induction es generalizing l with
      | nil=>simp only [EL] at rl;subst rl;rfl
      | cons e es ih=>simp only [EL] at rl;obtain ⟨_,_,l',_,_,r3,rfl⟩:=rl;simp [ih l' r3]
     exact ⟨.int .i64 es.length,by simp [Builtin.len_,run_underlying hu,hgo,goInt,hll],rfl⟩
   . cases ha
 . cases ha
theorem cap_ok {t ty:TypeId}{x v:AV}{X:Value}(ha:capA P t x=some v)(rx:x.R M X):∃ u,(∀ w,(Builtin.cap_ #[t] ty #[X]).run P w=.ok u w)/\v.R M u:=by
 unfold capA at ha
 split at ha
 . rename_i e hu
   simp only [sI] at ha;subst ha
   simp only [AV.R] at rx;subst rx
   exact ⟨.int .i64 0,λ w=>by simp [Builtin.cap_,run_underlying hu,goInt],rfl⟩
 . rename_i e id off n c hu
   simp only [sI] at ha;subst ha
   simp only [AV.R] at rx
   obtain ⟨b,κ,hM,rfl⟩:=rx
   exact ⟨.int .i64 c,λ w=>by simp [Builtin.cap_,run_underlying hu,goInt],rfl⟩
 . rename_i n e hu
   simp only [sI] at ha;subst ha
   exact ⟨.int .i64 n,λ w=>by simp [Builtin.cap_,run_underlying hu,goInt],rfl⟩
 . cases ha
theorem min_ok {ty:TypeId}{tys:Array TypeId}{x y v:AV}{X Y:Value}(ha:minA x y=some v)(rx:x.R M X)(ry:y.R M Y):∃ u,(∀ w,(Builtin.min_ tys ty #[X,Y]).run P w=.ok u w)/\v.R M u:=by
 unfold minA at ha
 split at ha
 . rename_i k a k' b
   simp only [sI] at ha;subst ha
   simp only [AV.R] at rx ry;subst rx ry
   refine ⟨.int k (if b < a then b else a),λ w=>by simp [Builtin.min_,Builtin.min2],?_⟩
   simp only [AV.R,ltI_eq,Bool.cond_decide]
 . cases ha
theorem max_ok {ty:TypeId}{tys:Array TypeId}{x y v:AV}{X Y:Value}(ha:maxA x y=some v)(rx:x.R M X)(ry:y.R M Y):∃ u,(∀ w,(Builtin.max_ tys ty #[X,Y]).run P w=.ok u w)/\v.R M u:=by
 unfold maxA at ha
 split at ha
 . rename_i k a k' b
   simp only [sI] at ha;subst ha
   simp only [AV.R] at rx ry;subst rx ry
   refine ⟨.int k (if a < b then b else a),λ w=>by simp [Builtin.max_,Builtin.max2],?_⟩
   simp only [AV.R,ltI_eq,Bool.cond_decide]
 . cases ha
theorem foldl_push (ns:List Int):∀ (r:ByteArray),ns.foldl (λ r n=>r.push (UInt8.ofNat n.toNat)) r=⟨(r.data.toList ++ ns.map λ n=>UInt8.ofNat n.toNat).toArray⟩:=by
 induction ns with
 | nil=>intro r;simp
 | cons n ns ih=>
   intro r
   rw [List.foldl_cons,ih]
   congr 1
   simp [ByteArray.push]
theorem byteSl_ok {src dst:TypeId}(h:byteSl P src dst=true):∃ e,P.underlying src=some (.slice e)/\P.underlying e=some (.int .u8)/\P.underlying dst=some .string:=by
 unfold byteSl at h
 split at h
 . rename_i e h1 h2
   split at h
   . rename_i k h3
     obtain rfl:=eqK_eq h
     exact ⟨e,h1,h3,h2⟩
   . cases h
 . cases h
theorem convBytes {src dst:TypeId}(h:byteSl P src dst=true){X:Value}{n:Nat}{ns:List Int}{w:World}(hX:∃ a c,X=.slice a n c)(hn:ns.length=n)
 (hc:(Builtin.firstCells 1 n X).run P w=.ok (ns.map (Value.int .u8)).toArray w) :
 (convert src dst X).run P w=.ok (.string ⟨(ns.map λ n=>UInt8.ofNat n.toNat).toArray⟩) w:=by
 obtain ⟨e,h1,h2,h3⟩:=byteSl_ok h
 obtain ⟨a,c,rfl⟩:=hX
 rw [run_convert_bytes_string w src dst e a n c h1 h2 h3]
 cases a with
 | none=>
   have:ns=[]:=by
    have hc2:Result.ok (#[]:Array Value) w=.ok (ns.map (Value.int .u8)).toArray w:=hc
    simp only [Result.ok.injEq,and_true] at hc2
    have h4:=congrArg Array.toList hc2
    simpa using h4.symm
   subst this
   rfl
 | some a=>
   have hc2:(loadCells a n).run P w=.ok (ns.map (Value.int .u8)).toArray w:=by
    have:=hc
    simp only [Builtin.firstCells,Nat.mul_one] at this
    exact this
   rw [run_bytesToString w a n c ns hc2,foldl_push]
   rfl
theorem strL_ok:∀ {new:List AV} {us:List Value} {l:List UInt8},strL new=some l->AV.RL M new us->∃ ns:List Int,us=ns.map (Value.int .u8)/\l=ns.map λ n=>UInt8.ofNat n.toNat
 | [],us,l,h,r=>by
   simp only [strL,sI] at h
   obtain rfl:us=[]:=r
   exact ⟨[],rfl,h.symm⟩
 | a :: new,us,l,h,r=>by
   obtain ⟨u,us',r1,r2,rfl⟩:=r
   cases a <;> simp only [strL,reduceCtorEq] at h
   rename_i k n
   simp only [Bool.cond_eq_ite] at h
   split at h
   . rename_i hk
     obtain rfl:=eqK_eq hk
     split at h
     . rename_i r hr
       simp only [sI] at h
       subst h
       obtain ⟨ns,rfl,rfl⟩:=strL_ok hr r2
       obtain rfl:u=.int .u8 n:=r1
       exact ⟨n :: ns,rfl,rfl⟩
     . cases h
   . cases h
theorem convHA_ok {h:AH}{w:World}{src dst:TypeId}{x v:AV}{y:Value}(e:convHA P h src dst x=some v)(rx:x.R M y)(r:Rel M h w):∃ u,(convert src dst y).run P w=.ok u w/\v.R M u:=by
 unfold convHA at e
 simp only [Bool.cond_eq_ite] at e
 split at e
 . rename_i hx
   split at e
   case isFalse=>cases e
   rename_i hb
   split at e
   case h_2=>cases e
   rename_i n new hs
   split at e
   case isFalse=>cases e
   rename_i hc
   split at e
   case h_2=>cases e
   rename_i l hl
   simp only [sI] at e
   subst e
   obtain ⟨us,rn,hul,_,_,hfc⟩:=srcA_ok (P:=P) (tx:=src) hs rx r hc
   obtain ⟨ns,rfl,rfl⟩:=strL_ok hl rn
   simp only [List.length_map,Nat.mul_one] at hul
   have hc2:=hfc n (Nat.le_refl _)
   rw [Nat.mul_one,List.take_of_length_le (by simp [hul])] at hc2
   refine ⟨_,convBytes hb ?_ hul hc2,rfl⟩
   cases x <;> simp only [slV,Bool.false_eq_true] at hx <;> simp only [srcA,reduceCtorEq,sI,Prod.mk.injEq] at hs <;> simp only [AV.R] at rx
   . obtain ⟨b,c,hM,rfl⟩:=rx
     split at hs
     . split at hs
       . simp only [sI,Prod.mk.injEq] at hs
         obtain ⟨rfl,_⟩:=hs
         exact ⟨_,_,rfl⟩
       . cases hs
     . cases hs
   . obtain ⟨rfl,_⟩:=hs
     exact ⟨_,_,rx⟩
   . obtain ⟨rfl,_⟩:=hs
     obtain ⟨a,c,rfl⟩:=rx
     exact ⟨_,_,rfl⟩
 . obtain ⟨u,h1,h2⟩:=conv_ok (P:=P) e rx
   exact ⟨u,h1 w,h2⟩
end
section
variable {P : Program} {M : Mp}
def OutV (P:Program)(s:Sem Next)(h h':AH)(M:Mp)(w:World)(v:AV):Prop:=
 ∃ M' u w' nx,s.run P w=.ok nx w'/\(nx=.value u ∨ (nx=.skip/\u=undef))/\v.R M' u/\Rel M' h' w'/\Fr h h' M M' w w'/\Ab h h'
theorem OutV.got {s:Sem Value}{h h':AH}{w:World}{v:AV}(g:Got P h h' M w v s):OutV P (do pure (.value (← s))) h h' M w v:=by
 obtain ⟨M',u,w',e,rv,r,f,a⟩:=g
 exact ⟨M',u,w',.value u,by simp [e],.inl rfl,rv,r,f,a⟩
theorem OutV.pure {s:Sem Next}{h:AH}{w:World}{v:AV}{u:Value}(e:s.run P w=.ok (.value u) w)(rv:v.R M u)(r:Rel M h w):OutV P s h h M w v:=
 ⟨M,u,w,.value u,e,.inl rfl,rv,r,Fr.same h M w,Ab.refl h⟩
theorem OutV.skip {s:Sem Unit}{h h':AH}{w:World}(g:∃ w',s.run P w=.ok () w'/\Rel M h' w'/\Fr h h' M M w w'/\Ab h h'):OutV P (do s;Pure.pure Next.skip) h h' M w undefA:=by
 obtain ⟨w',e,r,f,a⟩:=g
 exact ⟨M,undef,w',.skip,by simp [e],.inr ⟨rfl,rfl⟩,by simp [undefA,AV.R,AV.RL,undef],r,f,a⟩
def OutOk (P:Program)(s:Sem Next)(h:AH)(M:Mp)(w:World):OutA->Prop
 | .val v h'=>Fresh M h h'->OutV P s h h' M w v
 | .enter f args h'=>h'=h/\∃ us,AV.RL M args us/\s.run P w=(callFunc f us.toArray).run P w
 | .yld l args h'=>h'=h/\∃ us b κ,M l=some (b,κ)/\AV.RL M args us/\s.run P w=(Instr.yield b us.toArray).run P w
theorem val?_some {h:AH}{o:Option AV}{out:OutA}(e:val? h o=some out):∃ v,o=some v/\out=.val v h:=by
 cases o <;> simp [val?] at e;exact ⟨_,rfl,e.symm⟩
theorem val2_some {o:Option (AV × AH)}{out:OutA}(e:val2 o=some out):∃ v h',o=some (v,h')/\out=.val v h':=by
 cases o <;> simp [val2] at e;exact ⟨_,_,rfl,e.symm⟩
theorem skip?_some {o:Option AH}{out:OutA}(e:skip? o=some out):∃ h',o=some h'/\out=.val undefA h':=by
 cases o <;> simp [skip?] at e;exact ⟨_,rfl,e.symm⟩
theorem PL_parts {tm:Tr AV}{ρ:Operand->Value}:∀ (ps:List (Nat × Operand)),(∀ p ∈ ps,(evT tm p.2).R M (ρ p.2))->PL M (partsA tm ps) (ps.map λ p=>(p.1,ρ p.2))
 | [],_=>rfl
 | p :: ps,h=>⟨ρ p.2,_,h p (by simp),PL_parts ps (λ q hq=>h q (by simp [hq])),rfl⟩
theorem RL_args {tm:Tr AV}{ρ:Operand->Value}:∀ (l:List Operand),(∀ p ∈ l,(evT tm p).R M (ρ p))->AV.RL M (l.map (evT tm)) (l.map ρ)
 | [],_=>rfl
 | p :: ps,h=>by
   simp only [List.map_cons,AV.RL]
   exact ⟨ρ p,_,h p (by simp),RL_args ps (λ q hq=>h q (by simp [hq])),rfl⟩
theorem OR_map {tm:Tr AV}{ρ:Operand->Value}(x:Option Operand)(h:∀ p,x=some p->(evT tm p).R M (ρ p)):OR M (x.map (evT tm)) (x.map ρ):=by
 cases x with
 | none=>rfl
 | some p=>exact ⟨ρ p,h p rfl,rfl⟩
theorem makeSlice_ok {h h':AH}{w:World}{t:TypeId}{l c:Int}{k k':IntKind}{v:AV}(hb:makeSliceA P h t l c=some (v,h'))(r:Rel M h w)(fr:Fresh M h h'):
 Got P h h' M w v (Instr.makeSlice t (.int k l) (.int k' c)):=by
 unfold makeSliceA at hb
 split at hb
 . rename_i l c
   split at hb
   . rename_i e hu
     split at hb
     . rename_i i hi
       simp only [nble,nbeq,Bool.cond_decide,<- Bool.decide_and] at hb
       split at hb
       . rename_i hle
         obtain ⟨⟨hlc,hc⟩,hbc⟩:=hle
         split at hb
         . rename_i zs hzs
           have hwl:IntKind.i64.wrap (l:Int)=l:=wrap_id _ _ (by simp only [negLim];omega) (by simp only [posLim];omega)
           have hwc:IntKind.i64.wrap (c:Int)=c:=wrap_id _ _ (by simp only [negLim];omega) (by simp only [posLim];omega)
           have hno:¬ (281474976710656 < (i.bytes:Int) * (c:Int)):=by
            have:((i.bytes * c:Nat):Int)<=((140737488355328:Nat):Int):=Int.ofNat_le.2 hbc
            rw [Int.natCast_mul] at this;omega
           have hno2:¬ (281474976710656 < (i.bytes:Int) * (l:Int)):=by
            have h1:i.bytes * l<=i.bytes * c:=Nat.mul_le_mul_left _ hlc
            have:((i.bytes * l:Nat):Int)<=((140737488355328:Nat):Int):=Int.ofNat_le.2 (Nat.le_trans h1 hbc)
            rw [Int.natCast_mul] at this;omega
           have hsi:=run_typeInfo' hi
           by_cases h0:c * i.size=0
           . simp only [h0,if_true,sI] at hzs;subst hzs
             obtain ⟨M',rfl,hM,q⟩:=newA_ok (κ:=0) hb r fr (ObR_cells (cs:=#[]) (by simp [AV.RL]))
             refine ⟨M',.slice (some ⟨w.heap.size,0,none⟩) l c,_,?_,by simp only [AV.R];exact ⟨_,_,hM,rfl⟩,q⟩
             have e0:∀ d:Value,Array.map (λ _:Nat=>d) (Array.range 0)=#[]:=λ _=>Array.eq_empty_of_size_eq_zero (by simp)
             have hnn:¬ ((c:Int) < 0):=by omega
             have hnl:¬ ((l:Int) < 0):=by omega
             have hlc':¬ ((c:Int) < (l:Int)):=by omega
             simp [Instr.makeSlice,run_underlying hu,asInt,asIntOf,hsi,hwl,hwc,hno,hnn,hnl,hlc',sizeOf,h0,e0,newRow]
           . simp only [h0,if_false] at hzs
             split at hzs
             . rename_i za hza
               obtain ⟨y,hy,ry,_⟩:=zeroT_ok (M:=M) hza
               split at hzs
               . rename_i hl
                 simp only [sI] at hzs;subst hzs
                 have rl:=cellsA_R ry
                 have hlen:=RL_length rl
                 have hm:c * i.size=c * y.cells.size:=by simp at hlen;rw [hlen,hl]
                 obtain ⟨M',rfl,hM,q⟩:=newA_ok (κ:=0) hb r fr (ObR_cells (cs:=(repV c y.cells.toList).toArray) (by simpa using RL_rep rl c))
                 refine ⟨M',.slice (some ⟨w.heap.size,0,none⟩) l c,_,?_,by simp only [AV.R];exact ⟨_,_,hM,rfl⟩,q⟩
                 have hrz:=rep_zero hm
                 have hnn:¬ ((c:Int) < 0):=by omega
                 have hnl:¬ ((l:Int) < 0):=by omega
                 have hlc':¬ ((c:Int) < (l:Int)):=by omega
                 have h0':¬ (c=0 ∨ i.size=0):=by
                  intro e;apply h0
                  rcases e with e | e <;> simp [e]
                 simp [Instr.makeSlice,run_underlying hu,asInt,asIntOf,hsi,hwl,hwc,hno,hnn,hnl,hlc',sizeOf,hy,hrz,newRow]
                 try (intro hh;exact absurd hh h0)
               . cases hzs
             . cases hzs
         . cases hb
       . cases hb
     . cases hb
   . cases hb
 . cases hb
theorem opA_ok {tm:Tr AV}{ρ:Operand->Value}{o:Oper}{h:AH}{w:World}{out:OutA}(ho:opA P tm o h=some out)(hx:∀ x ∈ o.op.operands.toList,(evT tm x).R M (ρ x))(r:Rel M h w):
 (∀ c,o.op ≠ .defer c)/\OutOk P (execOp ρ o) h M w out:=by
 obtain ⟨dst,op,type,pos,after,guard⟩:=o
 cases op <;> simp only [opA_eq,reduceCtorEq] at ho <;> simp only [Op.operands] at hx
 case move x=>
  simp only [sI] at ho;subst ho
  exact ⟨by simp,λ _=>OutV.pure (by simp [execOp]) (hx x (by simp)) r⟩
 case assign x=>
  simp only [sI] at ho;subst ho
  exact ⟨by simp,λ _=>OutV.pure (by simp [execOp]) (hx x (by simp)) r⟩
 case pick c a b=>
  have hc:=hx c (by simp)
  have ha:=hx a (by simp)
  have hb:=hx b (by simp)
  split at ho
  . rename_i t ht
    rw [ht] at hc
    simp only [AV.R] at hc
    simp only [sI] at ho;subst ho
    refine ⟨by simp,λ _=>?_⟩
    cases t
    . exact OutV.pure (by simp [execOp,hc,asBool]) hb r
    . exact OutV.pure (by simp [execOp,hc,asBool]) ha r
  . cases ho
 case alloc t=>
  split at ho
  . rename_i z hz
    obtain ⟨v,h',hn,rfl⟩:=val2_some ho
    exact ⟨by simp,λ fr=>OutV.got (alloc_ok hz hn r fr)⟩
  . cases ho
 case box t x=>
  obtain ⟨v,h',hn,rfl⟩:=val2_some ho
  exact ⟨by simp,λ fr=>OutV.got (box_ok hn (hx x (by simp)) r fr)⟩
 case build t ps=>
  obtain ⟨v,hb,rfl⟩:=val?_some ho
  refine ⟨by simp,λ _=>?_⟩
  have hp:=PL_parts (M:=M) (tm:=tm) (ρ:=ρ) ps.toList (λ p hp=>hx p.2 (by simp;exact ⟨p.1,by simpa using hp⟩))
  obtain ⟨u,h1,h2⟩:=build_ok (w:=w) hb hp
  have e:(ps.toList.map λ p=>(p.1,ρ p.2)).toArray=ps.map λ x=>(x.1,ρ x.2):=by apply Array.ext';simp
  rw [e] at h1
  exact OutV.got (Got.pure r h1 h2)
 case buildSlice t n ps=>
  obtain ⟨v,h',hb,rfl⟩:=val2_some ho
  refine ⟨by simp,λ fr=>?_⟩
  have hp:=PL_parts (M:=M) (tm:=tm) (ρ:=ρ) ps.toList (λ p hp=>hx p.2 (by simp;exact ⟨p.1,by simpa using hp⟩))
  have g:=buildSlice_ok (w:=w) hb hp r fr
  have e:(ps.toList.map λ p=>(p.1,ρ p.2)).toArray=ps.map λ x=>(x.1,ρ x.2):=by apply Array.ext';simp
  rw [e] at g
  exact OutV.got g
 case load t a=>
  obtain ⟨v,hl,rfl⟩:=val?_some ho
  obtain ⟨u,h1,h2⟩:=load_ok (P:=P) hl (hx a (by simp)) r
  exact ⟨by simp,λ _=>OutV.got (Got.pure r (h1 w rfl).2 h2)⟩
 case store t a x=>
  obtain ⟨h',hl,rfl⟩:=skip?_some ho
  exact ⟨by simp,λ _=>OutV.skip (store_ok hl (hx a (by simp)) (hx x (by simp)) r)⟩
 case nilCheck x=>
  have ha:=hx x (by simp)
  split at ho
  . rename_i id off he
    rw [he] at ha
    have ha0:=ha
    simp only [AV.R] at ha
    obtain ⟨b,c,hM,he2⟩:=ha
    simp only [sI] at ho;subst ho
    exact ⟨by simp,λ _=>OutV.pure (by simp [execOp,he2];rfl) (by rw [he2] at ha0;exact ha0) r⟩
  . rename_i f c he
    rw [he] at ha
    have ha0:=ha
    simp only [AV.R] at ha
    obtain ⟨vs,hM,he2⟩:=ha
    simp only [sI] at ho;subst ho
    exact ⟨by simp,λ _=>OutV.pure (by simp [execOp,he2];rfl) (by rw [he2] at ha0;exact ha0) r⟩
  . rename_i l he
    rw [he] at ha
    have ha0:=ha
    simp only [AV.R] at ha
    obtain ⟨b,c,hM,he2⟩:=ha
    simp only [sI] at ho;subst ho
    exact ⟨by simp,λ _=>OutV.pure (by simp [execOp,he2];rfl) (by rw [he2] at ha0;exact ha0) r⟩
  . rename_i g off he
    rw [he] at ha
    have ha0:=ha
    simp only [AV.R] at ha
    simp only [sI] at ho;subst ho
    exact ⟨by simp,λ _=>OutV.pure (u:=.pointer (some ⟨g,off,none⟩)) (by simp [execOp,ha]) rfl r⟩
  . cases ho
 case binOp op t x y yt=>
  obtain ⟨v,hl,rfl⟩:=val?_some ho
  obtain ⟨u,h1,h2⟩:=bin_ok (P:=P) (X:=x) (Y:=y) hl (hx x (by simp)) (hx y (by simp))
  exact ⟨by simp,λ _=>OutV.got (Got.pure r (h1 w) h2)⟩
 case unOp op t x=>
  have ha:=hx x (by simp)
  split at ho
  . rename_i b he
    rw [he] at ha
    simp only [AV.R] at ha
    simp only [sI] at ho;subst ho
    exact ⟨by simp,λ _=>OutV.pure (u:=.bool !b) (by simp [execOp,ha,Op.unary]) rfl r⟩
  . rename_i k n he
    rw [he] at ha
    simp only [AV.R] at ha
    obtain ⟨v,hl,rfl⟩:=val?_some ho
    obtain ⟨u,h1,h2⟩:=pureV_ok (P:=P) (M:=M) hl
    exact ⟨by simp,λ _=>OutV.pure (u:=u) (by simp [execOp,ha,h1]) h2 r⟩
  . cases ho
 case convert src dst x=>
  obtain ⟨v,hl,rfl⟩:=val?_some ho
  obtain ⟨u,h1,h2⟩:=convHA_ok (P:=P) hl (hx x (by simp)) r
  exact ⟨by simp,λ _=>OutV.got (Got.pure r h1 h2)⟩
 case makeInterface t x=>
  have ha:=hx x (by simp)
  split at ho
  . cases ho
  . rename_i d hni hd
    simp only [sI] at ho;subst ho
    refine ⟨by simp,λ _=>OutV.pure (u:=.iface t (ρ x)) ?_ (by simp only [AV.R];exact ⟨_,ha,rfl⟩) r⟩
    simp only [execOp,Instr.makeInterface,Sem.run_bind,run_underlying hd,Result.andThen_ok]
    cases d <;> first | rfl | exact absurd rfl (hni _)
  . cases ho
 case makeFunc fn first caps=>
  cases fn <;> simp only [reduceCtorEq] at ho
  rename_i f
  simp only [nbeq,Bool.cond_decide] at ho
  split at ho
  . rename_i h0
    simp only [sI] at ho;subst ho
    have hf:first=#[]:=Array.eq_empty_of_size_eq_zero h0
    subst hf
    have rl:=RL_args (M:=M) (tm:=tm) (ρ:=ρ) caps.toList (λ p hp=>hx p (by simpa using hp))
    refine ⟨by simp,λ _=>OutV.pure (u:=.func (.func f) #[] (caps.map ρ)) (by simp [execOp,Instr.makeFunc]) ?_ r⟩
    simp only [AV.R]
    refine ⟨_,rl,?_⟩
    congr 1
    apply Array.ext';simp
  . cases ho
 case makeMap t rs=>
  cases rs <;> simp only [reduceCtorEq] at ho
  obtain ⟨v,h',hn,rfl⟩:=val2_some ho
  refine ⟨by simp,λ fr=>?_⟩
  obtain ⟨M',rfl,hM,q⟩:=newA_ok (κ:=0) (ob:=.map #[] 0) hn r fr ⟨[],rfl,rfl⟩
  exact OutV.got (s:=Instr.makeMap t none) ⟨M',.map (some w.heap.size),_,by simp [Instr.makeMap],by simp only [AV.R];exact ⟨_,_,hM,rfl⟩,q⟩
 case makeSlice t l c=>
  have hl:=hx l (by simp)
  have hc:=hx c (by simp)
  split at ho
  . rename_i k l' k' c' e1 e2
    rw [e1] at hl;rw [e2] at hc
    simp only [AV.R] at hl hc
    obtain ⟨v,h',hn,rfl⟩:=val2_some ho
    refine ⟨by simp,λ fr=>?_⟩
    have g:=makeSlice_ok (P:=P) (k:=k) (k':=k') hn r fr
    rw [<- hl,<- hc] at g
    exact OutV.got g
  . cases ho
 case slice t x lo hi mx=>
  obtain ⟨v,hl,rfl⟩:=val?_some ho
  obtain ⟨u,h1,h2⟩:=slice_ok (P:=P) hl (hx x (by simp)) (OR_map lo (λ p e=>hx p (by simp [e]))) (OR_map hi (λ p e=>hx p (by simp [e]))) (OR_map mx (λ p e=>hx p (by simp [e]))) r
  exact ⟨by simp,λ _=>OutV.got (Got.pure r (h1 w) h2)⟩
 case fieldAddr t x f=>
  obtain ⟨v,hl,rfl⟩:=val?_some ho
  obtain ⟨u,h1,h2⟩:=fieldAddr_ok (P:=P) hl (hx x (by simp))
  exact ⟨by simp,λ _=>OutV.got (Got.pure r (h1 w) h2)⟩
 case field t x f=>
  obtain ⟨v,hl,rfl⟩:=val?_some ho
  obtain ⟨u,h1,h2⟩:=field_ok (P:=P) hl (hx x (by simp))
  exact ⟨by simp,λ _=>OutV.got (Got.pure r (h1 w) h2)⟩
 case indexAddr t x i=>
  obtain ⟨v,hl,rfl⟩:=val?_some ho
  obtain ⟨u,h1,h2⟩:=indexAddr_ok (P:=P) hl (hx x (by simp)) (hx i (by simp))
  exact ⟨by simp,λ _=>OutV.got (Got.pure r (h1 w) h2)⟩
 case index t x i=>
  obtain ⟨v,hl,rfl⟩:=val?_some ho
  obtain ⟨u,h1,h2⟩:=index_ok (P:=P) hl (hx x (by simp)) (hx i (by simp))
  exact ⟨by simp,λ _=>OutV.got (Got.pure r (h1 w) h2)⟩
 case lookup t m k ok=>
  obtain ⟨v,hl,rfl⟩:=val?_some ho
  obtain ⟨u,h1,h2⟩:=lookup_ok (P:=P) hl (hx m (by simp)) (hx k (by simp)) r
  exact ⟨by simp,λ _=>OutV.got (Got.pure r h1 h2)⟩
 case mapUpdate t m k x=>
  obtain ⟨h',hl,rfl⟩:=skip?_some ho
  exact ⟨by simp,λ _=>OutV.skip (mapUpdate_ok hl (hx m (by simp)) (hx k (by simp)) (hx x (by simp)) r)⟩
 case insert t m k x=>
  obtain ⟨h',hl,rfl⟩:=skip?_some ho
  exact ⟨by simp,λ _=>OutV.skip (mapUpdate_ok hl (hx m (by simp)) (hx k (by simp)) (hx x (by simp)) r)⟩
 case extract x n=>
  have ha:=hx x (by simp)
  split at ho
  . rename_i l he
    rw [he] at ha
    simp only [AV.R] at ha
    obtain ⟨vs,rl,he2⟩:=ha
    obtain ⟨v,hl,rfl⟩:=val?_some ho
    obtain ⟨u,h1,h2⟩:=nthA_get hl rl
    exact ⟨by simp,λ _=>OutV.pure (u:=u) (by simp [execOp,he2,Instr.extract,h1]) h2 r⟩
  . cases ho
 case call c=>
  obtain ⟨callee,args,tys⟩:=c
  refine ⟨by simp,?_⟩
  have hargs:∀ p ∈ args.toList,(evT tm p).R M (ρ p):=λ p hp=>hx p (by simp [Call.operands];right;simpa using hp)
  have hmap:∀ (l:List Operand),args.toList=l->args.map ρ=(l.map ρ).toArray:=λ l e=>by subst e;apply Array.ext';simp
  have htys:∀ (l:List TypeId),tys.toList=l->tys=l.toArray:=λ l e=>by subst e;simp
  cases callee with
  | value f=>
    have hf:=hx f (by simp [Call.operands])
    have rl:=RL_args (M:=M) (tm:=tm) (ρ:=ρ) args.toList hargs
    simp only at ho
    split at ho
    . rename_i g caps he
      rw [he] at hf
      simp only [AV.R] at hf
      obtain ⟨vs,rc,hf⟩:=hf
      simp only [sI] at ho;subst ho
      refine ⟨rfl,_,RL_append rl rc,?_⟩
      have e:(args.toList.map ρ ++ vs).toArray=args.map ρ ++ vs.toArray:=by apply Array.ext';simp
      rw [e]
      simp [execOp,resolve,hf,Deferred.ofValue,invoke]
    . rename_i l he
      rw [he] at hf
      simp only [AV.R] at hf
      obtain ⟨b,κ,hM,hf⟩:=hf
      simp only [sI] at ho;subst ho
      refine ⟨rfl,_,b,κ,hM,rl,?_⟩
      have e:(args.toList.map ρ).toArray=args.map ρ:=by apply Array.ext';simp
      rw [e]
      simp [execOp,resolve,hf,Deferred.ofValue,invoke]
    . cases ho
  | invoke x n=>simp only [reduceCtorEq] at ho
  | builtin b=>
    cases b <;> simp only [reduceCtorEq] at ho
    case len=>
     split at ho
     . rename_i t ts x xs e1 e2
       obtain ⟨v,hl,rfl⟩:=val?_some ho
       obtain ⟨u,h1,h2⟩:=len_ok (P:=P) (ty:=type) hl (hargs x (by simp [e2])) r
       have hr:∀ l,(Builtin.len_ #[t] type #[ρ x]).run P w=l->(Builtin.len_ tys type (args.map ρ)).run P w=l:=λ l e=>by
        rw [<- e,htys _ e1,hmap _ e2];simp [Builtin.len_]
       exact λ _=>OutV.pure (u:=u) (by simp [execOp,resolve,invoke,builtin,hr _ h1]) h2 r
     . cases ho
    case cap=>
     split at ho
     . rename_i t ts x xs e1 e2
       obtain ⟨v,hl,rfl⟩:=val?_some ho
       obtain ⟨u,h1,h2⟩:=cap_ok (P:=P) (ty:=type) hl (hargs x (by simp [e2]))
       have hr:∀ l,(Builtin.cap_ #[t] type #[ρ x]).run P w=l->(Builtin.cap_ tys type (args.map ρ)).run P w=l:=λ l e=>by
        rw [<- e,htys _ e1,hmap _ e2];simp [Builtin.cap_]
       exact λ _=>OutV.pure (u:=u) (by simp [execOp,resolve,invoke,builtin,hr _ (h1 w)]) h2 r
     . cases ho
    case append=>
     split at ho
     . rename_i t ts x y xs e1 e2
       obtain ⟨v,h',hl,rfl⟩:=val2_some ho
       intro fr
       cases ts with
       | nil=>simp [appendA,srcOk] at hl;(repeat' split at hl) <;> simp_all
       | cons t2 ts=>
         have g:=append_ok (P:=P) (ty:=type) (tx:=t2) (by simpa using hl) (hargs x (by simp [e2])) (hargs y (by simp [e2])) r fr
         obtain ⟨M',u,w',h1,h2,h3,h4,h5⟩:=g
         have hr:∀ l,(Builtin.append_ #[t,t2] type #[ρ x,ρ y]).run P w=l->(Builtin.append_ tys type (args.map ρ)).run P w=l:=λ l e=>by
          rw [<- e,htys _ e1,hmap _ e2];simp [Builtin.append_]
         exact ⟨M',u,w',.value u,by simp [execOp,resolve,invoke,builtin,hr _ h1],.inl rfl,h2,h3,h4,h5⟩
     . cases ho
    case copy=>
     split at ho
     . rename_i t ts x y xs e1 e2
       obtain ⟨v,h',hl,rfl⟩:=val2_some ho
       intro fr
       have g:=copy_ok (P:=P) (ty:=type) (tx:=t) hl (hargs x (by simp [e2])) (hargs y (by simp [e2])) r
       obtain ⟨M',u,w',h1,h2,h3,h4,h5⟩:=g
       have hr:∀ l,(Builtin.copy_ #[t,t] type #[ρ x,ρ y]).run P w=l->(Builtin.copy_ tys type (args.map ρ)).run P w=l:=λ l e=>by
        rw [<- e,htys _ e1,hmap _ e2];simp [Builtin.copy_]
       exact ⟨M',u,w',.value u,by simp [execOp,resolve,invoke,builtin,hr _ h1],.inl rfl,h2,h3,h4,h5⟩
     . cases ho
    case clear=>
     split at ho
     . rename_i t ts x xs e1 e2
       obtain ⟨h',hl,rfl⟩:=skip?_some ho
       intro fr
       obtain ⟨w',h1,h3,h4,h5⟩:=clear_ok (P:=P) (ty:=type) hl (hargs x (by simp [e2])) r
       have hr:∀ l,(Builtin.clear_ #[t] type #[ρ x]).run P w=l->(Builtin.clear_ tys type (args.map ρ)).run P w=l:=λ l e=>by
        rw [<- e,htys _ e1,hmap _ e2];simp [Builtin.clear_]
       exact ⟨M,.tuple #[],w',.value (.tuple #[]),by simp [execOp,resolve,invoke,builtin,hr _ h1],.inl rfl,by simp [undefA,AV.R,AV.RL],h3,h4,h5⟩
     . cases ho
    case delete=>
     split at ho
     . rename_i t ts x y xs e1 e2
       split at ho
       . rename_i h' hl
         simp only [sI] at ho;subst ho
         intro fr
         obtain ⟨w',h1,h3,h4,h5⟩:=delete_ok (P:=P) (ty:=type) (tys:=tys) hl (hargs x (by simp [e2])) (hargs y (by simp [e2])) r (by rw [htys _ e1];simp) (args.map ρ) (by rw [hmap _ e2];simp)
         exact ⟨M,.tuple #[],w',.value (.tuple #[]),by simp [execOp,resolve,invoke,builtin,h1],.inl rfl,by simp [undefA,AV.R,AV.RL],h3,h4,h5⟩
       . cases ho
     . cases ho
    case min=>
     split at ho
     . rename_i x y e2
       obtain ⟨v,hl,rfl⟩:=val?_some ho
       obtain ⟨u,h1,h2⟩:=min_ok (P:=P) (ty:=type) (tys:=tys) hl (hargs x (by simp [e2])) (hargs y (by simp [e2]))
       have hr:∀ l,(Builtin.min_ tys type #[ρ x,ρ y]).run P w=l->(Builtin.min_ tys type (args.map ρ)).run P w=l:=λ l e=>by
        rw [<- e,hmap _ e2];rfl
       exact λ _=>OutV.pure (u:=u) (by simp [execOp,resolve,invoke,builtin,hr _ (h1 w)]) h2 r
     . cases ho
    case max=>
     split at ho
     . rename_i x y e2
       obtain ⟨v,hl,rfl⟩:=val?_some ho
       obtain ⟨u,h1,h2⟩:=max_ok (P:=P) (ty:=type) (tys:=tys) hl (hargs x (by simp [e2])) (hargs y (by simp [e2]))
       have hr:∀ l,(Builtin.max_ tys type #[ρ x,ρ y]).run P w=l->(Builtin.max_ tys type (args.map ρ)).run P w=l:=λ l e=>by
        rw [<- e,hmap _ e2];rfl
       exact λ _=>OutV.pure (u:=u) (by simp [execOp,resolve,invoke,builtin,hr _ (h1 w)]) h2 r
     . cases ho
theorem wl_put {h h':AH}{id:Nat}{v:Option AO}(hp:h.put id v=some h'):(∀ x,x ∈ h.wl->x ∈ h'.wl)/\(id < h.bs->id ∈ h'.wl):=by
 obtain ⟨_,_,hwl⟩:=AH.put_nx hp
 rw [hwl,nblt,Bool.cond_decide]
 refine ⟨λ x hx=>?_,λ hlt=>?_⟩
 . split
   . cases hm:memN id h.wl <;> simp [hx]
   . exact hx
 . rw [if_pos hlt]
   cases hm:memN id h.wl
   . simp
   . simpa using memN_iff.1 hm
theorem put_ab {h h':AH}{id:Nat}{old:AO}{v:Option AO}(hg:h.get id=some old)(hp:h.put id v=some h'):Ab h h':=by
 have hgp:=AH.get_put hp
 obtain ⟨hnx,hbs,_⟩:=AH.put_nx hp
 obtain ⟨w1,w2⟩:=wl_put hp
 refine ⟨by omega,hbs,w1,λ x hx _ hn=>?_,λ x hx=>.inl ?_⟩
 . rw [hgp]
   split
   . rename_i e;subst e;exact absurd (w2 hx) hn
   . rfl
 . rw [hgp] at hx
   split at hx
   . rename_i e;subst e;simp [hg]
   . exact hx
theorem del_ab {h h':AH}{id:Nat}(hp:h.put id none=some h'):Ab h h':=by
 have hgp:=AH.get_put hp
 obtain ⟨hnx,hbs,_⟩:=AH.put_nx hp
 obtain ⟨w1,w2⟩:=wl_put hp
 refine ⟨by omega,hbs,w1,λ x hx _ hn=>?_,λ x hx=>.inl ?_⟩
 . rw [hgp]
   split
   . rename_i e;subst e;exact absurd (w2 hx) hn
   . rfl
 . rw [hgp] at hx
   split at hx
   . exact absurd rfl hx
   . exact hx
theorem new_ab {h h':AH}{o:AO}(hn:h.new o=some h'):Ab h h':=by
 have hg:=AH.get_new hn
 obtain ⟨hnx,hbs,hwl⟩:=AH.new_nx hn
 refine ⟨by omega,hbs,λ x hx=>by rw [hwl];exact hx,λ x _ hy _=>?_,λ x hx=>?_⟩
 . rw [hg,if_neg (by omega)]
 . rw [hg] at hx
   by_cases hid:x=h.nx
   . right;omega
   . left;simpa [hid] using hx
theorem newA_ab {h h':AH}{o:AO}{f:Nat->AV}{v:AV}(hn:newA h o f=some (v,h')):Ab h h':=by
 unfold newA at hn
 split at hn
 . rename_i h2 hh
   simp only [sI,Prod.mk.injEq] at hn
   obtain ⟨_,rfl⟩:=hn
   exact new_ab hh
 . cases hn
theorem storeA_ab {h h':AH}{t:TypeId}{a v:AV}(hl:storeA P h t a v=some h'):Ab h h':=by
 unfold storeA at hl
 simp only [Bool.cond_eq_ite] at hl
 repeat' split at hl
 all_goals first | (cases hl;done) | (rename_i hg _ _ _ _ _ _ _ _;exact put_ab hg hl) | skip
 all_goals first | (exact put_ab (by assumption) hl)
theorem mapUpdateG_ab {h h':AH}{t:TypeId}{m k v:AV}(hl:mapUpdateG P h t m k v=some h'):Ab h h':=by
 unfold mapUpdateG at hl
 repeat' split at hl
 all_goals first | (cases hl;done) | (exact put_ab (by assumption) hl)
theorem mapUpdateA_ab {h h':AH}{t:TypeId}{m k v:AV}(hl:mapUpdateA P h t m k v=some h'):Ab h h':=by
 unfold mapUpdateA at hl
 split at hl
 . exact mapUpdateG_ab hl
 all_goals repeat' split at hl
 all_goals first | (cases hl;done) | (exact put_ab (by assumption) hl)
theorem deleteA_ab {h h':AH}{t:TypeId}{m k:AV}(hl:deleteA P h t m k=some h'):Ab h h':=by
 unfold deleteA at hl
 repeat' split at hl
 all_goals first | (cases hl;done) | (simp only [sI] at hl;subst hl;exact Ab.refl _) | (exact put_ab (by assumption) hl)
theorem clearA_ab {h h':AH}{t:TypeId}{x:AV}(hl:clearA P h t x=some h'):Ab h h':=by
 unfold clearA at hl
 simp only [Bool.cond_eq_ite] at hl
 repeat' split at hl
 all_goals first | (cases hl;done) | (simp only [sI] at hl;subst hl;exact Ab.refl _) | (exact put_ab (by assumption) hl)
theorem buildSliceA_ab {h h':AH}{t:TypeId}{n:Nat}{parts:List (Nat × AV)}{v:AV}(hl:buildSliceA P h t n parts=some (v,h')):Ab h h':=by
 unfold buildSliceA at hl
 simp only [Bool.cond_eq_ite] at hl
 repeat' split at hl
 all_goals first | (cases hl;done) | (exact newA_ab hl)
theorem makeSliceA_ab {h h':AH}{t:TypeId}{l c:Int}{v:AV}(hl:makeSliceA P h t l c=some (v,h')):Ab h h':=by
 unfold makeSliceA at hl
 simp only [Bool.cond_eq_ite] at hl
 repeat' split at hl
 all_goals first | (cases hl;done) | (exact newA_ab hl)
theorem copyA_ab {h h':AH}{t:TypeId}{d x v:AV}(hl:copyA P h t d x=some (v,h')):Ab h h':=by
 unfold copyA at hl
 simp only [Bool.cond_eq_ite] at hl
 repeat' split at hl
 all_goals first | (cases hl;done) | skip
 all_goals (simp only [sI,Prod.mk.injEq] at hl;obtain ⟨_,rfl⟩:=hl)
 all_goals first | exact Ab.refl _ | exact put_ab (by assumption) (by assumption)
set_option maxHeartbeats 1000000 in
theorem appendA_ab {h h':AH}{t:TypeId}{tx:Option TypeId}{s x v:AV}(hl:appendA P h t tx s x=some (v,h')):Ab h h':=by
 unfold appendA at hl
 simp only [Bool.cond_eq_ite] at hl
 repeat' split at hl
 all_goals first
  | (cases hl;done)
  | (exact newA_ab hl)
  | (exact (del_ab (by assumption)).trans (newA_ab hl))
  | (simp only [sI,Prod.mk.injEq] at hl;obtain ⟨_,rfl⟩:=hl;first | exact Ab.refl _ | exact put_ab (by assumption) (by assumption))
theorem opA_ab {tm:Tr AV}{o:Oper}{h h':AH}{v:AV}(ho:opA P tm o h=some (.val v h')):Ab h h':=by
 have hv:∀ {o:Option AV},val? h o=some (.val v h')->Ab h h':=λ e=>by
  obtain ⟨v2,_,e2⟩:=val?_some e;cases e2;exact Ab.refl h
 have hv2:∀ {o:Option (AV × AH)},(∀ v2 h2,o=some (v2,h2)->Ab h h2)->val2 o=some (.val v h')->Ab h h':=λ k e=>by
  obtain ⟨v2,h2,e1,e2⟩:=val2_some e;cases e2;exact k _ _ e1
 have hs:∀ {o:Option AH},(∀ h2,o=some h2->Ab h h2)->skip? o=some (.val v h')->Ab h h':=λ k e=>by
  obtain ⟨h2,e1,e2⟩:=skip?_some e;cases e2;exact k _ e1
 rw [opA_eq] at ho
 repeat' split at ho
 all_goals first
  | (cases ho;done)
  | exact hv ho
  | (simp only [sI,OutA.val.injEq] at ho;obtain ⟨_,rfl⟩:=ho;exact Ab.refl _)
  | exact hv2 (λ _ _ e=>newA_ab e) ho
  | exact hv2 (λ _ _ e=>buildSliceA_ab e) ho
  | exact hv2 (λ _ _ e=>makeSliceA_ab e) ho
  | exact hv2 (λ _ _ e=>appendA_ab e) ho
  | exact hv2 (λ _ _ e=>copyA_ab e) ho
  | exact hs (λ _ e=>storeA_ab e) ho
  | exact hs (λ _ e=>mapUpdateA_ab e) ho
  | exact hs (λ _ e=>clearA_ab e) ho
  | (simp only [sI,OutA.val.injEq] at ho;obtain ⟨_,rfl⟩:=ho;exact deleteA_ab (by assumption))
  | skip
 all_goals (simp only [Bool.cond_eq_ite] at ho;split at ho <;> first | (cases ho;done) | (simp only [sI,OutA.val.injEq] at ho;obtain ⟨_,rfl⟩:=ho;exact Ab.refl _))
end
theorem T.sel_must {α:Type}{b:Bool}{t:T α}{x:α}(h:(T.must b t).sel=some x):b=true/\t.sel=some x:=by
 cases b
 . simp [T.must,T.sel] at h
 . exact ⟨rfl,by simpa [T.must,T.sel] using h⟩
theorem T.sel_ret {α:Type}{a x:α}(h:(T.ret a).sel=some x):a=x:=by simpa [T.sel] using h
theorem T.sel_br {α:Type}{b:Bool}{t e:T α}{x:α}(h:(T.br b t e).sel=some x):(b=true/\t.sel=some x) ∨ (b=false/\e.sel=some x):=by
 cases b
 . exact .inr ⟨rfl,by simpa [T.sel] using h⟩
 . exact .inl ⟨rfl,by simpa [T.sel] using h⟩
theorem T.sel_of {α:Type}{o:Option α}:(T.of o).sel=o:=by cases o <;> rfl
theorem T.sel_bind {α β:Type}(f:α->T β):∀ t:T α,(t.bind f).sel=(match t.sel with | some a=>(f a).sel | none=>none)
 | .ret a=>rfl
 | .no=>rfl
 | .br b t e=>by
   simp only [T.bind,T.sel]
   cases b
   . simpa using T.sel_bind f e
   . simpa using T.sel_bind f t
theorem T.sel_bind_some {α β:Type}{f:α->T β}{t:T α}{x:β}(h:(t.bind f).sel=some x):∃ a,t.sel=some a/\(f a).sel=some x:=by
 rw [T.sel_bind] at h
 cases ht:t.sel with
 | none=>rw [ht] at h;cases h
 | some a=>rw [ht] at h;exact ⟨a,rfl,h⟩
theorem T.all_sel {α:Type}{p:α->Prop}:∀ {t:T α},t.all p->∃ a,t.sel=some a/\p a
 | .ret a,h=>⟨a,rfl,h⟩
 | .br b t e,h=>by
   cases b
   . obtain ⟨a,h1,h2⟩:=T.all_sel (h.2 rfl);exact ⟨a,by simpa [T.sel] using h1,h2⟩
   . obtain ⟨a,h1,h2⟩:=T.all_sel (h.1 rfl);exact ⟨a,by simpa [T.sel] using h1,h2⟩
 | .no,h=>False.elim h
section
variable {P : Program} {M : Mp}
theorem yI_ok {a:AV}{k:IntKind}{n:Int}{v:Value}(h:yI a=some (k,n))(r:a.R M v):v=.int k n:=by
 unfold yI at h
 split at h <;> first | (cases h;done) | (simp only [sI,Prod.mk.injEq] at h;obtain ⟨rfl,rfl⟩:=h;simpa only [AV.R] using r)
theorem yB_ok {a:AV}{b:Bool}{v:Value}(h:yB a=some b)(r:a.R M v):v=.bool b:=by
 unfold yB at h
 split at h <;> first | (cases h;done) | (simp only [sI] at h;subst h;simpa only [AV.R] using r)
theorem yS_ok {a:AV}{l:List UInt8}{v:Value}(h:yS a=some l)(r:a.R M v):v=.string ⟨l.toArray⟩:=by
 unfold yS at h
 split at h <;> first | (cases h;done) | (simp only [sI] at h;subst h;simpa only [AV.R] using r)
theorem yIx_ok {a:AV}{x:Int}{n:Nat}{v:Value}(h:yIx a=some (x,n))(r:a.R M v):(∃ k,v=.int k x)/\(0<=x->n=x.toNat):=by
 unfold yIx at h
 split at h <;> first
  | (cases h;done)
  | (simp only [sI,Prod.mk.injEq] at h;obtain ⟨rfl,rfl⟩:=h;simp only [AV.R] at r;exact ⟨⟨_,r⟩,λ _=>by first | rfl | simp [yNat]⟩)
def isLst:AV->Bool
 | .lst ..=>true
 | _=>false
theorem selA_flat (b:Bool){x y:AV}{v:Value}(nl:isLst x=false)(h:(bif b then x else y).R M v):(selA b x y).R M v:=by
 unfold selA
 split <;> first
  | exact h
  | (rename_i k a k' c;cases hk:eqK k k' with
    | false=>exact h
    | true=>
      obtain rfl:=eqK_eq hk
      cases b <;> simpa only [cond_true,cond_false,AV.R,ySel] using h)
  | (cases b <;> simpa only [cond_true,cond_false,AV.R,ySelB] using h)
  | (cases b with
    | true=>(simp only [cond_true,AV.R] at h;simp only [AV.R,ySelB,ySelN,cond_true];exact .inl ⟨trivial,trivial,h⟩)
    | false=>exact h)
  | (cases nl;done)
theorem selA_go (b:Bool):∀ (x y:AV) (v:Value),(bif b then x else y).R M v->(selA b x y).R M v
 | .lst x nil z n f,y,v,h=>by
   cases y
   case lst x' nil' z' n' f'=>
    unfold selA
    cases hz:Nat.beq z z' with
    | false=>exact h
    | true=>
      obtain rfl:=Nat.eq_of_beq_eq_true hz
      simp only [cond_true]
      cases b with
      | true=>
        simp only [cond_true,AV.R,ySelB,ySelN] at h ⊢
        rcases h with h | ⟨h1,h2,a,c,h3,h4⟩ | ⟨h1,h2,b,off,c,cs,r1,r2,r3,r4,r5⟩
        . exact .inl h
        . exact .inr (.inl ⟨h1,h2,a,c,h3,λ e=>h4 (by simp only [Bool.and_eq_true] at e;exact e.1)⟩)
        . refine .inr (.inr ⟨h1,h2,b,off,c,cs,r1,r2,λ e=>r3 (by simp only [Bool.and_eq_true] at e;exact e.1),r4,λ i hi j hj=>?_⟩)
          obtain ⟨u,q1,q2,q3⟩:=r5 i hi j hj
          exact ⟨u,q1,q2,selA_go true (f i j) (f' i j) u q3⟩
      | false=>
        simp only [cond_false,AV.R,ySelB,ySelN] at h ⊢
        rcases h with h | ⟨h1,h2,a,c,h3,h4⟩ | ⟨h1,h2,b,off,c,cs,r1,r2,r3,r4,r5⟩
        . exact .inl h
        . exact .inr (.inl ⟨h1,h2,a,c,h3,λ e=>h4 (by simp only [Bool.and_eq_true] at e;exact e.2)⟩)
        . refine .inr (.inr ⟨h1,h2,b,off,c,cs,r1,r2,λ e=>r3 (by simp only [Bool.and_eq_true] at e;exact e.2),r4,λ i hi j hj=>?_⟩)
          obtain ⟨u,q1,q2,q3⟩:=r5 i hi j hj
          exact ⟨u,q1,q2,selA_go false (f i j) (f' i j) u q3⟩
   case ns=>
    unfold selA
    cases b with
    | true=>exact h
    | false=>
      simp only [cond_false,AV.R] at h
      simp only [AV.R,ySelB,ySelN,cond_false]
      exact .inl ⟨trivial,trivial,h⟩
   all_goals exact h
 | .b _,_,_,h | .i _ _,_,_,h | .s _,_,_,h | .np,_,_,h | .ns,_,_,h | .nm,_,_,h | .nf,_,_,h | .ni,_,_,h | .o _,_,_,h | .gl _ _,_,_,h=>selA_flat b rfl h
 | .jk,_,_,h | .yr _ _ _ _,_,_,h | .es,_,_,h | .y _ _,_,_,h | .yb _,_,_,h | .ys _,_,_,h | .ye _,_,_,h | .ysl _ _ _ _ _ _,_,_,h | .ypt _ _ _ _ _,_,_,h | .ptr _ _,_,_,h | .sl _ _ _ _ _,_,_,h | .mp _,_,_,h=>selA_flat b rfl h
 | .yl _,_,_,h | .lp _ _ _,_,_,h | .fn _ _,_,_,h | .ifc _ _,_,_,h | .agg _,_,_,h | .tup _,_,_,h=>selA_flat b rfl h
theorem selA_ok (b:Bool){x y:AV}{v:Value}(h:(bif b then x else y).R M v):(selA b x y).R M v:=selA_go b x y v h
theorem pickY_ok {c a b v:AV}{C A B:Value}(h:(pickY c a b).sel=some v)(rc:c.R M C)(ra:a.R M A)(rb:b.R M B):∃ t,C=.bool t/\v.R M (bif t then A else B):=by
 unfold pickY at h
 split at h
 . rename_i t
   simp only [AV.R] at rc
   refine ⟨t,rc,?_⟩
   have hgen:(T.br t (.ret a) (.ret b)).sel=some v->v.R M (bif t then A else B):=λ e=>by
    rcases T.sel_br e with ⟨rfl,e⟩ | ⟨rfl,e⟩ <;> (obtain rfl:=T.sel_ret e;assumption)
   split at h
   . rename_i k x k' y
     cases hk:eqK k k' with
     | false=>rw [hk] at h;exact hgen h
     | true=>
       rw [hk] at h
       obtain rfl:=eqK_eq hk
       obtain rfl:=T.sel_ret h
       simp only [AV.R] at ra rb ⊢
       subst ra rb
       cases t <;> rfl
   . obtain rfl:=T.sel_ret h
     simp only [AV.R] at ra rb ⊢
     subst ra rb
     cases t <;> rfl
   . exact hgen h
 . cases h
theorem intBits_eq {op:BinOp}(h:op=.and ∨ op=.or ∨ op=.xor ∨ op=.andNot)(k:IntKind)(a b:Int):Op.intBits op k a b=.pure (.int k (yBits op k a b)):=by
 rcases h with rfl | rfl | rfl | rfl <;> rfl
theorem intY_ok {op:BinOp}{k:IntKind}{a b:Int}{v:AV}{t:TypeId}(h:(intY op k a b).sel=some v):∃ u,(∀ w,(binOp op t (.int k a) (.int k b)).run P w=.ok u w)/\v.R M u:=by
 unfold intY at h
 cases op
 case add=>obtain rfl:=T.sel_ret h;exact ⟨.int k (k.wrap (a + b)),λ w=>by simp [binOp,Op.intArith],rfl⟩
 case sub=>obtain rfl:=T.sel_ret h;exact ⟨.int k (k.wrap (a - b)),λ w=>by simp [binOp,Op.intArith],rfl⟩
 case mul=>obtain rfl:=T.sel_ret h;exact ⟨.int k (k.wrap (a * b)),λ w=>by simp [binOp,Op.intArith],rfl⟩
 case quo=>
  rcases T.sel_br h with ⟨_,e⟩ | ⟨hb,e⟩
  . cases e
  . obtain rfl:=T.sel_ret e
    have hb:¬ b=0:=by simpa [yEq] using hb
    exact ⟨.int k (k.wrap (a.tdiv b)),λ w=>by simp [binOp,Op.intDiv,hb],rfl⟩
 case rem=>
  rcases T.sel_br h with ⟨_,e⟩ | ⟨hb,e⟩
  . cases e
  . obtain rfl:=T.sel_ret e
    have hb:¬ b=0:=by simpa [yEq] using hb
    exact ⟨.int k (a.tmod b),λ w=>by simp [binOp,Op.intDiv,hb],rfl⟩
 case and=>obtain rfl:=T.sel_ret h;exact ⟨_,λ w=>by simp only [binOp,intBits_eq (.inl rfl),ne_eq,not_true_eq_false,if_false];rfl,rfl⟩
 case or=>obtain rfl:=T.sel_ret h;exact ⟨_,λ w=>by simp only [binOp,intBits_eq (.inr (.inl rfl)),ne_eq,not_true_eq_false,if_false];rfl,rfl⟩
 case xor=>obtain rfl:=T.sel_ret h;exact ⟨_,λ w=>by simp only [binOp,intBits_eq (.inr (.inr (.inl rfl))),ne_eq,not_true_eq_false,if_false];rfl,rfl⟩
 case andNot=>obtain rfl:=T.sel_ret h;exact ⟨_,λ w=>by simp only [binOp,intBits_eq (.inr (.inr (.inr rfl))),ne_eq,not_true_eq_false,if_false];rfl,rfl⟩
 case eql=>obtain rfl:=T.sel_ret h;exact ⟨.bool (a == b),λ w=>by simp [binOp,Op.intCmp],by simp only [AV.R,yEq,Value.bool.injEq];rw [Bool.eq_iff_iff];simp⟩
 case neq=>obtain rfl:=T.sel_ret h;exact ⟨.bool (a != b),λ w=>by simp [binOp,Op.intCmp],by simp only [AV.R,yEq,yNot,Value.bool.injEq];rw [Bool.eq_iff_iff];simp⟩
 case lss=>obtain rfl:=T.sel_ret h;exact ⟨_,λ w=>by simp only [binOp,Op.intCmp,ne_eq,not_true_eq_false,if_false];rfl,rfl⟩
 case leq=>obtain rfl:=T.sel_ret h;exact ⟨_,λ w=>by simp only [binOp,Op.intCmp,ne_eq,not_true_eq_false,if_false];rfl,rfl⟩
 case gtr=>obtain rfl:=T.sel_ret h;exact ⟨_,λ w=>by simp only [binOp,Op.intCmp,ne_eq,not_true_eq_false,if_false];rfl,by simp only [AV.R,yLt]⟩
 case geq=>obtain rfl:=T.sel_ret h;exact ⟨_,λ w=>by simp only [binOp,Op.intCmp,ne_eq,not_true_eq_false,if_false];rfl,by simp only [AV.R,yLe]⟩
 all_goals cases h
theorem shiftY_ok {op:BinOp}{k k':IntKind}{a b:Int}{v:AV}{t:TypeId}(h:(shiftY op k a b).sel=some v):∃ u,(∀ w,(binOp op t (.int k a) (.int k' b)).run P w=.ok u w)/\v.R M u:=by
 unfold shiftY at h
 cases op <;> first | (cases h;done) | skip
 all_goals
  obtain ⟨h1,h2⟩:=T.sel_must h
  obtain rfl:=T.sel_ret h2
  have hb:¬ b < 0:=by simp [yLe] at h1;omega
  exact ⟨_,λ w=>by simp only [binOp,Op.shift,hb,if_false];rfl,rfl⟩
theorem strY_ok {op:BinOp}{x y:List UInt8}{v:AV}{t:TypeId}(h:(strY op x y).sel=some v):∃ u,(∀ w,(binOp op t (.string ⟨x.toArray⟩) (.string ⟨y.toArray⟩)).run P w=.ok u w)/\v.R M u:=by
 have hb:∀ {z:AV},strBin op x y=some z->(∀ v',z.R M v'->v.R M v')->∃ u,(∀ w,(binOp op t (.string ⟨x.toArray⟩) (.string ⟨y.toArray⟩)).run P w=.ok u w)/\v.R M u:=λ {z} e k=>by
  obtain ⟨u,h1,h2⟩:=strBin_ok (P:=P) (M:=M) (t:=t) e
  exact ⟨u,h1,k u h2⟩
 unfold strY at h
 cases op <;> first | (cases h;done) | skip
 case add=>
  obtain ⟨h1,h2⟩:=T.sel_must h
  obtain rfl:=T.sel_ret h2
  have hle:x.length + y.length<=9223372036854775807:=of_decide_eq_true h1
  exact hb (z:=.s (x ++ y)) (by simp [strBin,nble,hle]) (λ v' e=>e)
 all_goals
  obtain rfl:=T.sel_ret h
  exact hb rfl (λ v' e=>e)
theorem ptr_nil {t:TypeId}{x y:AV}{u v:Value}{b:Bool}(h:nilY x y=some b){e:TypeId}(hu:P.underlying t=some (.slice e))(rx:x.R M u)(ry:y.R M v):∀ w,(Op.equal t u v).run P w=.ok b w:=by
 have hns:(AV.ns).R M (.slice none 0 0):=rfl
 have keyM:∀ (N:Mp) (x' y':AV),x'.R N u->y'.R N v->eqA P 64 t x' y'=some b->∀ w,(Op.equal t u v).run P w=.ok b w:=λ N x' y' rx' ry' hh w=>by
  rw [Op.equal];exact eqA_ok (M:=N) 64 Op.maxDepth t x' y' b u v (by decide) hh rx' ry' w
 have key:=keyM M
 have es:∀ {v:Value} {a c},v=.slice (some a) 0 c->(AV.es).R M v:=λ {v a c} e=>⟨a,c,e⟩
 unfold nilY at h
 split at h <;> simp only [sI,reduceCtorEq] at h
 all_goals subst h
 . rename_i ro z o n
   simp only [AV.R] at rx
   rcases rx with ⟨rfl,_,rfl⟩ | ⟨rfl,_,a,c,rfl,_⟩ | ⟨rfl,b',κ,c,hM,rfl,_⟩
   . exact key .ns .ns hns ry (by simp [eqA,hu])
   . exact key .es .ns (es rfl) ry (by simp [eqA,hu])
   . exact key (.sl _ _ n c false) .ns (by simp only [AV.R];exact ⟨b',κ,hM,rfl⟩) ry (by simp [eqA,hu])
 . rename_i ro z o n
   simp only [AV.R] at ry
   rcases ry with ⟨rfl,_,rfl⟩ | ⟨rfl,_,a,c,rfl,_⟩ | ⟨rfl,b',κ,c,hM,rfl,_⟩
   . exact key .ns .ns rx hns (by simp [eqA,hu])
   . exact key .ns .es rx (es rfl) (by simp [eqA,hu])
   . exact key .ns (.sl _ _ n c false) rx (by simp only [AV.R];exact ⟨b',κ,hM,rfl⟩) (by simp [eqA,hu])
 . simp only [AV.R] at rx
   rcases rx with ⟨rfl,rfl⟩ | ⟨rfl,a,rfl⟩
   . exact key .ns .ns hns ry (by simp [eqA,hu])
   . exact key .es .ns (es rfl) ry (by simp [eqA,hu])
 . simp only [AV.R] at ry
   rcases ry with ⟨rfl,rfl⟩ | ⟨rfl,a,rfl⟩
   . exact key .ns .ns rx hns (by simp [eqA,hu])
   . exact key .ns .es rx (es rfl) (by simp [eqA,hu])
 . simp only [AV.R] at rx
   rcases rx with ⟨rfl,_,rfl⟩ | ⟨rfl,_,a,c,rfl,_⟩ | ⟨rfl,_,b',off,c,cs,rfl,_⟩
   . exact key .ns .ns hns ry (by simp [eqA,hu])
   . exact key .es .ns (es rfl) ry (by simp [eqA,hu])
   . exact keyM ⟨λ _=>some (b',0),λ _=>none⟩ (.sl 0 _ _ c false) .ns (by simp only [AV.R];exact ⟨b',0,rfl,rfl⟩) ry (by simp [eqA,hu])
 . simp only [AV.R] at ry
   rcases ry with ⟨rfl,_,rfl⟩ | ⟨rfl,_,a,c,rfl,_⟩ | ⟨rfl,_,b',off,c,cs,rfl,_⟩
   . exact key .ns .ns rx hns (by simp [eqA,hu])
   . exact key .ns .es rx (es rfl) (by simp [eqA,hu])
   . exact keyM ⟨λ _=>some (b',0),λ _=>none⟩ .ns (.sl 0 _ _ c false) rx (by simp only [AV.R];exact ⟨b',0,rfl,rfl⟩) (by simp [eqA,hu])
end
section
variable {P : Program} {M : Mp}
theorem eqY_ok:∀ (d D:Nat) (t:TypeId) (x y:AV) (b:Bool) (u v:Value),d<=D->eqY P d t x y=some b->x.R M u->y.R M v->∀ w,(Op.equalIn D t u v).run P w=.ok b w:=by
 intro d
 induction d with
 | zero=>intro D t x y b u v _ h;simp [eqY] at h
 | succ d ih=>
   intro D t x y b u v hD h rx ry w
   simp only [eqY] at h
   split at h
   . rename_i b' he
     simp only [sI] at h;subst h
     exact eqA_ok (d + 1) D t x y _ u v hD he rx ry w
   rename_i hnone
   obtain ⟨D,rfl⟩:∃ D',D=D' + 1:=⟨D - 1,by omega⟩
   split at h
   . rename_i hu
     split at h
     . rename_i a c ha hc
       simp only [sI] at h;subst h
       rw [yB_ok ha rx,yB_ok hc ry]
       exact run_equalIn_bool' w D t _ _ hu
     . cases h
   . rename_i k0 hu
     split at h
     . rename_i k a k' c ha hc
       cases hk:eqK k k' with
       | false=>rw [hk] at h;cases h
       | true=>
         rw [hk,cond_true,sI] at h;subst h
         rw [yI_ok ha rx,yI_ok hc ry,eqK_eq hk,run_equalIn_int w D t k' _ _ _ hu,yEq]
         congr 1
     . cases h
   . rename_i hu
     split at h
     . rename_i a c ha hc
       simp only [sI] at h;subst h
       rw [yS_ok ha rx,yS_ok hc ry,run_equalIn_string w D t _ _ hu,ByteArray.toList_eq,ByteArray.toList_eq,ySEq,eqS_eq]
     . cases h
   . rename_i fs xs ys hu
     obtain ⟨us,r1,rfl⟩:=R_agg rx
     obtain ⟨vs,r2,rfl⟩:=R_agg ry
     cases hp:P.stoodInHeld t with
     | true=>simp [hp] at h
     | false=>
       rw [hp,cond_false] at h
       have hf:P.fieldsOf t=fs:=by simp [Program.fieldsOf,hu]
       rw [run_equalIn_struct w D t us.toArray vs.toArray (by rw [hf];exact hu) hp,hf]
       generalize fs.toList=l at h ⊢
       induction l generalizing w b with
       | nil=>simp only [List.foldr_nil,sI] at h;subst h;simp [Op.eqFields]
       | cons f l ihl=>
         simp only [List.foldr_cons] at h
         simp only [Op.eqFields]
         by_cases hn : f.name = "_"
         . simp only [hn,beq_self_eq_true,cond_true] at h
           simp only [hn,ne_eq,not_true_eq_false,if_false]
           exact ihl b w h
         · have hb : (f.name == "_") = false := by simp [hn]
           rw [hb,cond_false] at h
           simp only [ne_eq,hn,not_false_eq_true,if_true,Sem.run_bind]
           split at h
           . rename_i pa pb ha hb'
             obtain ⟨ua,e1,q1⟩:=part_ok ha r1
             obtain ⟨ub,e2,q2⟩:=part_ok hb' r2
             rw [e1 w,Result.andThen_ok,e2 w,Result.andThen_ok]
             split at h
             . rename_i r r' he hk
               simp only [sI] at h;subst h
               rw [ih D f.type pa pb r ua ub (by omega) he q1 q2 w,Result.andThen_ok]
               cases r
               . simp [yAnd]
               . simp only [Bool.not_true,Bool.false_eq_true,if_false,yAnd,Bool.true_and]
                 exact ihl r' w hk
             . cases h
           . cases h
   . cases h
theorem binY_ok {op:BinOp}{t:TypeId}{x y v:AV}{X Y:Operand}{a b:Value}(h:(binY P op t x y).sel=some v)(rx:x.R M a)(ry:y.R M b):
 ∃ u,(∀ w,(eqGuard op t X Y a b >>= λ _=>binOp op t a b).run P w=.ok u w)/\v.R M u:=by
 unfold binY at h
 split at h
 . obtain ⟨us,r1,rfl⟩:=R_agg rx
   obtain ⟨vs,r2,rfl⟩:=R_agg ry
   cases hgf:guardFree P t with
   | false=>rw [hgf] at h;cases h
   | true=>
     rw [hgf,cond_true] at h
     have hm:P.eqGuardType P.depth t=false:=by simpa [guardFree] using hgf
     cases op <;> first | (cases h;done) | skip
     . simp only at h
       split at h
       . rename_i e he
         obtain rfl:=T.sel_ret h
         refine ⟨.bool e,λ w=>?_,rfl⟩
         have:=eqY_ok 64 Op.maxDepth t _ _ e _ _ (by decide) he rx ry w
         simp [run_eqGuard_agg w .eql t X Y us.toArray vs.toArray hm,binOp,Op.equal,this]
       . cases h
     . simp only at h
       split at h
       . rename_i e he
         obtain rfl:=T.sel_ret h
         refine ⟨.bool !e,λ w=>?_,rfl⟩
         have:=eqY_ok 64 Op.maxDepth t _ _ e _ _ (by decide) he rx ry w
         simp [run_eqGuard_agg w .neq t X Y us.toArray vs.toArray hm,binOp,Op.equal,this]
       . cases h
 . split at h
   . rename_i k n k' m ha hb
     obtain rfl:=yI_ok ha rx
     obtain rfl:=yI_ok hb ry
     have hg:=λ w=>guard_none (P:=P) (op:=op) (t:=t) (X:=X) (Y:=Y) (u:=.int k n) (v:=.int k' m) (by simp) (by simp) w
     have key:∃ u,(∀ w,(binOp op t (.int k n) (.int k' m)).run P w=.ok u w)/\v.R M u:=by
      split at h
      . exact shiftY_ok h
      . exact shiftY_ok h
      . cases hk:eqK k k' with
        | false=>rw [hk] at h;cases h
        | true=>
          rw [hk,cond_true] at h
          obtain rfl:=eqK_eq hk
          exact intY_ok h
     obtain ⟨u,h1,h2⟩:=key
     exact ⟨u,λ w=>by simp [hg,h1],h2⟩
   . split at h
     . rename_i p q ha hb
       obtain rfl:=yB_ok ha rx
       obtain rfl:=yB_ok hb ry
       have hg:=λ w=>guard_none (P:=P) (op:=op) (t:=t) (X:=X) (Y:=Y) (u:=.bool p) (v:=.bool q) (by simp) (by simp) w
       cases op <;> first | (cases h;done) | skip
       . simp only at h
         split at h
         . rename_i hu
           obtain rfl:=T.sel_ret h
           refine ⟨.bool (p == q),λ w=>?_,rfl⟩
           have:(Op.equalIn (9999 + 1) t (.bool p) (.bool q)).run P w=.ok (p == q) w:=run_equalIn_bool' w 9999 t p q hu
           simp [hg,binOp,Op.equal,Op.maxDepth,this]
         . cases h
       . simp only at h
         split at h
         . rename_i hu
           obtain rfl:=T.sel_ret h
           refine ⟨.bool (!(p == q)),λ w=>?_,rfl⟩
           have:(Op.equalIn (9999 + 1) t (.bool p) (.bool q)).run P w=.ok (p == q) w:=run_equalIn_bool' w 9999 t p q hu
           simp [hg,binOp,Op.equal,Op.maxDepth,this]
         . cases h
     . split at h
       . rename_i p q ha hb
         obtain rfl:=yS_ok ha rx
         obtain rfl:=yS_ok hb ry
         have hg:=λ w=>guard_none (P:=P) (op:=op) (t:=t) (X:=X) (Y:=Y) (u:=.string ⟨p.toArray⟩) (v:=.string ⟨q.toArray⟩) (by simp) (by simp) w
         obtain ⟨u,h1,h2⟩:=strY_ok (P:=P) (M:=M) (t:=t) h
         exact ⟨u,λ w=>by simp [hg,h1],h2⟩
       . split at h
         . rename_i e z hu hn
           have he:=ptr_nil hn hu rx ry
           have hsl:(∃ p n c,a=.slice p n c):=by
            unfold nilY at hn
            split at hn <;> try simp only [AV.R] at rx
            . rcases rx with ⟨_,_,rfl⟩ | ⟨_,_,_,_,rfl,_⟩ | ⟨_,_,_,_,_,rfl,_⟩ <;> exact ⟨_,_,_,rfl⟩
            . subst rx;exact ⟨_,_,_,rfl⟩
            . rcases rx with ⟨_,rfl⟩ | ⟨_,_,rfl⟩ <;> exact ⟨_,_,_,rfl⟩
            . subst rx;exact ⟨_,_,_,rfl⟩
            . rcases rx with ⟨_,_,rfl⟩ | ⟨_,_,_,_,rfl,_⟩ | ⟨_,_,_,_,_,_,rfl,_⟩ <;> exact ⟨_,_,_,rfl⟩
            . subst rx;exact ⟨_,_,_,rfl⟩
            . cases hn
           obtain ⟨p,n,c,rfl⟩:=hsl
           have hg:=λ w=>guard_none (P:=P) (op:=op) (t:=t) (X:=X) (Y:=Y) (u:=.slice p n c) (v:=b) (by simp) (by simp) w
           cases op <;> first | (cases h;done) | skip
           . obtain rfl:=T.sel_ret h
             exact ⟨.bool z,λ w=>by simp [hg,binOp,he],rfl⟩
           . obtain rfl:=T.sel_ret h
             exact ⟨.bool !z,λ w=>by simp [hg,binOp,he],rfl⟩
         . cases h
theorem enumT_ok {α:Type}{x:Int}{f:Nat->T α}{v:α}:∀ {n m:Nat},(enumT x n m f).sel=some v->∃ i,m<=i/\i < m + n/\x=i/\(f i).sel=some v
 | 0,m,h=>by cases h
 | n + 1,m,h=>by
   rcases T.sel_br h with ⟨h1,h2⟩ | ⟨h1,h2⟩
   . exact ⟨m,Nat.le_refl _,by omega,by simpa [yEq] using h1,h2⟩
   . obtain ⟨i,q1,q2,q3,q4⟩:=enumT_ok h2
     exact ⟨i,by omega,by omega,q3,q4⟩
theorem yIn_ok {x:Int}{n:Nat}(h:yIn x n=true):0<=x/\x < n:=by simpa [yIn] using h
theorem strideL_get {c:List AV}{z:Nat}:∀ {f j q:Nat} {a:AV},(strideL c z f j)[q]?=some a->nthA c (j + q * z)=some a
 | 0,_,q,_,h=>by simp [strideL] at h
 | f + 1,j,q,a,h=>by
   unfold strideL at h
   split at h
   . rename_i x hx
     cases q with
     | zero=>simp at h;subst h;rw [Nat.zero_mul];exact hx
     | succ q=>
       have:=strideL_get (f:=f) (j:=j + z) (q:=q) (a:=a) (by simpa using h)
       rwa [show j + z + q * z=j + (q + 1) * z by rw [Nat.add_mul,Nat.one_mul];omega] at this
   . simp at h
theorem bPre_get:∀ {l:List AV} {i:Nat},i < bLen l->∃ a b,l[i]?=some a/\yB a=some b/\yPick i (bPre l)=b
 | [],i,h=>absurd h (Nat.not_lt_zero _)
 | x :: l,i,h=>by
   unfold bLen at h
   split at h
   . rename_i b hb
     cases i with
     | zero=>exact ⟨x,b,rfl,hb,by unfold yPick bPre;rw [hb];rfl⟩
     | succ i=>
       obtain ⟨a,b',h1,h2,h3⟩:=bPre_get (l:=l) (i:=i) (Nat.lt_of_succ_lt_succ h)
       refine ⟨a,b',by simpa using h1,h2,?_⟩
       rw [<- h3];unfold yPick;rw [show bPre (x :: l)=b :: bPre l by rw [bPre,hb]];rfl
   . exact absurd h (Nat.not_lt_zero _)
theorem iPre_get {k:IntKind}:∀ {l:List AV} {i:Nat},i < iLen k l->∃ a n,l[i]?=some a/\yI a=some (k,n)/\yPickI i (iPre k l)=n
 | [],i,h=>absurd h (Nat.not_lt_zero _)
 | x :: l,i,h=>by
   unfold iLen at h
   split at h
   . rename_i k' n hb
     cases hk:eqK k k' with
     | false=>rw [hk] at h;exact absurd h (Nat.not_lt_zero _)
     | true=>
       obtain rfl:=eqK_eq hk
       rw [hk,cond_true] at h
       have he:iPre k (x :: l)=n :: iPre k l:=by rw [iPre,hb];simp only [hk,cond_true]
       cases i with
       | zero=>exact ⟨x,n,rfl,hb,by unfold yPickI;rw [he];rfl⟩
       | succ i=>
         obtain ⟨a,b',h1,h2,h3⟩:=iPre_get (k:=k) (l:=l) (i:=i) (Nat.lt_of_succ_lt_succ h)
         refine ⟨a,b',by simpa using h1,h2,?_⟩
         rw [<- h3];unfold yPickI;rw [he];rfl
   . exact absurd h (Nat.not_lt_zero _)
theorem pickA_ok {i:Nat}{l:List AV}{v:AV}(h:(pickA i l).sel=some v):∃ a,l[i]?=some a/\∀ u,a.R M u->v.R M u:=by
 unfold pickA at h
 split at h
 . cases h
 . split at h
   . obtain ⟨h1,h2⟩:=T.sel_must h
     obtain rfl:=T.sel_ret h2
     obtain ⟨a,b,q1,q2,q3⟩:=bPre_get (of_decide_eq_true h1)
     exact ⟨a,q1,λ u ru=>by rw [q3];simp only [AV.R];exact yB_ok q2 ru⟩
   . split at h
     . obtain ⟨h1,h2⟩:=T.sel_must h
       obtain rfl:=T.sel_ret h2
       obtain ⟨a,b,q1,q2,q3⟩:=iPre_get (of_decide_eq_true h1)
       exact ⟨a,q1,λ u ru=>by rw [q3];simp only [AV.R];exact yI_ok q2 ru⟩
     . cases h
theorem pickS_ok {c:List AV}{vs:List Value}{z i j f:Nat}{v:AV}(h:(pickA i (strideL c z f j)).sel=some v)(r:AV.RL M c vs):∃ u,vs[i * z + j]?=some u/\v.R M u:=by
 obtain ⟨a,h1,h2⟩:=pickA_ok (M:=M) h
 obtain ⟨u,q1,q2⟩:=nthA_get (strideL_get h1) r
 exact ⟨u,by rw [Nat.add_comm];exact q1,h2 u q2⟩
theorem pickN_ok {c:List AV}{vs:List Value}{z i:Nat}(r:AV.RL M c vs):∀ {m j:Nat} {l:List AV},(pickN c z i m j).sel=some l->∃ us,us.length=m/\AV.RL M l us/\∀ k u,us[k]?=some u->vs[i * z + j + k]?=some u
 | 0,j,l,h=>by
   obtain rfl:=T.sel_ret h
   exact ⟨[],rfl,rfl,λ k u e=>by simp at e⟩
 | m + 1,j,l,h=>by
   unfold pickN at h
   obtain ⟨a,h1,h⟩:=T.sel_bind_some h
   obtain ⟨l',h2,h⟩:=T.sel_bind_some h
   obtain rfl:=T.sel_ret h
   obtain ⟨u,q1,q2⟩:=pickS_ok h1 r
   obtain ⟨us,p1,p2,p3⟩:=pickN_ok r h2
   refine ⟨u :: us,by simp [p1],by simp only [AV.RL];exact ⟨u,us,q2,p2,rfl⟩,λ k u' e=>?_⟩
   cases k with
   | zero=>simp at e;subst e;exact q1
   | succ k=>have:=p3 k u' (by simpa using e);rwa [show i * z + Nat.succ j + k=i * z + j + (k + 1) by omega] at this
theorem indexAddrY_ok {t:TypeId}{x ix v:AV}{y iy:Value}(h:(indexAddrY P t x ix).sel=some v)(rx:x.R M y)(ri:ix.R M iy):∃ u,(∀ w,(Instr.indexAt t y iy).run P w=.ok u w)/\v.R M u:=by
 unfold indexAddrY at h
 split at h
 . cases h
 . rename_i iz i hix
   obtain ⟨⟨k,rfl⟩,hnat⟩:=yIx_ok hix ri
   split at h
   . rename_i e ro nil id z o n hu
     split at h
     . rename_i z' hz
       simp only [nbeq,Bool.cond_decide] at h
       split at h
       . rename_i hzz;subst hzz
         obtain ⟨h1,h2⟩:=T.sel_must h
         obtain rfl:=T.sel_ret h2
         obtain ⟨h3,h4⟩:=yIn_ok h1
         have hi:=hnat h3
         have hlt:i < n:=by omega
         have hiz:iz=(i:Int):=by omega
         subst hiz
         simp only [AV.R] at rx
         rcases rx with ⟨_,rfl,_⟩ | ⟨_,rfl,_⟩ | ⟨_,b,κ,c,hM,rfl,_⟩
         . omega
         . omega
         . refine ⟨.pointer (some ⟨b,(if ro=true then κ else 0) + o * z + i * z,none⟩),λ w=>?_,?_⟩
           . simp [Instr.indexAt,asIntOf,run_underlying hu,hlt,sizeT_ok hz,addr_add]
           . simp only [AV.R]
             refine ⟨b,κ,hM,?_⟩
             simp only [yNadd,Nat.add_mul,Nat.add_zero,Nat.add_assoc]
       . cases h
     . cases h
   . rename_i e x' nil z n f hu
     split at h
     . rename_i z' hz
       simp only [nbeq,Bool.cond_decide] at h
       split at h
       . rename_i hzz;subst hzz
         obtain ⟨h1,h2⟩:=T.sel_must h
         obtain rfl:=T.sel_ret h2
         obtain ⟨h3,h4⟩:=yIn_ok h1
         have hi:=hnat h3
         have hlt:i < n:=by omega
         have hiz:iz=(i:Int):=by omega
         subst hiz
         simp only [AV.R] at rx
         rcases rx with ⟨_,rfl,_⟩ | ⟨_,rfl,_⟩ | ⟨_,_,b,off,c,cs,rfl,_,_,hcs,hc⟩
         . omega
         . omega
         . refine ⟨.pointer (some ⟨b,off + i * z,none⟩),λ w=>?_,?_⟩
           . simp [Instr.indexAt,asIntOf,run_underlying hu,hlt,sizeT_ok hz,addr_add]
           . simp only [AV.R]
             exact ⟨b,off + i * z,cs,rfl,hcs,λ q hq=>hc i hlt q hq⟩
       . cases h
     . cases h
   . rename_i e nil id z n hu
     split at h
     . rename_i z' hz
       simp only [nbeq,Bool.cond_decide] at h
       split at h
       . rename_i hzz;subst hzz
         obtain ⟨h1,h2⟩:=T.sel_must h
         obtain rfl:=T.sel_ret h2
         obtain ⟨h3,h4⟩:=yIn_ok h1
         have hi:=hnat h3
         have hlt:i < n:=by omega
         have hiz:iz=(i:Int):=by omega
         subst hiz
         simp only [AV.R] at rx
         rcases rx with ⟨_,rfl,_⟩ | ⟨_,b,κ,c,hM,rfl,_⟩
         . omega
         . refine ⟨.pointer (some ⟨b,0 + i * z,none⟩),λ w=>?_,?_⟩
           . simp [Instr.indexAt,asIntOf,run_underlying hu,hlt,sizeT_ok hz,addr_add]
           . simp only [AV.R]
             exact ⟨b,κ,hM,by simp⟩
       . cases h
     . cases h
   . rename_i e id off len cap un hu
     split at h
     . rename_i z hz
       obtain ⟨j,_,hj,rfl,hs⟩:=enumT_ok h
       obtain rfl:=T.sel_ret hs
       have hj:j < len:=by omega
       simp only [AV.R] at rx
       obtain ⟨b,c,hM,rfl⟩:=rx
       refine ⟨.pointer (some ⟨b,off + j * z,none⟩),λ w=>?_,by simp only [AV.R];exact ⟨b,c,hM,rfl⟩⟩
       simp [Instr.indexAt,asIntOf,run_underlying hu,hj,sizeT_ok hz,addr_add]
     . cases h
   . rename_i len e id off hu
     split at h
     . rename_i z hz
       simp only [Bool.cond_eq_ite] at h
       split at h
       . obtain ⟨j,_,hj,rfl,hs⟩:=enumT_ok h
         obtain rfl:=T.sel_ret hs
         have hj:j < len:=by omega
         simp only [AV.R] at rx
         obtain ⟨b,c,hM,rfl⟩:=rx
         refine ⟨.pointer (some ⟨b,off + j * z,none⟩),λ w=>?_,by simp only [AV.R];exact ⟨b,c,hM,rfl⟩⟩
         simp [Instr.indexAt,asIntOf,run_underlying hu,hj,sizeT_ok hz,addr_add,Instr.sureAddr]
       . obtain ⟨h1,h2⟩:=T.sel_must h
         obtain rfl:=T.sel_ret h2
         obtain ⟨h3,h4⟩:=yIn_ok h1
         have hi:=hnat h3
         have hlt:i < len:=by omega
         have hiz:iz=(i:Int):=by omega
         subst hiz
         simp only [AV.R] at rx
         obtain ⟨b,c,hM,rfl⟩:=rx
         refine ⟨.pointer (some ⟨b,off + i * z,none⟩),λ w=>?_,by simp only [AV.R];exact ⟨b,c,hM,by simp [Nat.add_comm]⟩⟩
         simp [Instr.indexAt,asIntOf,run_underlying hu,hlt,sizeT_ok hz,addr_add,Instr.sureAddr]
     . cases h
   . cases h
theorem indexY_ok {t:TypeId}{x ix v:AV}{y iy:Value}(h:(indexY P t x ix).sel=some v)(rx:x.R M y)(ri:ix.R M iy):∃ u,(∀ w,(Instr.index t y iy).run P w=.ok u w)/\v.R M u:=by
 unfold indexY at h
 split at h
 . cases h
 . rename_i iz i hix
   obtain ⟨⟨k,rfl⟩,hnat⟩:=yIx_ok hix ri
   split at h
   . rename_i len e cs hu
     split at h
     . rename_i z hz
       simp only [Bool.cond_eq_ite] at h
       split at h
       . obtain ⟨j,_,hj,rfl,hs⟩:=enumT_ok h
         rw [T.sel_of] at hs
         have hj:j < len:=by omega
         obtain ⟨us,r1,rfl⟩:=R_agg rx
         obtain ⟨u,h1,h2⟩:=part_ok hs r1
         exact ⟨u,λ w=>by simp [Instr.index,asIntOf,run_underlying hu,hj,sizeT_ok hz,h1],h2⟩
       . obtain ⟨h1,h6⟩:=T.sel_must h
         clear h
         obtain ⟨h3,h4⟩:=yIn_ok h1
         have hi:=hnat h3
         have hlt:i < len:=by omega
         have hiz:iz=(i:Int):=by omega
         subst hiz
         obtain ⟨us,r1,rfl⟩:=R_agg rx
         split at h6
         . rename_i ha
           obtain ⟨l,h2,h5⟩:=T.sel_bind_some h6
           obtain rfl:=T.sel_ret h5
           obtain ⟨ws,q1,q2,q3⟩:=pickN_ok r1 h2
           have hex:List.take z (List.drop (i * z) us)=ws:=by
            refine List.ext_getElem? λ k=>?_
            rw [List.getElem?_take]
            split
            . rename_i hk
              have hk2:k < ws.length:=by omega
              have:=q3 k ws[k] (List.getElem?_eq_getElem hk2)
              rw [List.getElem?_drop,List.getElem?_eq_getElem hk2,<- this];simp
            . rename_i hk
              symm
              exact List.getElem?_eq_none (by omega)
           exact ⟨.agg ws.toArray,λ w=>by simp [Instr.index,asIntOf,run_underlying hu,hlt,sizeT_ok hz,part,aggT_ok ha,hex],by simp only [AV.R];exact ⟨ws,q2,rfl⟩⟩
         . rename_i ha
           obtain ⟨u,q1,q2⟩:=pickS_ok h6 r1
           have q1:us[i * z]?=some u:=q1
           exact ⟨u,λ w=>by simp [Instr.index,asIntOf,run_underlying hu,hlt,sizeT_ok hz,part,aggT_ok ha,q1],q2⟩
         . cases h6
     . cases h
   . rename_i hu
     split at h
     . rename_i l hl
       obtain rfl:=yS_ok hl rx
       obtain ⟨h1,h2⟩:=T.sel_must h
       obtain rfl:=T.sel_ret h2
       obtain ⟨h3,h4⟩:=yIn_ok h1
       have hi:=hnat h3
       simp only [yLen] at h4
       have hlt:i < l.length:=by omega
       have hiz:iz=(i:Int):=by omega
       subst hiz
       have hsz:i < (⟨l.toArray⟩:ByteArray).size:=by simpa [ByteArray.size] using hlt
       have hc2:(⟨l.toArray⟩:ByteArray)[i]?=some (l.getD i 0):=by
        rw [getElem?_pos (⟨l.toArray⟩:ByteArray) i hsz]
        simp only [sI]
        rw [List.getD_eq_getElem?_getD,List.getElem?_eq_getElem hlt,Option.getD_some];rfl
       refine ⟨.int .u8 (l.getD i 0).toNat,λ w=>?_,rfl⟩
       simp [Instr.index,asIntOf,run_underlying hu,hc2]
     . cases h
   . cases h
end
theorem place_ne {p i z q j m:Nat}(hq:q < z)(hj:j + m<=z)(h:p ≠ i):¬ (i * z + j<=p * z + q/\p * z + q < i * z + j + m):=by
 rcases Nat.lt_or_gt_of_ne h with h | h
 . have:=Nat.mul_le_mul_right z (show p + 1<=i from h)
   rw [Nat.add_mul] at this;omega
 . have:=Nat.mul_le_mul_right z (show i + 1<=p from h)
   rw [Nat.add_mul] at this;omega
theorem place_lt {p q z n:Nat}(hp:p < n)(hq:q < z):p * z + q < n * z:=by
 have:=Nat.mul_le_mul_right z (show p + 1<=n from hp)
 rw [Nat.add_mul] at this;omega
theorem list_of {α:Type}{Q:Nat->α->Prop}:∀ (n:Nat),(∀ k,k < n->∃ v,Q k v)->∃ l:List α,l.length=n/\∀ k v,l[k]?=some v->Q k v
 | 0,_=>⟨[],rfl,λ k v h=>by simp at h⟩
 | n + 1,h=>by
   obtain ⟨l,h1,h2⟩:=list_of n (λ k hk=>h k (by omega))
   obtain ⟨v,hv⟩:=h n (by omega)
   refine ⟨l ++ [v],by simp [h1],λ k u hk=>?_⟩
   by_cases hlt:k < l.length
   . rw [List.getElem?_append_left hlt] at hk;exact h2 k u hk
   . rw [List.getElem?_append_right (by omega)] at hk
     have:k=n:=by
      have:=(List.getElem?_eq_some_iff.1 hk).1
      simp at this;omega
     subst this
     simp [h1] at hk;subst hk;exact hv
section
variable {P : Program} {M : Mp}
theorem arr_cell {h:AH}{w:World}{id b κ z n:Nat}{ro:Bool}{e:TypeId}{f:Nat->Nat->AV}(r:Rel M h w)(hg:h.get id=some (.arr ro e z n f))(hM:M id=some (b,κ)):
 ∀ i,i < n->∀ j,j < z->∃ v,(∀ m:World,m.heap=w.heap->m.cell? ⟨b,(if ro then κ else 0) + i * z + j,none⟩=some v)/\v.oneCell'=true/\(f i j).R M v:=λ i hi j hj=>by
 obtain ⟨ob,hb,ho⟩:=Ob_of r hg hM
 cases ro with
 | true=>
   obtain ⟨cs,e',fr,rfl,q⟩:=ho
   obtain ⟨v,h1,h2⟩:=q i hi j hj
   exact ⟨v,λ m hm=>by simp [World.cell?,hm,hb,h1],h2⟩
 | false=>
   obtain ⟨cs,rfl,_,_,q⟩:=ho
   obtain ⟨v,h1,h2⟩:=q i hi j hj
   exact ⟨v,λ m hm=>by simp [World.cell?,hm,hb,h1],h2⟩
theorem cellsF_ok {g:Nat->AV}{R:Nat->Value->Prop}:∀ (m j:Nat),(∀ q,j<=q->q < j + m->∃ v,R q v/\(g q).R M v)->∃ vs,AV.RL M (cellsF g m j) vs/\vs.length=m/\∀ k v,vs[k]?=some v->R (j + k) v
 | 0,j,_=>⟨[],rfl,rfl,λ k v h=>by simp at h⟩
 | m + 1,j,h=>by
   obtain ⟨v,h1,h2⟩:=h j (Nat.le_refl _) (by omega)
   obtain ⟨vs,q1,q2,q3⟩:=cellsF_ok m (j + 1) (λ q a b=>h q (by omega) (by omega))
   refine ⟨v :: vs,by simp only [cellsF,AV.RL];exact ⟨v,vs,h2,q1,rfl⟩,by simp [q2],λ k u hk=>?_⟩
   cases k with
   | zero=>simp at hk;subst hk;exact h1
   | succ k=>have:=q3 k u (by simpa using hk);rwa [show j + 1 + k=j + (k + 1) by omega] at this
theorem partF_ok {w:World}{t:TypeId}{b base z j:Nat}{g:Nat->AV}{v:AV}(hp:partF P t z g j=some v)(hcell:∀ q,q < z->∃ v,(∀ m:World,m.heap=w.heap->m.cell? ⟨b,base + q,none⟩=some v)/\(g q).R M v):
 ∃ u,(∀ m:World,m.heap=w.heap->(Instr.loadAt t (.pointer (some ⟨b,base + j,none⟩))).run P m=.ok u m)/\v.R M u:=by
 unfold partF at hp
 split at hp
 . rename_i ha
   split at hp
   . rename_i m hm
     simp only [nble,Bool.cond_decide] at hp
     split at hp
     . rename_i hle
       simp only [sI] at hp;subst hp
       obtain ⟨vs,q1,q2,q3⟩:=cellsF_ok (M:=M) (g:=g) (R:=λ q v=>∀ m:World,m.heap=w.heap->m.cell? ⟨b,base + q,none⟩=some v) m j (λ q a c=>by
        obtain ⟨v,p1,p2⟩:=hcell q (by omega)
        exact ⟨v,p1,p2⟩)
       refine ⟨.agg vs.toArray,λ m' hm'=>?_,by simp only [AV.R];exact ⟨vs,q1,rfl⟩⟩
       have:=run_loadCells_list (P:=P) m' ⟨b,base + j,none⟩ vs (λ k u hk=>by rw [addr_add,Nat.add_assoc _ j k];exact q3 k u hk m' hm')
       rw [q2] at this
       simp [Instr.loadAt,Instr.sureAddr,loadVar,aggT_ok ha,sizeT_ok hm,this]
     . cases hp
   . cases hp
 . rename_i ha
   simp only [nblt,Bool.cond_decide] at hp
   split at hp
   . rename_i hlt
     simp only [sI] at hp;subst hp
     obtain ⟨v,p1,p2⟩:=hcell j hlt
     refine ⟨v,λ m' hm'=>?_,p2⟩
     simp [Instr.loadAt,Instr.sureAddr,loadVar,aggT_ok ha,p1 m' hm']
   . cases hp
 . cases hp
theorem loadY_ok {h:AH}{w:World}{t:TypeId}{a v:AV}{x:Value}(hl:(loadY P h t a).sel=some v)(ra:a.R M x)(r:Rel M h w):
 ∃ u,(∀ m:World,m.heap=w.heap->((asAddr x).run P m=(Instr.sureAddr x).run P m)/\(Instr.loadAt t x).run P m=.ok u m)/\v.R M u:=by
 unfold loadY at hl
 split at hl
 . rename_i ro id z i j
   simp only [AV.R] at ra
   obtain ⟨b,κ,hM,rfl⟩:=ra
   split at hl
   . rename_i ro' e z' n f hg
     cases hc:((ro == ro') && Nat.beq z z') with
     | false=>rw [hc] at hl;cases hl
     | true=>
       rw [hc,cond_true] at hl
       simp only [Bool.and_eq_true,beq_iff_eq,nbeq,decide_eq_true_eq] at hc
       obtain ⟨rfl,rfl⟩:=hc
       split at hl
       . rename_i v' hp
         obtain ⟨h1,h2⟩:=T.sel_must hl
         obtain rfl:=T.sel_ret h2
         have hi:i < n:=of_decide_eq_true h1
         have hcell:=arr_cell r hg hM i hi
         obtain ⟨u,q1,q2⟩:=partF_ok (P:=P) (M:=M) (w:=w) hp (λ q hq=>by obtain ⟨v,p1,_,p2⟩:=hcell q hq;exact ⟨v,p1,p2⟩)
         exact ⟨u,λ m hm=>⟨rfl,q1 m hm⟩,q2⟩
       . cases hl
   . rename_i c e hg
     cases ro with
     | true=>cases hl
     | false=>
     obtain ⟨ob,hb,vs,rest,rl,rfl,rfl⟩:=Ob_of r hg hM
     rw [List.append_nil] at hb
     have hcell:∀ (m:World),m.heap=w.heap->∀ q u,vs[q]?=some u->m.cell? ⟨b,q,none⟩=some u:=λ m hm q u hq=>by simp [World.cell?,hm,hb,hq]
     rw [cond_false] at hl
     split at hl
     . rename_i ha
       split at hl
       . rename_i m hm
         obtain ⟨l,h1,h2⟩:=T.sel_bind_some hl
         obtain rfl:=T.sel_ret h2
         obtain ⟨us,q1,q2,q3⟩:=pickN_ok rl h1
         refine ⟨.agg us.toArray,λ m' hm'=>⟨rfl,?_⟩,by simp only [AV.R];exact ⟨us,q2,rfl⟩⟩
         have:=run_loadCells_list (P:=P) m' ⟨b,0 + i * z + j,none⟩ us (λ k u hk=>by rw [addr_add,Nat.zero_add];exact hcell m' hm' _ _ (q3 k u hk))
         rw [q1] at this
         simp [Instr.loadAt,Instr.sureAddr,loadVar,aggT_ok ha,sizeT_ok hm] at this ⊢
         simp [this]
       . cases hl
     . rename_i ha
       obtain ⟨u,q1,q2⟩:=pickS_ok hl rl
       refine ⟨u,λ m' hm'=>⟨rfl,?_⟩,q2⟩
       have:=hcell m' hm' _ _ q1
       simp [Instr.loadAt,Instr.sureAddr,loadVar,aggT_ok ha,this]
     . cases hl
   . cases hl
 . rename_i z j g
   simp only [AV.R] at ra
   obtain ⟨b,off,cs,rfl,hz,hc⟩:=ra
   split at hl
   . rename_i v' hp
     obtain rfl:=T.sel_ret hl
     obtain ⟨e,fr,hb⟩:=r.fz b cs hz
     obtain ⟨u,q1,q2⟩:=partF_ok (P:=P) (M:=M) (w:=w) (b:=b) (base:=off) hp (λ q hq=>by
      obtain ⟨v,p1,_,p2⟩:=hc q hq
      exact ⟨v,λ m hm=>by simp [World.cell?,hm,hb,p1],p2⟩)
     exact ⟨u,λ m hm=>⟨rfl,q1 m hm⟩,q2⟩
   . cases hl
 . cases hl
theorem row_get {cs us:List Value}{o k:Nat}(h:o + us.length<=cs.length):(cs.take o ++ us ++ cs.drop (o + us.length))[k]?=if o<=k/\k < o + us.length then us[k - o]? else cs[k]?:=by
 split
 . rename_i hk
   rw [List.append_assoc,List.getElem?_append_right (by simp;omega),List.getElem?_append_left (by simp;omega)]
   congr 1;simp;omega
 . rename_i hk
   by_cases h1:k < o
   . rw [List.append_assoc,List.getElem?_append_left (by simp;omega),List.getElem?_take,if_pos h1]
   . rw [List.getElem?_append_right (by simp;omega),List.getElem?_drop]
     congr 1;simp;omega
theorem mapI_R {f:Nat->AV->AV}:∀ {l:List AV} {us vs:List Value} {p:Nat},AV.RL M l us->vs.length=us.length->(∀ q a u v,l[q]?=some a->us[q]?=some u->a.R M u->vs[q]?=some v->(f (p + q) a).R M v)->AV.RL M (mapI f p l) vs
 | [],us,vs,p,r,hl,_=>by simp only [AV.RL] at r;subst r;simp only [mapI,AV.RL];simpa using hl
 | a :: l,us,vs,p,r,hl,h=>by
   simp only [AV.RL] at r
   obtain ⟨u,us',r1,r2,rfl⟩:=r
   cases vs with
   | nil=>simp at hl
   | cons v vs'=>
     simp only [mapI,AV.RL]
     refine ⟨v,vs',h 0 a u v rfl rfl r1 rfl,mapI_R (us:=us') r2 (by simpa using hl) (λ q a' u' v' e1 e2 e3 e4=>?_),rfl⟩
     have:=h (q + 1) a' u' v' (by simpa using e1) (by simpa using e2) e3 (by simpa using e4)
     rwa [show Nat.succ p + q=p + (q + 1) by omega]
theorem kLen_get {v:AV}:∀ {l:List AV} {i:Nat},i < kLen v l->∃ a,l[i]?=some a
 | [],i,h=>absurd h (Nat.not_lt_zero _)
 | x :: l,i,h=>by
   unfold kLen at h
   cases hk:sameK v x with
   | false=>rw [hk] at h;exact absurd h (Nat.not_lt_zero _)
   | true=>
     rw [hk,cond_true] at h
     cases i with
     | zero=>exact ⟨x,rfl⟩
     | succ i=>obtain ⟨a,ha⟩:=kLen_get (l:=l) (i:=i) (Nat.lt_of_succ_lt_succ h);exact ⟨a,by simpa using ha⟩
theorem minN2_lt {i a b:Nat}(h:i < minN2 a b):i < a/\i < b:=by
 unfold minN2 at h
 rw [nble] at h
 simp only [Bool.cond_decide] at h
 split at h <;> omega
theorem rowsN_get {c:List AV}{z i:Nat}:∀ {l:List AV} {j:Nat},i < rowsN c z l j->∀ r,r < l.length->∃ a,nthA c (i * z + j + r)=some a
 | [],_,_,r,hr=>absurd hr (Nat.not_lt_zero _)
 | v :: l,j,h,r,hr=>by
   unfold rowsN at h
   obtain ⟨h1,h2⟩:=minN2_lt h
   cases r with
   | zero=>
     obtain ⟨a,ha⟩:=kLen_get h1
     have:=strideL_get ha
     exact ⟨a,by rwa [show i * z + j + 0=j + i * z by omega]⟩
   | succ r=>
     obtain ⟨a,ha⟩:=rowsN_get h2 r (by simpa using hr)
     exact ⟨a,by rwa [show i * z + Nat.succ j + r=i * z + j + (r + 1) by omega] at ha⟩
theorem nthA_len:∀ {l:List AV} {n:Nat} {a:AV},nthA l n=some a->n < l.length
 | [],n,a,h=>by simp [nthA_nil] at h
 | x :: l,0,a,_=>by simp
 | x :: l,n + 1,a,h=>by
   simp only [nthA_cons] at h
   have:=nthA_len h
   simp;omega
theorem nthA_lt2:∀ {l:List AV} {k:Nat},k < l.length->∃ a,nthA l k=some a
 | [],k,h=>by simp at h
 | a :: l,0,_=>⟨a,rfl⟩
 | a :: l,k + 1,h=>nthA_lt2 (l:=l) (k:=k) (by simpa using h)
theorem storeY_ok {h h':AH}{w:World}{t:TypeId}{a v:AV}{x y:Value}(hl:(storeY P h t a v).sel=some h')(ra:a.R M x)(rv:v.R M y)(r:Rel M h w):
 ∃ w',(Instr.storeAt t x y).run P w=.ok () w'/\Rel M h' w'/\Fr h h' M M w w'/\Ab h h':=by
 unfold storeY at hl
 split at hl
 . rename_i id z i j
   simp only [AV.R] at ra
   obtain ⟨b,κ,hM,rfl⟩:=ra
   split at hl
   . rename_i e z' n f hg
     split at hl
     . rename_i m hm
       cases hc:(Nat.beq z z' && Nat.beq (cellsA v).length m && Nat.ble (j + m) z && allCell (cellsA v)) with
       | false=>rw [hc] at hl;cases hl
       | true=>
         rw [hc,cond_true] at hl
         simp only [Bool.and_eq_true,nbeq,nble,decide_eq_true_eq] at hc
         obtain ⟨⟨⟨rfl,hlen⟩,hjm⟩,hall⟩:=hc
         split at hl
         . rename_i h2 hp
           obtain ⟨h1,hs⟩:=T.sel_must hl
           obtain rfl:=T.sel_ret hs
           have hi:i < n:=of_decide_eq_true h1
           obtain ⟨ob,hb,cs,rfl,hsz,hnκ,q⟩:=Ob_of r hg hM
           have rl:=cellsA_R rv
           have hul:=RL_length rl
           have one:=allCell_one rl hall
           have hfit:i * z + j + y.cells.toList.length<=cs.size:=by
            have:=Nat.mul_le_mul_right z (show i + 1<=κ by omega)
            rw [Nat.add_mul] at this
            rw [hsz,hul,hlen];omega
           have hst:=run_storeCells_at P b (i * z + j) e y.cells.toList 0 cs w hb (by simpa using hfit) one
           simp only [Nat.add_zero] at hst
           obtain ⟨row,hrow⟩:∃ row,row=(cs.toList.take (i * z + j) ++ y.cells.toList ++ cs.toList.drop (i * z + j + y.cells.toList.length)).toArray:=⟨_,rfl⟩
           rw [<- hrow] at hst
           refine ⟨w.setRow b row,?_,put_ok r hg hp hM (upd_setRow hb) ⟨row,rfl,?_,hnκ,λ p hp2 c hc=>?_⟩⟩
           . have hys:y.cells.size=m:=by simp at hul;omega
             simp [Instr.storeAt,Instr.sureAddr,storeVar,sizeT_ok hm,hys,hst]
           . rw [hrow];simp;rw [<- hsz];simp at hfit;omega
           . have hg2:row[p * z + c]?=if i * z + j<=p * z + c/\p * z + c < i * z + j + y.cells.toList.length then y.cells.toList[p * z + c - (i * z + j)]? else cs[p * z + c]?:=by
              rw [hrow,List.getElem?_toArray,row_get (by simpa using hfit)];split <;> simp
             rw [hg2]
             obtain ⟨v0,g1,g2,g3⟩:=q p hp2 c hc
             by_cases hpi:p=i
             . subst hpi
               by_cases hcj:j<=c/\c < j + y.cells.toList.length
               . rw [if_pos (by omega)]
                 have hk:p * z + c - (p * z + j)=c - j:=by omega
                 rw [hk]
                 have hlt:c - j < y.cells.toList.length:=by omega
                 refine ⟨y.cells.toList[c - j],by simp,one _ (List.getElem_mem _),?_⟩
                 simp only [setF,nble,Bool.cond_decide,if_pos hcj.1]
                 have hnth:∃ a,nthA (cellsA v) (c - j)=some a/\a.R M (y.cells.toList[c - j]):=by
                  have hlt2:c - j < (cellsA v).length:=by omega
                  have e1:∀ (l:List AV) (k:Nat) (hk:k < l.length),nthA l k=some l[k]:=by
                   intro l
                   induction l with
                   | nil=>intro k hk;simp at hk
                   | cons a l ih=>
                     intro k hk
                     cases k with
                     | zero=>rfl
                     | succ k=>exact ih k (by simpa using hk)
                  refine ⟨_,e1 _ _ hlt2,?_⟩
                  obtain ⟨v1,k1,k2⟩:=nthA_get (e1 _ _ hlt2) rl
                  rw [List.getElem?_eq_getElem hlt] at k1
                  simp only [sI] at k1;rw [k1];exact k2
                 obtain ⟨a,k1,k2⟩:=hnth
                 rw [k1]
                 exact selA_ok _ (by simp only [yNeq,decide_true,cond_true];exact k2)
               . rw [if_neg (by omega)]
                 refine ⟨v0,g1,g2,?_⟩
                 simp only [setF,nble,Bool.cond_decide]
                 split
                 . rename_i hjc
                   have:nthA (cellsA v) (c - j)=none:=by
                    have e1:∀ (l:List AV) (k:Nat),l.length<=k->nthA l k=none:=by
                     intro l
                     induction l with
                     | nil=>intro k hk;rfl
                     | cons a l ih=>
                       intro k hk
                       cases k with
                       | zero=>simp at hk
                       | succ k=>exact ih k (by simpa using hk)
                    exact e1 _ _ (by omega)
                   rw [this];exact g3
                 . exact g3
             . rw [if_neg (by have:=place_ne (i:=i) (j:=j) (m:=y.cells.toList.length) hc (by omega) hpi;exact this)]
               refine ⟨v0,g1,g2,?_⟩
               simp only [setF,nble,Bool.cond_decide]
               split
               . split
                 . exact selA_ok _ (by simp only [yNeq,hpi,decide_false,cond_false];exact g3)
                 . exact g3
               . exact g3
         . cases hl
     . cases hl
   . rename_i c e hg
     split at hl
     . rename_i m hm
       cases hc:(Nat.beq (cellsA v).length m && Nat.ble m z && Nat.ble 1 m && allCell (cellsA v)) with
       | false=>rw [hc] at hl;cases hl
       | true=>
         rw [hc,cond_true] at hl
         simp only [Bool.and_eq_true,nbeq,nble,decide_eq_true_eq] at hc
         obtain ⟨⟨⟨hlen,hmz⟩,hm1⟩,hall⟩:=hc
         split at hl
         . rename_i h2 hp
           obtain ⟨h1,hs⟩:=T.sel_must hl
           obtain rfl:=T.sel_ret hs
           have hi:i < rowsN c z (cellsA v) j:=of_decide_eq_true h1
           obtain ⟨ob,hb,vs,rest,rc,rfl,rfl⟩:=Ob_of r hg hM
           rw [List.append_nil] at hb
           have rl:=cellsA_R rv
           have hul:=RL_length rl
           have one:=allCell_one rl hall
           have hvl:=RL_length rc
           have hz:0 < z:=by omega
           have hfit:i * z + j + y.cells.toList.length<=vs.length:=by
            obtain ⟨a,ha⟩:=rowsN_get hi (m - 1) (by omega)
            have:=nthA_len ha
            omega
           have hst:=run_storeCells_at P b (i * z + j) e y.cells.toList 0 vs.toArray w hb (by simpa using hfit) one
           simp only [Nat.add_zero] at hst
           obtain ⟨row,hrow⟩:∃ row,row=vs.take (i * z + j) ++ y.cells.toList ++ vs.drop (i * z + j + y.cells.toList.length):=⟨_,rfl⟩
           rw [<- hrow] at hst
           refine ⟨w.setRow b row.toArray,?_,put_ok r hg hp hM (upd_setRow hb) ⟨row,[],mapI_R rc ?_ (λ q a u v1 e1 e2 e3 e4=>?_),by rw [List.append_nil],rfl⟩⟩
           . have hys:y.cells.size=m:=by simp at hul;omega
             simp [Instr.storeAt,Instr.sureAddr,storeVar,sizeT_ok hm,hys,hst]
           . rw [hrow];simp only [List.length_append,List.length_take,List.length_drop];omega
           . rw [hrow,row_get hfit] at e4
             rw [Nat.zero_add]
             by_cases hr:i * z + j<=q/\q < i * z + j + y.cells.toList.length
             . rw [if_pos hr] at e4
               obtain ⟨rr,hrr⟩:∃ rr,q=i * z + j + rr:=⟨q - (i * z + j),by omega⟩
               subst hrr
               rw [show i * z + j + rr - (i * z + j)=rr by omega] at e4
               have hrz:rr < z:=by omega
               have hd:i * z + j + rr - j=z * i + rr:=by rw [Nat.mul_comm];omega
               have hdiv:(i * z + j + rr - j) / z=i:=by rw [hd,Nat.mul_add_div hz,Nat.div_eq_of_lt hrz,Nat.add_zero]
               have hmod:(i * z + j + rr - j) % z=rr:=by rw [hd,Nat.mul_add_mod,Nat.mod_eq_of_lt hrz]
               obtain ⟨a2,ha2⟩:=nthA_lt2 (l:=cellsA v) (k:=rr) (by omega)
               obtain ⟨v2,k1,k2⟩:=nthA_get ha2 rl
               rw [k1] at e4
               simp only [sI] at e4;subst e4
               simp only [setC,nble,nblt,Bool.cond_decide,hdiv,hmod,ha2]
               rw [if_pos (by omega),if_pos hi]
               exact selA_ok _ (by simp only [yNeq,decide_true,cond_true];exact k2)
             . rw [if_neg hr,e2] at e4
               simp only [sI] at e4;subst e4
               simp only [setC,nble,nblt,Bool.cond_decide]
               split
               . split
                 . split
                   . rename_i v2 hv2
                     have hlt:=nthA_len hv2
                     have hdm:=Nat.div_add_mod (q - j) z
                     refine selA_ok _ ?_
                     have hne:i ≠ (q - j) / z:=λ e=>hr (by
                      rw [<- e,Nat.mul_comm] at hdm
                      omega)
                     simp only [yNeq,hne,decide_false,cond_false];exact e3
                   . exact e3
                 . exact e3
               . exact e3
         . cases hl
     . cases hl
   . cases hl
 . cases hl
end
section
variable {P : Program} {M : Mp}
theorem yBound_ok {α:Type}{d a n:Nat}{lo:Option AV}{lv:Option Value}{xa:Option Int}{t:T α}{x:α}(h:yBound d lo=some (xa,a))(r:OR M lo lv)(hs:(mustLe xa n t).sel=some x):
 ((lv=none/\a=d) ∨ ∃ k,lv=some (.int k a)/\a<=n)/\t.sel=some x:=by
 unfold yBound at h
 split at h
 . simp only [sI,Prod.mk.injEq] at h
   obtain ⟨rfl,rfl⟩:=h
   simp only [OR] at r
   exact ⟨.inl ⟨r,rfl⟩,hs⟩
 . split at h
   . rename_i v z m hz
     simp only [sI,Prod.mk.injEq] at h
     obtain ⟨rfl,rfl⟩:=h
     simp only [OR] at r
     obtain ⟨u,ru,rfl⟩:=r
     obtain ⟨⟨k,rfl⟩,hn⟩:=yIx_ok hz ru
     obtain ⟨h1,h2⟩:=T.sel_must hs
     obtain ⟨h3,h4⟩:=yIn_ok h1
     have hm:=hn h3
     refine ⟨.inr ⟨k,?_,by omega⟩,h2⟩
     congr 2;omega
   . cases h
theorem bounds_leY {len a b:Nat}{lv hv:Option Value}(h1:(lv=none/\a=0) ∨ ∃ k,lv=some (.int k a)/\a<=b)(h2:(hv=none/\b=len) ∨ ∃ k,hv=some (.int k b)/\b<=len):a<=b/\b<=len:=
 ⟨by rcases h1 with ⟨_,rfl⟩ | ⟨_,_,h⟩ <;> omega,by rcases h2 with ⟨_,rfl⟩ | ⟨_,_,h⟩ <;> omega⟩
theorem bounds_runY {isS:Bool}{len cap a b:Nat}{lv hv:Option Value}(h1:(lv=none/\a=0) ∨ ∃ k,lv=some (.int k a)/\a<=b)(h2:(hv=none/\b=len) ∨ ∃ k,hv=some (.int k b)/\b<=len)(hc:len<=cap)(w:World):
 (Instr.sliceBounds isS len cap lv hv none).run P w=.ok (a,b,cap) w:=by
 obtain ⟨ha,hb⟩:=bounds_leY h1 h2
 rcases h1 with ⟨rfl,rfl⟩ | ⟨k1,rfl,_⟩ <;> rcases h2 with ⟨rfl,rfl⟩ | ⟨k2,rfl,_⟩
 . simp [Instr.sliceBounds]
 . simp [Instr.sliceBounds,sliceBound_run (P:=P) (show b<=cap by omega)]
 . simp [Instr.sliceBounds,sliceBound_run (P:=P) ha]
 . simp [Instr.sliceBounds,sliceBound_run (P:=P) ha,sliceBound_run (P:=P) (show b<=cap by omega)]
theorem cutN_eq {lo:Option AV}{xa:Option Int}{a b:Nat}(h:yBound 0 lo=some (xa,a)):cutN lo a b=b - a:=by
 cases lo with
 | none=>simp only [yBound,sI,Prod.mk.injEq] at h;obtain ⟨_,rfl⟩:=h;rfl
 | some v=>rfl
theorem shY_eq {lo:Option AV}{xa:Option Int}{a:Nat}(f:Nat->Nat->AV)(i j:Nat)(h:yBound 0 lo=some (xa,a)):shY lo a f i j=f (a + i) j:=by
 cases lo with
 | none=>simp only [yBound,sI,Prod.mk.injEq] at h;obtain ⟨_,rfl⟩:=h;simp [shY]
 | some v=>rfl
theorem lst_cut {w0:Bool}{x nil:Bool}{z n a b m:Nat}{f g:Nat->Nat->AV}{p:Option Addr}{c:Nat}(hx:w0=true->m=b)(hg:∀ i j,g i j=f (a + i) j)(hab:a<=b)(hbn:b<=n)(hbm:b<=m)(hmc:m<=c)
 (r:(AV.lst x nil z n f).R M (.slice p n c)):(AV.lst w0 nil z (b - a) g).R M (.slice (if m=a then p else p.map λ q=>q.add (a * z)) (b - a) (m - a)):=by
 simp only [AV.R,Value.slice.injEq] at r ⊢
 rcases r with ⟨rfl,rfl,rfl,_,rfl⟩ | ⟨rfl,rfl,q,c',⟨rfl,_,rfl⟩,_⟩ | ⟨rfl,h0,bb,off,c',cs,⟨rfl,_,rfl⟩,hnc,_,hz,hc⟩
 . refine .inl ⟨rfl,by omega,?_,by omega,by omega⟩
   split <;> rfl
 . have hb0:b - a=0:=by omega
   rw [hb0]
   refine .inr (.inl ⟨rfl,rfl,if m=a then q else q.add (a * z),m - a,⟨?_,rfl,rfl⟩,λ e=>by have:=hx e;omega⟩)
   split <;> simp
 . by_cases hba:b - a=0
   . rw [hba]
     refine .inr (.inl ⟨rfl,rfl,if m=a then ⟨bb,off,none⟩ else Addr.add ⟨bb,off,none⟩ (a * z),m - a,⟨?_,rfl,rfl⟩,λ e=>by have:=hx e;omega⟩)
     split <;> simp
   . refine .inr (.inr ⟨rfl,by omega,bb,off + a * z,m - a,cs,⟨?_,trivial,rfl⟩,by omega,λ e=>by have:=hx e;omega,hz,λ i hi j hj=>?_⟩)
     . rw [if_neg (by omega)];simp [addr_add]
     . obtain ⟨u,q1,q2,q3⟩:=hc (a + i) (by omega) j hj
       refine ⟨u,?_,q2,by rw [hg];exact q3⟩
       rw [<- q1];congr 1;rw [Nat.add_mul];omega
theorem sliceL_ok {t:TypeId}{x v:AV}{y:Value}{lo hi mx:Option AV}{lv hv mv:Option Value}(hs:(sliceL P t x lo hi mx).sel=some v)(rx:x.R M y)(r1:OR M lo lv)(r2:OR M hi hv)(r3:OR M mx mv):
 ∃ u,(∀ m:World,(Instr.sliceAt t y lv hv mv).run P m=.ok u m)/\v.R M u:=by
 unfold sliceL at hs
 split at hs
 case h_2=>cases hs
 rename_i e x nil z n f hu
 split at hs
 case h_2=>cases hs
 rename_i z' xa a xb b hz hl hh
 simp only [nbeq,Bool.cond_decide] at hs
 split at hs
 case isFalse=>cases hs
 rename_i hzz;subst hzz
 obtain ⟨p,c,rfl,hnc,hxc⟩:∃ p c,y=.slice p n c/\n<=c/\(x=true->c=n):=by
  simp only [AV.R] at rx
  rcases rx with ⟨_,rfl,rfl⟩ | ⟨_,rfl,a,c,rfl,hx⟩ | ⟨_,_,bb,off,c,cs,rfl,h1,h2,_⟩
  . exact ⟨_,_,rfl,Nat.le_refl _,λ _=>rfl⟩
  . exact ⟨_,_,rfl,Nat.zero_le _,hx⟩
  . exact ⟨_,_,rfl,h1,h2⟩
 split at hs
 . simp only [OR] at r3;subst r3
   obtain ⟨q2,hs⟩:=yBound_ok hh r2 hs
   obtain ⟨q1,hs⟩:=yBound_ok hl r1 hs
   obtain rfl:=T.sel_ret hs
   have hb:=λ m:World=>bounds_runY (P:=P) (isS:=true) (cap:=c) q1 q2 hnc m
   obtain ⟨l1,l2⟩:=bounds_leY q1 q2
   refine ⟨_,λ m=>by simp [Instr.sliceAt,run_underlying hu,Instr.slice,hb m,sizeT_ok hz];rfl,?_⟩
   rw [cutN_eq hl]
   refine lst_cut (x:=x) (λ e=>?_) (λ i j=>shY_eq f i j hl) l1 l2 (by omega) (Nat.le_refl _) rx
   cases hhi:hi with
   | none=>
     rw [hhi] at e hh
     simp only [yBound,sI,Prod.mk.injEq] at hh
     rw [<- hh.2];exact hxc e
   | some _=>rw [hhi] at e;cases e
 . rename_i mm
   split at hs
   case h_2=>cases hs
   rename_i _ _ xm m vv hix
   simp only [OR] at r3
   obtain ⟨um,rm,rfl⟩:=r3
   obtain ⟨⟨km,rfl⟩,hnat⟩:=yIx_ok hix rm
   obtain ⟨h1,hs⟩:=T.sel_must hs
   obtain ⟨h2,hs⟩:=T.sel_must hs
   obtain ⟨h3,h4⟩:=yIn_ok h1
   have hmn:=hnat h3
   have hbm:b=m:=of_decide_eq_true h2
   obtain ⟨q2,hs⟩:=yBound_ok hh r2 hs
   obtain ⟨q1,hs⟩:=yBound_ok hl r1 hs
   obtain rfl:=T.sel_ret hs
   obtain ⟨l1,l2⟩:=bounds_leY q1 q2
   simp only [OR] at r2
   obtain ⟨uh,_,rfl⟩:=r2
   obtain ⟨kh,hkh⟩:∃ k,uh=.int k b:=by
    rcases q2 with ⟨h,_⟩ | ⟨k,h,_⟩
    . cases h
    . simp only [sI] at h;exact ⟨k,h⟩
   subst hkh
   have hxm:xm=(b:Int):=by omega
   subst hxm
   have hb:∀ w:World,(Instr.sliceBounds true n c lv (some (.int kh b)) (some (.int km b))).run P w=.ok (a,b,b) w:=λ w=>by
    rcases q1 with ⟨rfl,rfl⟩ | ⟨k1,rfl,_⟩
    . simp [Instr.sliceBounds,sliceBound_run (P:=P) (show b<=c by omega),sliceBound_run (P:=P) (Nat.le_refl b)]
    . simp [Instr.sliceBounds,sliceBound_run (P:=P) (show b<=c by omega),sliceBound_run (P:=P) (Nat.le_refl b),sliceBound_run (P:=P) l1]
   refine ⟨_,λ m=>by simp [Instr.sliceAt,run_underlying hu,Instr.slice,hb m,sizeT_ok hz];rfl,?_⟩
   rw [cutN_eq hl]
   exact lst_cut (x:=x) (λ _=>rfl) (λ i j=>shY_eq f i j hl) l1 l2 (Nat.le_refl _) (by omega) rx
theorem sliceY_ok {t:TypeId}{x v:AV}{y:Value}{lo hi mx:Option AV}{lv hv mv:Option Value}(hs:(sliceY P t x lo hi mx).sel=some v)(rx:x.R M y)(r1:OR M lo lv)(r2:OR M hi hv)(r3:OR M mx mv):
 ∃ u,(∀ m:World,(Instr.sliceAt t y lv hv mv).run P m=.ok u m)/\v.R M u:=by
 unfold sliceY at hs
 split at hs
 . exact sliceL_ok hs rx r1 r2 r3
 rename_i hnl
 clear hnl
 split at hs
 . -- x[:0:0]
   rename_i k0
   simp only [OR,AV.R] at r3
   obtain ⟨_,rfl,rfl⟩:=r3
   have main:∀ {e:TypeId} {ro nil:Bool} {id z o n:Nat} {k1:IntKind},P.underlying t=some (.slice e)->(AV.ysl ro nil id z o n).R M y->hv=some (.int k1 0)->(lv=none ∨ ∃ k2,lv=some (.int k2 0))->(match sizeT P e with | some _=>T.ret (AV.ye nil) | none=>T.no).sel=some v →
    ∃ u,(∀ m:World,(Instr.sliceAt t y lv hv (some (.int k0 0))).run P m=.ok u m)/\v.R M u:=by
    intro e ro nil id z o n k1 hu rx hhv hlv hs
    split at hs
    case h_2=>cases hs
    rename_i z' hz
    obtain rfl:=T.sel_ret hs
    subst hhv
    have hsl:∃ p nn c,y=.slice p nn c/\((nil=true/\p=none) ∨ (nil=false/\∃ a,p=some a)):=by
     simp only [AV.R] at rx
     rcases rx with ⟨h,_,rfl⟩ | ⟨h,_,a,c,rfl,_⟩ | ⟨h,b,κ,c,_,rfl,_⟩
     . exact ⟨_,_,_,rfl,.inl ⟨h,rfl⟩⟩
     . exact ⟨_,_,_,rfl,.inr ⟨h,_,rfl⟩⟩
     . exact ⟨_,_,_,rfl,.inr ⟨h,_,rfl⟩⟩
    obtain ⟨p,nn,c,rfl,hp⟩:=hsl
    refine ⟨.slice p 0 0,λ m=>?_,by simp only [AV.R];rcases hp with ⟨h,rfl⟩ | ⟨h,a,rfl⟩;exact .inl ⟨h,rfl⟩;exact .inr ⟨h,a,rfl⟩⟩
    have h0:∀ (k:IntKind) (y:Nat) (code:BoundsCode),(Instr.sliceBound (.int k 0) y code).run P m=.ok 0 m:=λ k y code=>by simpa using sliceBound_run (P:=P) (k:=k) (code:=code) (Nat.zero_le y) m
    rcases hlv with rfl | ⟨k2,rfl⟩ <;> simp [Instr.sliceAt,run_underlying hu,Instr.slice,Instr.sliceBounds,h0,sizeT_ok hz]
   split at hs
   . rename_i e ro nil id z o n k1 hu;exact main (by assumption) rx (by simp only [OR,AV.R] at r2;obtain ⟨_,rfl,rfl⟩:=r2;rfl) (.inl (by simpa [OR] using r1)) hs
   . rename_i e ro nil id z o n k1 k2 hu;exact main (by assumption) rx (by simp only [OR,AV.R] at r2;obtain ⟨_,rfl,rfl⟩:=r2;rfl) (.inr (by simp only [OR,AV.R] at r1;obtain ⟨_,rfl,rfl⟩:=r1;exact ⟨_,rfl⟩)) hs
   . cases hs
 . cases hs
 . simp only [OR] at r3;subst r3
   split at hs
   . rename_i e nil id z o n hu
     split at hs
     . rename_i z' xa a xb b hz hl hh
       simp only [nbeq,Bool.cond_decide] at hs
       split at hs
       . rename_i hzz;subst hzz
         obtain ⟨q2,hs⟩:=yBound_ok hh r2 hs
         obtain ⟨q1,hs⟩:=yBound_ok hl r1 hs
         obtain rfl:=T.sel_ret hs
         simp only [AV.R] at rx
         rcases rx with ⟨rfl,rfl,rfl⟩ | ⟨rfl,rfl,p,c,rfl,_⟩ | ⟨rfl,bb,κ,c,hM,rfl,hnc,_⟩
         . have hb:=λ m:World=>bounds_runY (P:=P) (isS:=true) (cap:=0) q1 q2 (Nat.le_refl _) m
           obtain ⟨l1,l2⟩:=bounds_leY q1 q2
           obtain rfl:b=0:=by omega
           obtain rfl:a=0:=by omega
           exact ⟨.slice none 0 0,λ m=>by simp [Instr.sliceAt,run_underlying hu,Instr.slice,hb m,sizeT_ok hz],.inl ⟨rfl,rfl,rfl⟩⟩
         . have hb:=λ m:World=>bounds_runY (P:=P) (isS:=true) (cap:=c) q1 q2 (Nat.zero_le _) m
           obtain ⟨l1,l2⟩:=bounds_leY q1 q2
           obtain rfl:b=0:=by omega
           obtain rfl:a=0:=by omega
           refine ⟨.slice (if c=0 then some p else some (p.add (0 * z))) 0 c,λ m=>by simp [Instr.sliceAt,run_underlying hu,Instr.slice,hb m,sizeT_ok hz],.inr (.inl ⟨rfl,rfl,?_⟩)⟩
           split
           . exact ⟨_,_,rfl,λ e=>by cases e⟩
           . exact ⟨_,_,rfl,λ e=>by cases e⟩
         . have hb:=λ m:World=>bounds_runY (P:=P) (isS:=true) (cap:=c) q1 q2 hnc m
           obtain ⟨l1,l2⟩:=bounds_leY q1 q2
           by_cases hba:b=a
           . subst hba
             refine ⟨.slice (if c=b then some ⟨bb,(if true=true then κ else 0) + o * z,none⟩ else some ⟨bb,(if true=true then κ else 0) + o * z + b * z,none⟩) (b - b) (c - b),λ m=>by simp [Instr.sliceAt,run_underlying hu,Instr.slice,hb m,sizeT_ok hz,addr_add],.inr (.inl ⟨rfl,by simp [yNsub],?_⟩)⟩
             rw [Nat.sub_self]
             split
             . exact ⟨_,_,rfl,λ e=>by cases e⟩
             . exact ⟨_,_,rfl,λ e=>by cases e⟩
           by_cases hca:c=a
           . subst hca
             refine ⟨.slice (some ⟨bb,(if true=true then κ else 0) + o * z,none⟩) (b - c) (c - c),λ m=>by simp [Instr.sliceAt,run_underlying hu,Instr.slice,hb m,sizeT_ok hz],.inr (.inl ⟨rfl,?_,_,_,by rw [show b - c=0 by omega],λ e=>by cases e⟩)⟩
             simp only [yNsub];omega
           . refine ⟨.slice (some ⟨bb,(if true=true then κ else 0) + o * z + a * z,none⟩) (b - a) (c - a),λ m=>by simp [Instr.sliceAt,run_underlying hu,Instr.slice,hb m,sizeT_ok hz,hca,addr_add],.inr (.inr ⟨rfl,bb,κ,c - a,hM,?_,?_,?_,λ e=>by cases e⟩)⟩
             . simp only [yNsub,yNadd,Nat.add_mul,Nat.add_assoc]
             . simp only [yNsub];omega
             . simp only [yNsub];omega
       . cases hs
     . cases hs
   . rename_i hu
     split at hs
     . rename_i l hlS
       obtain rfl:=yS_ok hlS rx
       split at hs
       . rename_i xa a xb b hl hh
         obtain ⟨q2,hs⟩:=yBound_ok hh r2 hs
         obtain ⟨q1,hs⟩:=yBound_ok hl r1 hs
         obtain rfl:=T.sel_ret hs
         have hsz:(⟨l.toArray⟩:ByteArray).size=l.length:=by simp [ByteArray.size]
         have hb:=λ m:World=>bounds_runY (P:=P) (isS:=false) (cap:=l.length) (len:=l.length) q1 q2 (Nat.le_refl _) m
         refine ⟨.string ((⟨l.toArray⟩:ByteArray).extract a b),λ m=>?_,?_⟩
         . simp [Instr.sliceAt,run_underlying hu,Instr.slice,hsz,hb m]
         . simp only [AV.R,ySlice]
           congr 1
           apply ByteArray.ext
           simp [ByteArray.data_extract]
           try (rw [List.take_drop];congr 1;omega)
       . cases hs
     . cases hs
   . cases hs
end
section
variable {P : Program} {M : Mp}
theorem nthA_lt:∀ {l:List AV} {k:Nat},k < l.length->∃ a,nthA l k=some a
 | [],k,h=>by simp at h
 | a :: l,0,_=>⟨a,rfl⟩
 | a :: l,k + 1,h=>nthA_lt (l:=l) (k:=k) (by simpa using h)
theorem catLit_ok {z:Nat}:∀ (m n:Nat) (f:Option (Nat->Nat->AV)) (new:List AV) (us:List Value),AV.RL M new us->us.length=m * z->(f=none->n=0) →
 (∀ i,i < m->∀ j,j < z->∃ v,us[i * z + j]?=some v/\(orNp (catLit z m n f new) (n + i) j).R M v)/\(∀ f0,f=some f0->∀ i,i < n->∀ j v,(f0 i j).R M v->(orNp (catLit z m n f new) i j).R M v)
 | 0,n,f,new,us,r,hl,hf=>⟨λ i hi=>by omega,λ f0 e i _ j v h=>by subst e;exact h⟩
 | m + 1,n,none,new,us,r,hl,hf=>by
   obtain rfl:=hf rfl
   have hl1:us.length=m * z + z:=by rw [hl,Nat.add_mul];omega
   have hln:=RL_length r
   obtain ⟨i1,i2⟩:=catLit_ok (z:=z) m 1 (some λ _ j=>match nthA new j with | some v=>v | none=>.np) (new.drop z) (us.drop z) (RL_drop z r) (by simp;omega) (λ e=>by cases e)
   refine ⟨λ i hi j hj=>?_,λ f0 e=>by cases e⟩
   cases i with
   | zero=>
     obtain ⟨a,ha⟩:=nthA_lt (l:=new) (k:=j) (by omega)
     obtain ⟨v,h1,h2⟩:=nthA_get ha r
     exact ⟨v,by simpa using h1,i2 _ rfl 0 (by omega) j v (by simp only [ha];exact h2)⟩
   | succ i=>
     obtain ⟨v,h1,h2⟩:=i1 i (by omega) j hj
     rw [List.getElem?_drop] at h1
     refine ⟨v,?_,?_⟩
     . rw [<- h1];congr 1;rw [Nat.add_mul];omega
     . rw [show 0 + (i + 1)=1 + i by omega];exact h2
 | m + 1,n,some f0,new,us,r,hl,hf=>by
   have hl1:us.length=m * z + z:=by rw [hl,Nat.add_mul];omega
   have hln:=RL_length r
   obtain ⟨i1,i2⟩:=catLit_ok (z:=z) m (n + 1) (some λ i j=>match nthA new j with | some v=>selA (yNlt i n) (f0 i j) v | none=>f0 i j) (new.drop z) (us.drop z) (RL_drop z r) (by simp;omega) (λ e=>by cases e)
   refine ⟨λ i hi j hj=>?_,λ f1 e i hi j v h=>?_⟩
   . cases i with
     | zero=>
       obtain ⟨a,ha⟩:=nthA_lt (l:=new) (k:=j) (by omega)
       obtain ⟨v,h1,h2⟩:=nthA_get ha r
       refine ⟨v,by simpa using h1,i2 _ rfl n (by omega) j v ?_⟩
       simp only [ha]
       exact selA_ok _ (by simp only [yNlt,Nat.lt_irrefl,decide_false,cond_false];exact h2)
     | succ i=>
       obtain ⟨v,h1,h2⟩:=i1 i (by omega) j hj
       rw [List.getElem?_drop] at h1
       refine ⟨v,?_,?_⟩
       . rw [<- h1];congr 1;rw [Nat.add_mul];omega
       . rw [show n + (i + 1)=n + 1 + i by omega];exact h2
   . simp only [sI] at e;subst e
     refine i2 _ rfl i (by omega) j v ?_
     cases hn:nthA new j with
     | none=>exact h
     | some a=>exact selA_ok _ (by simp only [yNlt,hi,decide_true,cond_true];exact h)
theorem src_cells {w:World}{z m c b base:Nat}{tx:TypeId}{g0:Nat->Nat->AV}(hz:0 < z)(hk:srcOk (P.underlying tx)=true)
 (hcell:∀ i,i < m->∀ j,j < z->∃ v,(∀ m:World,m.heap=w.heap->m.cell? ⟨b,base + i * z + j,none⟩=some v)/\v.oneCell'=true/\(g0 i j).R M v) :
 ∃ us,Src P z tx (.slice (some ⟨b,base,none⟩) m c) m us w/\us.length=m * z/\∀ i,i < m->∀ j,j < z->∃ v,us[i * z + j]?=some v/\(g0 i j).R M v:=by
 obtain ⟨us,hul,hus⟩:=list_of (Q:=λ k v=>(∀ m:World,m.heap=w.heap->m.cell? ⟨b,base + k,none⟩=some v)/\v.oneCell'=true/\∀ i j,i < m->j < z->k=i * z + j->(g0 i j).R M v) (m * z) (λ k hk=>by
  have hi:k / z < m:=(Nat.div_lt_iff_lt_mul hz).2 hk
  have hj:k % z < z:=Nat.mod_lt _ hz
  obtain ⟨v,q1,q2,q3⟩:=hcell (k / z) hi (k % z) hj
  have hkz:k / z * z + k % z=k:=by rw [Nat.mul_comm];exact Nat.div_add_mod k z
  refine ⟨v,λ m hm=>?_,q2,λ i j hi' hj' e=>?_⟩
  . rw [<- q1 m hm];congr 2;omega
  . have:i=k / z:=by
     by_cases h:i=k / z
     . exact h
     . exfalso;have:=place_ne (i:=k / z) (j:=0) (m:=z) hj' (by omega) h;omega
    subst this
    have:j=k % z:=by omega
    subst this
    exact q3)
 have hone:∀ v ∈ us,v.oneCell'=true:=λ v hv=>by
  obtain ⟨k,hk⟩:=List.mem_iff_getElem?.1 hv
  exact (hus k v hk).2.1
 have h5:∀ j v,us[j]?=some v->w.cell? ((⟨b,base,none⟩:Addr).add j)=some v:=λ j v hj=>by rw [addr_add];exact (hus j v hj).1 w rfl
 have kind:(∃ e',P.underlying tx=some (.slice e')) ∨ P.underlying tx=some .string:=by
  unfold srcOk at hk
  split at hk
  . rename_i e hu;exact .inl ⟨e,hu⟩
  . rename_i hu;exact .inr hu
  . cases hk
 refine ⟨us,⟨kind,λ _=>rfl,run_firstCells_some w z m _ m _ us hul h5,run_firstCells_some w.drew z m _ m _ us hul (by simpa using h5),hul,hone⟩,hul,λ i hi j hj=>?_⟩
 have hlt:i * z + j < us.length:=by rw [hul];exact place_lt hi hj
 exact ⟨us[i * z + j],by simp,(hus (i * z + j) us[i * z + j] (by simp)).2.2 i j hi hj rfl⟩
theorem srcY_ok {h:AH}{w:World}{z n m:Nat}{f:Option (Nat->Nat->AV)}{g:Nat->Nat->AV}{x:AV}{X:Value}{tx:TypeId}(hz:0 < z)(hs:(srcY h z n f x).sel=some (m,g))(rx:x.R M X)(r:Rel M h w)(hk:srcOk (P.underlying tx)=true)(hf:f=none->n=0):
 ∃ us,Src P z tx X m us w/\us.length=m * z/\(∀ i,i < m->∀ j,j < z->∃ v,us[i * z + j]?=some v/\(g (n + i) j).R M v)/\(∀ f0,f=some f0->∀ i,i < n->∀ j v,(f0 i j).R M v->(g i j).R M v):=by
 have lit:∀ {x:AV} {new:List AV},srcA h z x=some (m,new)->x.R M X->allCell new=true->g=orNp (catLit z m n f new)->∃ us,Src P z tx X m us w/\us.length=m * z/\(∀ i,i < m->∀ j,j < z->∃ v,us[i * z + j]?=some v/\(g (n + i) j).R M v)/\(∀ f0,f=some f0->∀ i,i < n->∀ j v,(f0 i j).R M v->(g i j).R M v):=by
  intro x new hsa rx hc hg
  obtain ⟨us,rn,hul,hlen,hS,_⟩:=srcA_ok (P:=P) (tx:=tx) hsa rx r hc
  obtain ⟨q1,q2⟩:=catLit_ok (z:=z) m n f new us rn hul hf
  subst hg
  exact ⟨us,hS hk,hul,q1,q2⟩
 unfold srcY at hs
 split at hs
 . rename_i ro nil id z' o m'
   split at hs
   . rename_i ro' e' z2 k g0 hg
     cases hc:((ro == ro') && Nat.beq z z' && Nat.beq z z2) with
     | false=>rw [hc] at hs;cases hs
     | true=>
       rw [hc,cond_true] at hs
       simp only [Bool.and_eq_true,beq_iff_eq,nbeq,decide_eq_true_eq] at hc
       obtain ⟨⟨rfl,rfl⟩,rfl⟩:=hc
       obtain ⟨h1,h2⟩:=T.sel_must hs
       have h3:=T.sel_ret h2
       simp only [Prod.mk.injEq] at h3
       obtain ⟨rfl,hgg⟩:=h3
       have hle:o + m'<=k:=of_decide_eq_true h1
       have hfg:∀ i,g (n + i)=g0 (o + i) ∨ (∃ f0,f=some f0/\∀ j,g (n + i) j=selA false (f0 (n + i) j) (g0 (o + i) j)):=λ i=>by
        subst hgg
        cases f with
        | none=>obtain rfl:=hf rfl;left;simp only [catF,yNadd,Nat.zero_add]
        | some f0=>
          right
          refine ⟨f0,rfl,λ j=>?_⟩
          simp only [catF,yNlt,yNadd,yNsub]
          rw [show decide (n + i < n)=false by simp,show n + i - n=i by omega]
       have hfl:∀ f0,f=some f0->∀ i,i < n->∀ j v,(f0 i j).R M v->(g i j).R M v:=λ f0 e i hi j v hv=>by
        subst e;subst hgg
        simp only [catF,yNlt]
        exact selA_ok _ (by simp only [hi,decide_true,cond_true];exact hv)
       simp only [AV.R] at rx
       rcases rx with ⟨rfl,rfl,rfl⟩ | ⟨rfl,rfl,p,c,rfl,_⟩ | ⟨rfl,b,κ,c,hM,rfl,hnc,_⟩
       . obtain ⟨us,rn,hul,hlen,hS,_⟩:=srcA_ok (P:=P) (M:=M) (h:=h) (z:=z) (n:=0) (x:=.ns) (new:=[]) (tx:=tx) rfl rfl r rfl
         exact ⟨us,hS hk,by simpa using hul,λ i hi=>by omega,hfl⟩
       . obtain ⟨us,rn,hul,hlen,hS,_⟩:=srcA_ok (P:=P) (M:=M) (h:=h) (z:=z) (n:=0) (x:=.es) (new:=[]) (tx:=tx) rfl (X:=.slice (some p) 0 c) ⟨_,_,rfl⟩ r rfl
         exact ⟨us,hS hk,by simpa using hul,λ i hi=>by omega,hfl⟩
       . have hcell:=arr_cell r hg hM
         obtain ⟨us,hS,hul,hus⟩:=src_cells (P:=P) (M:=M) (w:=w) (m:=m') (c:=c) (b:=b) (base:=(if ro then κ else 0) + o * z) (tx:=tx) (g0:=λ i j=>g0 (o + i) j) hz hk (λ i hi j hj=>by
          obtain ⟨v,q1,q2,q3⟩:=hcell (o + i) (by omega) j hj
          exact ⟨v,λ m hm=>by rw [<- q1 m hm];congr 2;rw [Nat.add_mul];omega,q2,q3⟩)
         refine ⟨us,hS,hul,λ i hi j hj=>?_,hfl⟩
         obtain ⟨v,q1,q2⟩:=hus i hi j hj
         refine ⟨v,q1,?_⟩
         rcases hfg i with e | ⟨f0,_,e⟩
         . rw [e];exact q2
         . rw [e];exact selA_ok _ (by simpa using q2)
   . cases hs
 . rename_i xx nil z' m' g0
   simp only [nbeq,Bool.cond_decide] at hs
   split at hs
   case isFalse=>cases hs
   rename_i hzz;subst hzz
   have h3:=T.sel_ret hs
   simp only [Prod.mk.injEq] at h3
   obtain ⟨rfl,hgg⟩:=h3
   have hfg:∀ i,g (n + i)=g0 i ∨ (∃ f0,f=some f0/\∀ j,g (n + i) j=selA false (f0 (n + i) j) (g0 i j)):=λ i=>by
    subst hgg
    cases f with
    | none=>obtain rfl:=hf rfl;left;simp only [catF,yNadd,Nat.zero_add]
    | some f0=>
      right
      refine ⟨f0,rfl,λ j=>?_⟩
      simp only [catF,yNlt,yNadd,yNsub]
      rw [show decide (n + i < n)=false by simp,show 0 + (n + i - n)=i by omega]
   have hfl:∀ f0,f=some f0->∀ i,i < n->∀ j v,(f0 i j).R M v->(g i j).R M v:=λ f0 e i hi j v hv=>by
    subst e;subst hgg
    simp only [catF,yNlt]
    exact selA_ok _ (by simp only [hi,decide_true,cond_true];exact hv)
   simp only [AV.R] at rx
   rcases rx with ⟨rfl,rfl,rfl⟩ | ⟨rfl,rfl,p,c,rfl,_⟩ | ⟨rfl,_,b,off,c,cs,rfl,hnc,_,hcs,hc⟩
   . obtain ⟨us,rn,hul,hlen,hS,_⟩:=srcA_ok (P:=P) (M:=M) (h:=h) (z:=z) (n:=0) (x:=.ns) (new:=[]) (tx:=tx) rfl rfl r rfl
     exact ⟨us,hS hk,by simpa using hul,λ i hi=>by omega,hfl⟩
   . obtain ⟨us,rn,hul,hlen,hS,_⟩:=srcA_ok (P:=P) (M:=M) (h:=h) (z:=z) (n:=0) (x:=.es) (new:=[]) (tx:=tx) rfl (X:=.slice (some p) 0 c) ⟨_,_,rfl⟩ r rfl
     exact ⟨us,hS hk,by simpa using hul,λ i hi=>by omega,hfl⟩
   . obtain ⟨e,fr,hb⟩:=r.fz b cs hcs
     obtain ⟨us,hS,hul,hus⟩:=src_cells (P:=P) (M:=M) (w:=w) (m:=m') (c:=c) (b:=b) (base:=off) (tx:=tx) (g0:=g0) hz hk (λ i hi j hj=>by
      obtain ⟨v,q1,q2,q3⟩:=hc i hi j hj
      exact ⟨v,λ m hm=>by simp [World.cell?,hm,hb,q1],q2,q3⟩)
     refine ⟨us,hS,hul,λ i hi j hj=>?_,hfl⟩
     obtain ⟨v,q1,q2⟩:=hus i hi j hj
     refine ⟨v,q1,?_⟩
     rcases hfg i with e | ⟨f0,_,e⟩
     . rw [e];exact q2
     . rw [e];exact selA_ok _ (by simpa using q2)
 . split at hs
   . rename_i m' new hsa
     cases hc:allCell new with
     | false=>rw [hc] at hs;cases hs
     | true=>
       rw [hc,cond_true] at hs
       have h3:=T.sel_ret hs
       simp only [Prod.mk.injEq] at h3
       obtain ⟨rfl,rfl⟩:=h3
       exact lit hsa rx hc rfl
   . cases hs
theorem arr_obj {κ z len m:Nat}{e:TypeId}{olds us zs:List Value}{g:Nat->Nat->AV}(h1:olds.length=len * z)(h2:us.length=m * z)(h3:(olds ++ us ++ zs).length=κ * z)(h4:len + m<=κ)
 (ho:∀ i,i < len->∀ j,j < z->∃ v,olds[i * z + j]?=some v/\v.oneCell'=true/\(g i j).R M v) (hn:∀ i,i < m->∀ j,j < z->∃ v,us[i * z + j]?=some v/\v.oneCell'=true/\(g (len + i) j).R M v) :
 ObR M κ (.arr false e z (len + m) g) (.cells (olds ++ us ++ zs).toArray e (0,0)):=by
 refine ⟨_,rfl,by simpa using h3,h4,λ i hi j hj=>?_⟩
 rw [List.getElem?_toArray]
 by_cases hlt:i < len
 . obtain ⟨v,q1,q2⟩:=ho i hlt j hj
   have:=place_lt hlt hj
   exact ⟨v,by rw [List.append_assoc,List.getElem?_append_left (by omega)];exact q1,q2⟩
 . obtain ⟨v,q1,q2⟩:=hn (i - len) (by omega) j hj
   rw [show len + (i - len)=i by omega] at q2
   have h5:i * z=len * z + (i - len) * z:=by rw [<- Nat.add_mul];congr 1;omega
   have h6:(i - len) * z + j < us.length:=by rw [h2];exact place_lt (by omega) hj
   exact ⟨v,by rw [List.append_assoc,List.getElem?_append_right (by omega),List.getElem?_append_left (by omega),<- q1];congr 1;omega,q2⟩
theorem growY_ok {h h':AH}{w:World}{t tx ty e:TypeId}{i:TypeInfo}{z:Value}{base:Option Addr}{len cap n:Nat}{olds us:List Value}{g:Nat->Nat->AV}{X:Value}{nl:Bool}
 (hu:P.underlying t=some (.slice e)) (hi:P.info? e=some i) (hz:i.zero=some z) (hzs:z.cells.size=i.size)
 (ho:∀ p,p < len->∀ j,j < i.size->∃ v,olds[p * i.size + j]?=some v/\v.oneCell'=true/\(g p j).R M v) (hnw:∀ p,p < n->∀ j,j < i.size->∃ v,us[p * i.size + j]?=some v/\v.oneCell'=true/\(g (len + p) j).R M v)
 (hol:olds.length=len * i.size) (hold:(Builtin.firstCells i.size len (.slice base len cap)).run P w.drew=.ok olds.toArray w.drew) (hs:Src P i.size tx X n us w) (hcap:cap < len + n)
 (hg:growOk (len + n) i.bytes=true) (hb:0 < i.bytes) (r:Rel M h w) (fr:M h.nx=none) (hn:h.new (.arr false e i.size (len + n) g)=some h') (hnl:nl=false) :
 Got P h h' M w (.ysl false nl h.nx i.size 0 (len + n)) (Builtin.append_ #[t,tx] ty #[.slice base len cap,X]):=by
 have hbd:4 * (len + n) * i.bytes<=140737488355328:=by simpa [growOk,nble] using hg
 have hbd2:4 * (len + n) * 1<=4 * (len + n) * i.bytes:=Nat.mul_le_mul_left _ hb
 have hns:=nextslicecap_le hcap
 have hfit:Builtin.nextslicecap (len + n) cap * i.bytes<=281474976710656:=by
  have h1:=Nat.mul_le_mul_right i.bytes hns
  have h2:4 * (len + n) * i.bytes=2 * (2 * (len + n) * i.bytes):=by rw [<- Nat.mul_assoc];congr 1;omega
  omega
 have hrun:=run_append_grow_src (P:=P) w t tx ty e i z hu hi hz base len cap olds hold X n us hs hcap (by omega) hfit
 have hgc:=need_le_grown w (len + n) cap e
 have hnl':=hs.newsLen
 have hcs:((olds ++ us).toArray ++ Builtin.zeroCells z.cells (grownCap w (len + n) cap e - (len + n)))=(olds ++ us ++ (Builtin.zeroCells z.cells (grownCap w (len + n) cap e - (len + n))).toList).toArray:=by apply Array.ext';simp
 have hob:ObR M (grownCap w (len + n) cap e) (.arr false e i.size (len + n) g) (.cells ((olds ++ us).toArray ++ Builtin.zeroCells z.cells (grownCap w (len + n) cap e - (len + n))) e (0,0)):=by
  rw [hcs]
  exact arr_obj hol hnl' (grow_len (by rw [List.length_append,hol,hnl',Nat.add_mul]) hzs hgc) hgc ho hnw
 have rd:Rel M h w.drew:=r.same rfl
 obtain ⟨q1,q2,q3⟩:=new_ok rd hn fr hob
 refine ⟨_,_,_,hrun,?_,q1,q2.drew,q3⟩
 simp only [AV.R]
 exact .inr (.inr ⟨hnl,_,_,_,by simp [updM];exact ⟨rfl,rfl⟩,by simp,hgc,by omega,λ _=>⟨by simp,by omega⟩⟩)
theorem new_vac {h h':AH}{w:World}{ao:AO}(r:Rel M h w)(hn:h.new ao=some h')(hM:M h.nx=none)(hv:ao.Vac):Rel M h' w/\Fr h h' M M w w/\Ab h h':=by
 have hg:=AH.get_new hn
 obtain ⟨hnx,hbs,hwl⟩:=AH.new_nx hn
 refine ⟨⟨λ id o e=>?_,λ i j b κ1 κ2 oi h0 hr h2 e1 e2=>?_,λ x hx=>?_,r.gw,λ i b κ' o e1 hr e2=>?_,r.fz,λ i b κ' o e1 hr e2=>?_⟩,⟨rfl,rfl,rfl,Nat.le_refl _,Le.refl M,λ _ e=>absurd rfl e,λ _ _ _=>rfl,λ id b κ' o' e1 e2=>?_,λ _ _ e=>.inl e⟩,new_ab hn⟩
 . rw [hg] at e
   split at e
   . rename_i hid
     simp only [sI] at e;subst e
     exact .inl ⟨hv,by rw [hid];exact hM⟩
   . exact r.obj id o e
 . rw [hg] at h0 h2
   by_cases hi:i=h.nx
   . rw [hi,hM] at e1;cases e1
   . by_cases hj:j=h.nx
     . rw [hj,hM] at e2;cases e2
     . exact r.inj i j b κ1 κ2 oi (by simpa [hi] using h0) hr (by simpa [hj] using h2) e1 e2
 . rw [hg] at hx
   by_cases hid:x=h.nx
   . omega
   . have:=r.wf x (by simpa [hid] using hx);omega
 . by_cases hid:i=h.nx
   . rw [hid,hM] at e2;cases e2
   . rw [hg] at e1;exact r.gf i b κ' o (by simpa [hid] using e1) hr e2
 . by_cases hid:i=h.nx
   . rw [hid,hM] at e2;cases e2
   . rw [hg] at e1;exact r.fo i b κ' o (by simpa [hid] using e1) hr e2
 . by_cases hid:id=h.nx
   . rw [hid,hM] at e2;cases e2
   . rw [hg] at e1;exact .inr ⟨id,κ',o',by simpa [hid] using e1,e2,λ e=>e⟩
end
section
variable {P : Program} {M : Mp}
theorem src_one {z m n:Nat}{tx:TypeId}{X:Value}{us:List Value}{w:World}{g:Nat->Nat->AV}(hS:Src P z tx X m us w)(q:∀ i,i < m->∀ j,j < z->∃ v,us[i * z + j]?=some v/\(g (n + i) j).R M v):
 ∀ i,i < m->∀ j,j < z->∃ v,us[i * z + j]?=some v/\v.oneCell'=true/\(g (n + i) j).R M v:=λ i hi j hj=>by
 obtain ⟨v,h1,h2⟩:=q i hi j hj
 exact ⟨v,h1,hS.one v (List.mem_of_getElem? h1),h2⟩
theorem newArr_sel {h h':AH}{e:TypeId}{z m:Nat}{nil:Bool}{f:Nat->Nat->AV}{v:AV}(ha:(newArr h e z m nil f).sel=some (v,h')):h.new (.arr false e z m f)=some h'/\v=.ysl false nil h.nx z 0 m:=by
 unfold newArr at ha
 split at ha
 . rename_i h2 hn
   have h3:=T.sel_ret ha
   simp only [Prod.mk.injEq] at h3
   obtain ⟨rfl,rfl⟩:=h3
   exact ⟨hn,rfl⟩
 . cases ha
theorem catLit_none {z:Nat}:∀ {m n:Nat} {f:Option (Nat->Nat->AV)} {new:List AV},catLit z m n f new=none->m=0
 | 0,_,_,_,_=>rfl
 | m + 1,n,none,new,h=>by have:=catLit_none (m:=m) h;subst this;cases h
 | m + 1,n,some f,new,h=>by have:=catLit_none (m:=m) h;subst this;cases h
theorem yr_got {h h':AH}{w:World}{nil:Bool}{id z n:Nat}{x:Sem Value}(hn:0 < n)(g:Got P h h' M w (.ysl false nil id z 0 n) x):Got P h h' M w (.yr nil id z n) x:=by
 obtain ⟨M',u,w',h1,h2,h3⟩:=g
 refine ⟨M',u,w',h1,?_,h3⟩
 simp only [AV.R] at h2 ⊢
 rcases h2 with ⟨_,h2,_⟩ | ⟨_,h2,_⟩ | ⟨k1,b,κ,c,k2,k3,k4,_,k5⟩
 . omega
 . omega
 . obtain ⟨k6,k7⟩:=k5 trivial
   exact .inr ⟨k1,b,κ,c,k2,by simpa using k3,k4,by simpa using k6⟩
set_option maxHeartbeats 4000000 in
theorem appendY0_ok {h h':AH}{w:World}{t tx ty:TypeId}{s x v:AV}{S X:Value}(ha:(appendY0 P h t (some tx) s x).sel=some (v,h'))(rs:s.R M S)(rx:x.R M X)(r:Rel M h w)(fr:Fresh M h h'):
 Got P h h' M w v (Builtin.append_ #[t,tx] ty #[S,X]):=by
 unfold appendY0 at ha
 split at ha
 . rename_i e hu
   split at ha
   . rename_i i za hi hza
     obtain ⟨z,hzr,rz,i',hi',hzz⟩:=zeroT_ok (M:=M) hza
     rw [hi] at hi'
     simp only [sI] at hi';subst hi'
     cases hcond:(srcOk ((some tx).bind P.underlying) && Nat.beq (cellsA za).length i.size && Nat.blt 0 i.bytes && Nat.blt 0 i.size) with
     | false=>rw [hcond] at ha;cases ha
     | true=>
       rw [hcond,cond_true] at ha
       simp only [Option.bind_some,Bool.and_eq_true,nbeq,nblt,decide_eq_true_eq] at hcond
       obtain ⟨⟨⟨hk,hzl⟩,hby⟩,hsz⟩:=hcond
       have hzs:z.cells.size=i.size:=by have:=RL_length (cellsA_R rz);simp at this;omega
       -- nothing is there yet
       have start:∀ {nil nl:Bool} {m:Nat} {f:Nat->Nat->AV} {base:Option Addr},S=.slice base 0 0->((nil=true/\base=none) ∨ (nil=false/\∃ a,base=some a))->nl=(nil && decide (m=0)) →
        (srcY h i.size 0 none x).sel=some (m,f)->growOk m i.bytes=true->h.new (.arr false e i.size m f)=some h'->v=.ysl false nl h.nx i.size 0 m →
        Got P h h' M w v (Builtin.append_ #[t,tx] ty #[S,X]):=by
        intro nil nl m f base hS hb hnl hsrc hgr hn hv
        obtain ⟨us,hSrc,hul,q1,_⟩:=srcY_ok (tx:=tx) hsz hsrc rx r hk (λ _=>rfl)
        subst hS hv
        have hfr:M h.nx=none:=fr h.nx (Nat.le_refl _) (by have:=(AH.new_nx hn).1;omega)
        by_cases hm:m=0
        . subst hm
          have:us=[]:=List.length_eq_zero_iff.1 (by rw [hul];simp)
          subst this
          obtain ⟨p1,p2,p3⟩:=new_vac r hn hfr (by simp [AO.Vac])
          refine ⟨M,.slice base 0 0,w,run_append_nothing w t tx ty e i hu hi base 0 0 (Nat.le_refl _) X hSrc,?_,p1,p2,p3⟩
          simp only [AV.R]
          rcases hb with ⟨rfl,rfl⟩ | ⟨rfl,a,rfl⟩
          . exact .inl ⟨by simpa using hnl,by simp,rfl⟩
          . exact .inr (.inl ⟨by simpa using hnl,by simp,a,0,rfl,λ _=>rfl⟩)
        . have hold:(Builtin.firstCells i.size 0 (.slice base 0 0)).run P w.drew=.ok ([]:List Value).toArray w.drew:=by
           cases base with
           | none=>exact run_firstCells_none w.drew i.size 0 0 0
           | some a=>exact run_firstCells_some w.drew i.size 0 a 0 0 [] (by simp) (by simp)
          have g:=growY_ok (P:=P) (w:=w) (ty:=ty) (base:=base) (len:=0) (cap:=0) (n:=m) (olds:=[]) (us:=us) (g:=f) (nl:=nl) hu hi hzz hzs (λ p hp=>by omega) (src_one hSrc q1) (by simp) hold hSrc (by omega) (by simpa using hgr) hby r hfr (by simpa using hn) (by rw [hnl];simp [hm])
          simpa using g
       -- a row without room behind it
       have full:∀ {p:Option Addr} {n m:Nat} {fo:Option (Nat->Nat->AV)} {g:Nat->Nat->AV} {us0:List Value} {sv:AV},S=.slice p n n->Src P i.size t S n us0 w →
        (∀ q,q < n->∀ j,j < i.size->∃ v,us0[q * i.size + j]?=some v/\(orNp fo q j).R M v)->(srcY h i.size n fo x).sel=some (m,g)->(fo=none->n=0)->sv.R M S →
        ((m=0/\v=sv/\h'=h) ∨ (m ≠ 0/\growOk (n + m) i.bytes=true/\h.new (.arr false e i.size (n + m) g)=some h'/\v=.ysl false false h.nx i.size 0 (n + m))) →
        Got P h h' M w v (Builtin.append_ #[t,tx] ty #[S,X]):=by
        intro p n m fo g us0 sv hS h0 q0 hsrc hfo rsv hcase
        obtain ⟨us,hSrc,hul,q1,q2⟩:=srcY_ok (tx:=tx) hsz hsrc rx r hk hfo
        rcases hcase with ⟨rfl,rfl,rfl⟩ | ⟨hm,hgr,hn,rfl⟩
        . have:us=[]:=List.length_eq_zero_iff.1 (by rw [hul];simp)
          subst this
          subst hS
          exact Got.pure r (run_append_nothing w t tx ty e i hu hi p n n (Nat.le_refl _) X hSrc) rsv
        . have hfr:M h.nx=none:=fr h.nx (Nat.le_refl _) (by have:=(AH.new_nx hn).1;omega)
          subst hS
          refine growY_ok (P:=P) (w:=w) (ty:=ty) (base:=p) (len:=n) (cap:=n) (n:=m) (olds:=us0) (us:=us) (g:=g) (nl:=false) hu hi hzz hzs (λ q hq j hj=>?_) (src_one hSrc q1) h0.newsLen h0.cellsD hSrc (by omega) hgr hby r hfr hn rfl
          obtain ⟨u,k1,k2⟩:=q0 q hq j hj
          refine ⟨u,k1,h0.one u (List.mem_of_getElem? k1),?_⟩
          cases fo with
          | none=>have:=hfo rfl;omega
          | some f0=>exact q2 f0 rfl q hq j u k2
       have hkt:srcOk (P.underlying t)=true:=by rw [hu];rfl
       split at ha
       . -- nil
         obtain ⟨⟨m,f⟩,hsrc,ha⟩:=T.sel_bind_some ha
         obtain ⟨hgr,ha⟩:=T.sel_must ha
         obtain ⟨hn,hv⟩:=newArr_sel ha
         exact start (nil:=true) (base:=none) (by simpa only [AV.R] using rs) (.inl ⟨rfl,rfl⟩) (by simp [yNeq]) hsrc hgr hn hv
       . -- empty,without room
         rename_i nil
         obtain ⟨⟨m,f⟩,hsrc,ha⟩:=T.sel_bind_some ha
         obtain ⟨hgr,ha⟩:=T.sel_must ha
         obtain ⟨hn,hv⟩:=newArr_sel ha
         simp only [AV.R] at rs
         rcases rs with ⟨rfl,hS⟩ | ⟨rfl,a,hS⟩
         . exact start (nil:=true) (base:=none) hS (.inl ⟨rfl,rfl⟩) (by simp [yNeq,yAnd]) hsrc hgr hn hv
         . exact start (nil:=false) (base:=some a) hS (.inr ⟨rfl,a,rfl⟩) (by simp [yAnd]) hsrc hgr hn hv
       . -- a list without room
         rename_i nil z' n f
         simp only [nbeq,Bool.cond_decide] at ha
         split at ha
         case isFalse=>cases ha
         rename_i hz1;subst hz1
         obtain ⟨⟨m,g⟩,hsrc,ha⟩:=T.sel_bind_some ha
         obtain ⟨p,c,hS,hnc,hxc⟩:∃ p c,S=.slice p n c/\n<=c/\c=n:=by
          have rs2:=rs
          simp only [AV.R] at rs2
          rcases rs2 with ⟨_,rfl,rfl⟩ | ⟨_,rfl,a,c,rfl,hx⟩ | ⟨_,_,bb,off,c,cs,rfl,h1,h2,_⟩
          . exact ⟨_,_,rfl,Nat.le_refl _,rfl⟩
          . exact ⟨_,_,rfl,Nat.zero_le _,hx trivial⟩
          . exact ⟨_,_,rfl,h1,h2 trivial⟩
         subst hxc
         obtain ⟨us0,h0,hul0,p1,_⟩:=srcY_ok (P:=P) (M:=M) (h:=h) (w:=w) (z:=i.size) (n:=0) (m:=c) (f:=none) (g:=catF 0 none 0 f) (x:=.lst true nil i.size c f) (X:=S) (tx:=t) hsz (by simp [srcY,T.sel]) rs r hkt (λ _=>rfl)
         refine full (fo:=some f) (sv:=.lst true nil i.size c f) hS h0 (λ q hq j hj=>by
          obtain ⟨u,k1,k2⟩:=p1 q hq j hj
          exact ⟨u,k1,by simpa [catF,yNadd,orNp] using k2⟩) hsrc (λ e=>by cases e) rs ?_
         rcases T.sel_br ha with ⟨hm,ha⟩ | ⟨hm,ha⟩
         . have h3:=T.sel_ret ha
           simp only [Prod.mk.injEq] at h3
           exact .inl ⟨by simpa [yNeq] using hm,h3.1.symm,h3.2.symm⟩
         . obtain ⟨hgr,ha⟩:=T.sel_must ha
           obtain ⟨hn,hv⟩:=newArr_sel ha
           exact .inr ⟨by simpa [yNeq] using hm,hgr,hn,hv⟩
       . -- elements that are written out,without room
         rename_i id off len cap
         split at ha
         case h_2=>cases ha
         rename_i cc et gg hg
         split at ha
         case h_2=>cases ha
         rename_i old hold
         cases hc:(Nat.beq len cap && allCell old) with
         | false=>rw [hc] at ha;cases ha
         | true=>
           rw [hc,cond_true] at ha
           simp only [Bool.and_eq_true,nbeq,decide_eq_true_eq] at hc
           obtain ⟨rfl,hac⟩:=hc
           obtain ⟨⟨m,g⟩,hsrc,ha⟩:=T.sel_bind_some ha
           have rs2:=rs
           simp only [AV.R] at rs2
           obtain ⟨b,κ,hM,hS⟩:=rs2
           simp only [Bool.false_eq_true,if_false] at hS
           obtain ⟨us0,h0,hul0,p1,_⟩:=srcY_ok (P:=P) (M:=M) (h:=h) (w:=w) (z:=i.size) (n:=0) (m:=len) (f:=none) (g:=orNp (catLit i.size len 0 none old)) (x:=.sl id off len len false) (X:=S) (tx:=t) hsz (by simp [srcY,srcA,hg,hold,hac,T.sel]) rs r hkt (λ _=>rfl)
           refine full (fo:=catLit i.size len 0 none old) (sv:=.sl id off len len false) hS h0 (λ q hq j hj=>by
            obtain ⟨u,k1,k2⟩:=p1 q hq j hj
            exact ⟨u,k1,by simpa using k2⟩) hsrc catLit_none rs ?_
           rcases T.sel_br ha with ⟨hm,ha⟩ | ⟨hm,ha⟩
           . have h3:=T.sel_ret ha
             simp only [Prod.mk.injEq] at h3
             exact .inl ⟨by simpa [yNeq] using hm,h3.1.symm,h3.2.symm⟩
           . obtain ⟨hgr,ha⟩:=T.sel_must ha
             obtain ⟨hn,hv⟩:=newArr_sel ha
             exact .inr ⟨by simpa [yNeq] using hm,hgr,hn,hv⟩
       . -- elements
         rename_i nil id z' n
         split at ha
         . rename_i e' z2 n' f hg
           cases hc:(Nat.beq z' i.size && Nat.beq z' z2 && Nat.beq e e') with
           | false=>rw [hc] at ha;cases ha
           | true=>
             rw [hc,cond_true] at ha
             simp only [Bool.and_eq_true,nbeq,decide_eq_true_eq] at hc
             obtain ⟨⟨hz1,hz2⟩,rfl⟩:=hc
             subst hz2
             subst hz1
             obtain ⟨⟨m,g⟩,hsrc,ha⟩:=T.sel_bind_some ha
             obtain ⟨hnn,ha1⟩:=T.sel_must ha
             obtain ⟨hgr,ha2⟩:=T.sel_must ha1
             have hnn:n=n':=of_decide_eq_true hnn
             clear ha ha1
             subst hnn
             have ha:=ha2
             clear ha2
             obtain ⟨us,hSrc,hul,q1,q2⟩:=srcY_ok (tx:=tx) hsz hsrc rx r hk (λ e=>by cases e)
             split at ha
             . rename_i h1 hd
               have hna:=newArr_sel ha
               clear ha
               . obtain ⟨hn,hv⟩:=hna
                 obtain rfl:=hv.symm
                 obtain ⟨rd1,rd2,rd3⟩:=del_ok r hd
                 have hnx1:=(AH.put_nx hd).1
                 have hnx2:=(AH.new_nx hn).1
                 have hfr:M h1.nx=none:=fr h1.nx (by omega) (by omega)
                 -- where there is nothing
                 have empty:∀ {base:Option Addr},n=0->S=.slice base 0 0->((nil=true/\base=none) ∨ (nil=false/\∃ a,base=some a))->Got P h h' M w (.ysl false (yAnd nil (yNeq m 0)) h1.nx i.size 0 (yNadd n m)) (Builtin.append_ #[t,tx] ty #[S,X]):=by
                  intro base hn0 hS hb
                  subst hn0 hS
                  by_cases hm:m=0
                  . subst hm
                    have:us=[]:=List.length_eq_zero_iff.1 (by rw [hul];simp)
                    subst this
                    obtain ⟨p1,p2,p3⟩:=new_vac rd1 hn hfr (by simp [AO.Vac,yNadd])
                    refine ⟨M,.slice base 0 0,w,run_append_nothing w t tx ty e i hu hi base 0 0 (Nat.le_refl _) X hSrc,?_,p1,rd2.trans rd3.nx p3.nx p2,rd3.trans p3⟩
                    simp only [AV.R]
                    rcases hb with ⟨rfl,rfl⟩ | ⟨rfl,a,rfl⟩
                    . exact .inl ⟨by simp [yAnd,yNeq],rfl,rfl⟩
                    . exact .inr (.inl ⟨by simp [yAnd],rfl,a,0,rfl,λ _=>rfl⟩)
                  . have hold:(Builtin.firstCells i.size 0 (.slice base 0 0)).run P w.drew=.ok ([]:List Value).toArray w.drew:=by
                     cases base with
                     | none=>exact run_firstCells_none w.drew i.size 0 0 0
                     | some a=>exact run_firstCells_some w.drew i.size 0 a 0 0 [] (by simp) (by simp)
                    refine Got.after rd2 rd3 ?_
                    exact growY_ok (P:=P) (w:=w) (ty:=ty) (base:=base) (len:=0) (cap:=0) (n:=m) (olds:=[]) (us:=us) (g:=g) (nl:=yAnd nil (yNeq m 0)) hu hi hzz hzs (λ p hp=>by omega) (src_one hSrc q1) (by simp) hold hSrc (by omega) (by simpa [yGrow,yNadd] using hgr) hby rd1 hfr (by simpa [yNadd] using hn) (by simp [yAnd,yNeq,hm])
                 simp only [AV.R] at rs
                 rcases rs with ⟨rfl,hn0,rfl⟩ | ⟨rfl,hn0,p,c,rfl,hc0⟩ | ⟨rfl,b,κ,c,hM,rfl,hnc,hn0,hcc⟩
                 . exact empty hn0 rfl (.inl ⟨rfl,rfl⟩)
                 . obtain rfl:c=0:=hc0 trivial
                   exact empty hn0 rfl (.inr ⟨rfl,p,rfl⟩)
                 . obtain ⟨hcκ,hle⟩:=hcc trivial
                   have hcκ:c<=κ:=by simpa using hcκ
                   simp only [Nat.zero_add,Nat.zero_mul,Bool.false_eq_true,if_false] at hle ⊢
                   obtain ⟨ob,hb,cs,rfl,hcs,hnκ,q⟩:=Ob_of r hg hM
                   have hcell:=arr_cell r hg hM
                   have ho:∀ p,p < n->∀ j,j < i.size->∃ v,cs[p * i.size + j]?=some v/\v.oneCell'=true/\(g p j).R M v:=λ p hp j hj=>by
                    obtain ⟨v,k1,k2,k3⟩:=q p hp j hj
                    exact ⟨v,k1,k2,q2 f rfl p hp j v k3⟩
                   by_cases hin:n + m<=c
                   . -- in its own place
                     have hfit:n * i.size + us.length<=cs.size:=by
                      have:=Nat.mul_le_mul_right i.size (Nat.le_trans hin hcκ)
                      rw [Nat.add_mul] at this
                      rw [hcs,hul];exact this
                     have hst:=run_storeCells_at P b (n * i.size) e us 0 cs w hb (by simpa using hfit) hSrc.one
                     simp only [Nat.add_zero] at hst
                     obtain ⟨row,hrow⟩:∃ row,row=(cs.toList.take (n * i.size) ++ us ++ cs.toList.drop (n * i.size + us.length)).toArray:=⟨_,rfl⟩
                     rw [<- hrow] at hst
                     have hob:ObR M κ (.arr false e i.size (yNadd n m) g) (.cells row e (0,0)):=by
                      refine ⟨row,rfl,by rw [hrow];simp;rw [<- hcs];omega,Nat.le_trans hin hcκ,λ p hp j hj=>?_⟩
                      have hp:p < n + m:=hp
                      have hg2:row[p * i.size + j]?=if n * i.size<=p * i.size + j/\p * i.size + j < n * i.size + us.length then us[p * i.size + j - n * i.size]? else cs[p * i.size + j]?:=by
                       rw [hrow,List.getElem?_toArray,row_get (by simpa using hfit)];split <;> simp
                      by_cases hpn:p < n
                      . have:=place_lt hpn hj
                        rw [hg2,if_neg (by omega)]
                        exact ho p hpn j hj
                      . obtain ⟨v,k1,k2,k3⟩:=src_one hSrc q1 (p - n) (by omega) j hj
                        have h5:p * i.size=n * i.size + (p - n) * i.size:=by rw [<- Nat.add_mul];congr 1;omega
                        have h6:(p - n) * i.size + j < us.length:=by rw [hul];exact place_lt (by omega) hj
                        rw [hg2,if_pos (by omega)]
                        refine ⟨v,by rw [<- k1];congr 1;omega,k2,?_⟩
                        rwa [show n + (p - n)=p by omega] at k3
                     obtain ⟨p1,p2,p3⟩:=re_ok (κ:=κ) (w':=w.setRow b row) r hg hM hd hn (by rw [<- hnx1];exact hfr) (upd_setRow hb) hob
                     refine ⟨_,.slice (some ⟨b,0,none⟩) (n + m) c,_,?_,?_,p1,p2,p3⟩
                     . rcases hSrc.kind with ⟨e2,hk2⟩ | hk2 <;> simp [Builtin.append_,run_underlying hu,run_underlying hk2,sizeOf,typeInfo,hi,hSrc.len,hin,hSrc.cells,addr_add,hst]
                     . simp only [AV.R]
                       exact .inr (.inr ⟨by simp [yAnd],b,κ,c,by simp [updM,hnx1],by simp [yNadd],by simpa [yNadd] using hin,by simp [yNadd];omega,λ _=>⟨by simpa using hcκ,by simp [yNadd];omega⟩⟩)
                   . -- in a new one
                     refine Got.after rd2 rd3 ?_
                     have hcl:n * i.size<=cs.size:=by rw [hcs];exact Nat.mul_le_mul_right _ hnκ
                     have hold:(Builtin.firstCells i.size n (.slice (some ⟨b,0,none⟩) n c)).run P w.drew=.ok (cs.toList.take (n * i.size)).toArray w.drew:=by
                      refine run_firstCells_some w.drew i.size n ⟨b,0,none⟩ n c _ (by simp;omega) (λ j v hj=>?_)
                      rw [List.getElem?_take] at hj
                      split at hj
                      . rw [addr_add]
                        show w.cell? _=_
                        simp only [Array.getElem?_toList] at hj
                        simp [World.cell?,hb,hj]
                      . cases hj
                     have:=growY_ok (P:=P) (w:=w) (ty:=ty) (base:=some ⟨b,0,none⟩) (len:=n) (cap:=c) (n:=m) (olds:=cs.toList.take (n * i.size)) (us:=us) (g:=g) (nl:=yAnd false (yNeq m 0)) hu hi hzz hzs (λ p hp j hj=>by
                      obtain ⟨v,k1,k2⟩:=ho p hp j hj
                      exact ⟨v,by rw [List.getElem?_take,if_pos (place_lt hp hj),Array.getElem?_toList];exact k1,k2⟩) (src_one hSrc q1) (by simp;omega) hold hSrc (by omega) (by simpa [yGrow,yNadd] using hgr) hby rd1 hfr (by simpa [yNadd] using hn) (by simp [yAnd])
                     simpa [yNadd] using this
             . cases ha
         . cases ha
       . -- elements,with room behind them
         rename_i nil id z' n
         split at ha
         . rename_i e' z2 n' f hg
           cases hc:(Nat.beq z' i.size && Nat.beq z' z2 && Nat.beq e e') with
           | false=>rw [hc] at ha;cases ha
           | true=>
             rw [hc,cond_true] at ha
             simp only [Bool.and_eq_true,nbeq,decide_eq_true_eq] at hc
             obtain ⟨⟨hz1,hz2⟩,rfl⟩:=hc
             subst hz2
             subst hz1
             obtain ⟨⟨m,g⟩,hsrc,ha⟩:=T.sel_bind_some ha
             obtain ⟨hnn,ha1⟩:=T.sel_must ha
             obtain ⟨hgr,ha2⟩:=T.sel_must ha1
             have hnn:n=n':=of_decide_eq_true hnn
             clear ha ha1
             subst hnn
             have ha:=ha2
             clear ha2
             obtain ⟨us,hSrc,hul,q1,q2⟩:=srcY_ok (tx:=tx) hsz hsrc rx r hk (λ e=>by cases e)
             split at ha
             case h_2=>cases ha
             rename_i h1 hd
             split at ha
             case h_2=>cases ha
             rename_i hh2 hn
             have h3:=T.sel_ret ha
             simp only [Prod.mk.injEq] at h3
             obtain ⟨rfl,rfl⟩:=h3
             obtain ⟨rd1,rd2,rd3⟩:=del_ok r hd
             have hnx1:=(AH.put_nx hd).1
             have hnx2:=(AH.new_nx hn).1
             have hfr:M h1.nx=none:=fr h1.nx (by omega) (by omega)
             simp only [AV.R] at rs
             rcases rs with ⟨rfl,rfl,rfl⟩ | ⟨rfl,b,κ,c,hM,rfl,hle,hcκ⟩
             . by_cases hm:m=0
               . subst hm
                 have:us=[]:=List.length_eq_zero_iff.1 (by rw [hul];simp)
                 subst this
                 obtain ⟨p1,p2,p3⟩:=new_vac rd1 hn hfr (by simp [AO.Vac,yNadd])
                 refine ⟨M,.slice none 0 0,w,run_append_nothing w t tx ty e i hu hi none 0 0 (Nat.le_refl _) X hSrc,?_,p1,rd2.trans rd3.nx p3.nx p2,rd3.trans p3⟩
                 simp only [AV.R]
                 exact .inl ⟨by simp [yAnd,yNeq],by simp [yNadd],trivial⟩
               . have hold:(Builtin.firstCells i.size 0 (.slice none 0 0)).run P w.drew=.ok ([]:List Value).toArray w.drew:=run_firstCells_none w.drew i.size 0 0 0
                 refine Got.after rd2 rd3 (yr_got (by simp [yNadd];omega) ?_)
                 exact growY_ok (P:=P) (w:=w) (ty:=ty) (base:=none) (len:=0) (cap:=0) (n:=m) (olds:=[]) (us:=us) (g:=g) (nl:=yAnd true (yNeq m 0)) hu hi hzz hzs (λ p hp=>by omega) (src_one hSrc q1) (by simp) hold hSrc (by omega) (by simpa [yGrow,yNadd] using hgr) hby rd1 hfr (by simpa [yNadd] using hn) (by simp [yAnd,yNeq,hm])
             . obtain ⟨ob,hb,cs,rfl,hcs,hnκ,q⟩:=Ob_of r hg hM
               have ho:∀ p,p < n->∀ j,j < i.size->∃ v,cs[p * i.size + j]?=some v/\v.oneCell'=true/\(g p j).R M v:=λ p hp j hj=>by
                obtain ⟨v,k1,k2,k3⟩:=q p hp j hj
                exact ⟨v,k1,k2,q2 f rfl p hp j v k3⟩
               by_cases hin:n + m<=c
               . have hfit:n * i.size + us.length<=cs.size:=by
                  have:=Nat.mul_le_mul_right i.size (Nat.le_trans hin hcκ)
                  rw [Nat.add_mul] at this
                  rw [hcs,hul];exact this
                 have hst:=run_storeCells_at P b (n * i.size) e us 0 cs w hb (by simpa using hfit) hSrc.one
                 simp only [Nat.add_zero] at hst
                 obtain ⟨row,hrow⟩:∃ row,row=(cs.toList.take (n * i.size) ++ us ++ cs.toList.drop (n * i.size + us.length)).toArray:=⟨_,rfl⟩
                 rw [<- hrow] at hst
                 have hob:ObR M κ (.arr false e i.size (yNadd n m) g) (.cells row e (0,0)):=by
                  refine ⟨row,rfl,by rw [hrow];simp;rw [<- hcs];omega,Nat.le_trans hin hcκ,λ p hp j hj=>?_⟩
                  have hp:p < n + m:=hp
                  have hg2:row[p * i.size + j]?=if n * i.size<=p * i.size + j/\p * i.size + j < n * i.size + us.length then us[p * i.size + j - n * i.size]? else cs[p * i.size + j]?:=by
                   rw [hrow,List.getElem?_toArray,row_get (by simpa using hfit)];split <;> simp
                  by_cases hpn:p < n
                  . have:=place_lt hpn hj
                    rw [hg2,if_neg (by omega)]
                    exact ho p hpn j hj
                  . obtain ⟨v,k1,k2,k3⟩:=src_one hSrc q1 (p - n) (by omega) j hj
                    have h5:p * i.size=n * i.size + (p - n) * i.size:=by rw [<- Nat.add_mul];congr 1;omega
                    have h6:(p - n) * i.size + j < us.length:=by rw [hul];exact place_lt (by omega) hj
                    rw [hg2,if_pos (by omega)]
                    refine ⟨v,by rw [<- k1];congr 1;omega,k2,?_⟩
                    rwa [show n + (p - n)=p by omega] at k3
                 obtain ⟨p1,p2,p3⟩:=re_ok (κ:=κ) (w':=w.setRow b row) r hg hM hd hn (by rw [<- hnx1];exact hfr) (upd_setRow hb) hob
                 refine ⟨_,.slice (some ⟨b,0,none⟩) (n + m) c,_,?_,?_,p1,p2,p3⟩
                 . rcases hSrc.kind with ⟨e2,hk2⟩ | hk2 <;> simp [Builtin.append_,run_underlying hu,run_underlying hk2,sizeOf,typeInfo,hi,hSrc.len,hin,hSrc.cells,addr_add,hst]
                 . simp only [AV.R]
                   exact .inr ⟨by simp [yAnd],b,κ,c,by simp [updM,hnx1],by simp [yNadd],by simpa [yNadd] using hin,hcκ⟩
               . refine Got.after rd2 rd3 (yr_got (by simp [yNadd];omega) ?_)
                 have hcl:n * i.size<=cs.size:=by rw [hcs];exact Nat.mul_le_mul_right _ hnκ
                 have hold:(Builtin.firstCells i.size n (.slice (some ⟨b,0,none⟩) n c)).run P w.drew=.ok (cs.toList.take (n * i.size)).toArray w.drew:=by
                  refine run_firstCells_some w.drew i.size n ⟨b,0,none⟩ n c _ (by simp;omega) (λ j v hj=>?_)
                  rw [List.getElem?_take] at hj
                  split at hj
                  . rw [addr_add]
                    show w.cell? _=_
                    simp only [Array.getElem?_toList] at hj
                    simp [World.cell?,hb,hj]
                  . cases hj
                 have:=growY_ok (P:=P) (w:=w) (ty:=ty) (base:=some ⟨b,0,none⟩) (len:=n) (cap:=c) (n:=m) (olds:=cs.toList.take (n * i.size)) (us:=us) (g:=g) (nl:=yAnd false (yNeq m 0)) hu hi hzz hzs (λ p hp j hj=>by
                  obtain ⟨v,k1,k2⟩:=ho p hp j hj
                  exact ⟨v,by rw [List.getElem?_take,if_pos (place_lt hp hj),Array.getElem?_toList];exact k1,k2⟩) (src_one hSrc q1) (by simp;omega) hold hSrc (by omega) (by simpa [yGrow,yNadd] using hgr) hby rd1 hfr (by simpa [yNadd] using hn) (by simp [yAnd])
                 simpa [yNadd] using this
         . cases ha
       . -- a row of no elements,with room behind it
         rename_i id
         split at ha
         case h_2=>cases ha
         rename_i e' z' hg
         cases hc:(Nat.beq z' i.size && Nat.beq e e') with
         | false=>rw [hc] at ha;cases ha
         | true=>
           rw [hc,cond_true] at ha
           simp only [Bool.and_eq_true,nbeq,decide_eq_true_eq] at hc
           obtain ⟨hz1,rfl⟩:=hc
           subst hz1
           obtain ⟨⟨m,g⟩,hsrc,ha⟩:=T.sel_bind_some ha
           obtain ⟨us,hSrc,hul,q1,_⟩:=srcY_ok (tx:=tx) hsz hsrc rx r hk (λ _=>rfl)
           have rs2:=rs
           simp only [AV.R] at rs2
           obtain ⟨b,κ,hM,hS⟩:=rs2
           simp only [if_true,Nat.sub_zero] at hS
           rcases T.sel_br ha with ⟨hm,ha⟩ | ⟨hm,ha⟩
           . have h3:=T.sel_ret ha
             simp only [Prod.mk.injEq] at h3
             obtain ⟨rfl,rfl⟩:=h3
             have hm0:m=0:=by simpa [yNeq] using hm
             have:us=[]:=List.length_eq_zero_iff.1 (by rw [hul,hm0];simp)
             subst this
             subst hm0
             have hS2:=hS
             subst hS2
             exact Got.pure r (run_append_nothing w t tx ty e i hu hi _ 0 κ (Nat.zero_le _) X hSrc) rs
           . obtain ⟨hgr,ha⟩:=T.sel_must ha
             split at ha
             case h_2=>cases ha
             rename_i h1 hd
             obtain ⟨hn,hv⟩:=newArr_sel ha
             subst hv hS
             have hm0:m ≠ 0:=by simpa [yNeq] using hm
             obtain ⟨rd1,rd2,rd3⟩:=del_ok r hd
             have hnx1:=(AH.put_nx hd).1
             have hnx2:=(AH.new_nx hn).1
             have hfr:M h1.nx=none:=fr h1.nx (by omega) (by omega)
             obtain ⟨ob,hb,vs,rest,rl,rfl,hκ⟩:=Ob_of r hg hM
             simp only [AV.RL] at rl
             subst rl
             simp only [List.nil_append] at hb hκ
             by_cases hin:m<=κ
             . have hfit:us.length<=rest.length:=by
                have:=Nat.mul_le_mul_right i.size hin
                rw [hul];omega
               have hst:=run_storeCells_at P b 0 e us 0 rest.toArray w hb (by simpa using hfit) hSrc.one
               simp only [Nat.zero_add,List.take_zero,List.nil_append] at hst
               obtain ⟨row,hrow⟩:∃ row,row=(us ++ rest.drop us.length).toArray:=⟨_,rfl⟩
               rw [<- hrow] at hst
               have hob:ObR M κ (.arr false e i.size m g) (.cells row e (0,0)):=by
                refine ⟨row,rfl,by rw [hrow];simp;omega,hin,λ p hp j hj=>?_⟩
                obtain ⟨v,k1,k2,k3⟩:=src_one hSrc q1 p hp j hj
                have h6:p * i.size + j < us.length:=by rw [hul];exact place_lt hp hj
                refine ⟨v,?_,k2,by simpa using k3⟩
                rw [hrow,List.getElem?_toArray,List.getElem?_append_left h6];exact k1
               obtain ⟨p1,p2,p3⟩:=re_ok (κ:=κ) (w':=w.setRow b row) r hg hM hd hn (by rw [<- hnx1];exact hfr) (upd_setRow hb) hob
               refine ⟨_,.slice (some ⟨b,0,none⟩) m κ,_,?_,?_,p1,p2,p3⟩
               . rcases hSrc.kind with ⟨e2,hk2⟩ | hk2 <;> simp [Builtin.append_,run_underlying hu,run_underlying hk2,sizeOf,typeInfo,hi,hSrc.len,hin,hSrc.cells,addr_add,hst]
               . simp only [AV.R]
                 exact .inr (.inr ⟨trivial,b,κ,κ,by simp [updM,hnx1],by simp,hin,by omega,λ _=>⟨by simp,by simpa using hin⟩⟩)
             . refine Got.after rd2 rd3 ?_
               have hold:(Builtin.firstCells i.size 0 (.slice (some ⟨b,0,none⟩) 0 κ)).run P w.drew=.ok ([]:List Value).toArray w.drew:=run_firstCells_some w.drew i.size 0 ⟨b,0,none⟩ 0 κ [] (by simp) (by simp)
               have:=growY_ok (P:=P) (w:=w) (ty:=ty) (base:=some ⟨b,0,none⟩) (len:=0) (cap:=κ) (n:=m) (olds:=[]) (us:=us) (g:=g) (nl:=false) hu hi hzz hzs (λ p hp=>by omega) (src_one hSrc q1) (by simp) hold hSrc (by omega) (by simpa [yGrow] using hgr) hby rd1 hfr (by simpa using hn) rfl
               simpa using this
       . cases ha
   . cases ha
 . cases ha
theorem makeSliceY_ok {h h':AH}{w:World}{t:TypeId}{l c v:AV}{L C:Value}(hb:(makeSliceY P h t l c).sel=some (v,h'))(rl:l.R M L)(rc:c.R M C)(r:Rel M h w)(fr:Fresh M h h'):
 Got P h h' M w v (Instr.makeSlice t L C):=by
 unfold makeSliceY at hb
 split at hb
 . rename_i k l k' c
   simp only [AV.R] at rl rc;subst rl rc
   split at hb
   . rename_i e hu
     split at hb
     . rename_i i za hi hza
       obtain ⟨z,hzr,rz,i',hi',hzz⟩:=zeroT_ok (M:=M) hza
       rw [hi] at hi'
       simp only [sI] at hi';subst hi'
       cases hcond:(Nat.beq (cellsA za).length i.size && Nat.blt 0 i.bytes && Nat.blt 0 i.size && allCell (cellsA za)) with
       | false=>rw [hcond] at hb;cases hb
       | true=>
         rw [hcond,cond_true] at hb
         simp only [Bool.and_eq_true,nbeq,nblt,decide_eq_true_eq] at hcond
         obtain ⟨⟨⟨hzl,hby⟩,hsz⟩,hall⟩:=hcond
         obtain ⟨h1,hb1⟩:=T.sel_must hb
         obtain ⟨h2,hb2⟩:=T.sel_must hb1
         obtain ⟨h3,hb3⟩:=T.sel_must hb2
         have h1:0<=l:=of_decide_eq_true h1
         have h2:l=c:=of_decide_eq_true h2
         clear hb hb1 hb2
         subst h2
         have hb:=hb3
         clear hb3
         obtain ⟨n,rfl⟩:∃ n:Nat,l=n:=⟨l.toNat,by omega⟩
         have hnn:yNat (n:Int)=n:=by simp [yNat]
         rw [hnn] at h3 hb
         have hgr:4 * n * i.bytes<=140737488355328:=by simpa [yGrow,growOk,nble] using h3
         have hgr2:n * 1<=n * i.bytes:=Nat.mul_le_mul_left _ hby
         have hgr3:n * i.bytes<=140737488355328:=by rw [Nat.mul_assoc] at hgr;omega
         split at hb
         . rename_i h4 hn
           have h5:=T.sel_ret hb
           simp only [Prod.mk.injEq] at h5
           obtain ⟨rfl,rfl⟩:=h5
           have hfr:M h.nx=none:=fr h.nx (Nat.le_refl _) (by have:=(AH.new_nx hn).1;omega)
           have rlz:=cellsA_R rz
           have hlen:=RL_length rlz
           have hm:n * i.size=n * z.cells.size:=by simp at hlen;rw [hlen,hzl]
           have hrz:=rep_zero hm
           have hone:=allCell_one rlz hall
           have hob:ObR M n (.arr false e i.size n (λ _ j=>match nthA (cellsA za) j with | some v=>v | none=>.np)) (.cells (repV n z.cells.toList).toArray e (0,0)):=by
            refine ⟨_,rfl,by simp [repV_len];simp at hlen;rw [hlen,hzl],Nat.le_refl _,λ p hp j hj=>?_⟩
            have hzc:z.cells.toList.length=i.size:=by rw [hlen,hzl]
            have hpl:=place_lt hp hj
            have hmod:(p * i.size + j) % z.cells.toList.length=j:=by
             rw [hzc,Nat.mul_comm,Nat.mul_add_mod,Nat.mod_eq_of_lt hj]
            obtain ⟨a,ha⟩:=nthA_lt (l:=cellsA za) (k:=j) (by omega)
            obtain ⟨v,q1,q2⟩:=nthA_get ha rlz
            refine ⟨v,?_,hone v (List.mem_of_getElem? q1),by simp only [ha];exact q2⟩
            rw [List.getElem?_toArray,repV_get z.cells.toList undef n _ (by rw [hzc];exact hpl),hmod]
            rw [List.getD_eq_getElem?_getD,q1];rfl
           obtain ⟨p1,p2,p3⟩:=new_ok r hn hfr hob
           refine ⟨_,.slice (some ⟨w.heap.size,0,none⟩) n n,_,?_,?_,p1,p2,p3⟩
           . have hwl:IntKind.i64.wrap (n:Int)=n:=wrap_id _ _ (by simp only [negLim];omega) (by simp only [posLim];omega)
             have hno:¬ (281474976710656 < (i.bytes:Int) * (n:Int)):=by
              have:((n * i.bytes:Nat):Int)<=((140737488355328:Nat):Int):=Int.ofNat_le.2 hgr3
              rw [Int.natCast_mul,Int.mul_comm] at this;omega
             have hsi:=run_typeInfo' hi
             have hnn':¬ ((n:Int) < 0):=by omega
             by_cases h0:n=0 ∨ i.size=0
             . have hn0:n=0:=by omega
               subst hn0
               have e0:∀ d:Value,Array.map (λ _:Nat=>d) (Array.range 0)=#[]:=λ _=>Array.eq_empty_of_size_eq_zero (by simp)
               have hw0:IntKind.i64.wrap 0=0:=by simpa using hwl
               simp [Instr.makeSlice,run_underlying hu,asInt,asIntOf,hsi,hw0,sizeOf,e0,newRow,repV]
             . simp [Instr.makeSlice,run_underlying hu,asInt,asIntOf,hsi,hwl,hno,hnn',sizeOf,hzr,hrz,newRow]
               try (intro hh;exfalso;rcases Nat.mul_eq_zero.1 hh with hh | hh <;> omega)
           . simp only [AV.R]
             by_cases hn0:n=0
             . subst hn0;exact .inr (.inl ⟨trivial,rfl,_,0,rfl,λ _=>rfl⟩)
             . exact .inr (.inr ⟨trivial,_,_,n,by simp [updM];exact ⟨rfl,rfl⟩,by simp,Nat.le_refl _,by omega,λ _=>⟨by simp,by omega⟩⟩)
         . cases hb
     . cases hb
   . cases hb
 . cases hb
theorem yStr_rel {n:Nat}{g:Nat->Nat->AV}{us:List Value}(hul:us.length=n)(h:∀ i,i < n->∃ v,us[i]?=some v/\(g i 0).R M v)(h8:yU8 n g=true):
 ∃ ns:List Int,us=ns.map (Value.int .u8)/\yStr n g=ns.map λ n=>UInt8.ofNat n.toNat:=by
 have k8:∀ i,i < n->∃ m,yI (g i 0)=some (.u8,m):=λ i hi=>by
  have:=List.all_eq_true.1 h8 i (List.mem_range.2 hi)
  unfold u8A at this
  split at this
  . rename_i k m e
    obtain rfl:=eqK_eq this
    exact ⟨m,e⟩
  . cases this
 refine ⟨(List.range n).map λ i=>(match yI (g i 0) with | some (_,m)=>m | none=>0),?_,?_⟩
 . apply List.ext_getElem?
   intro i
   by_cases hi:i < n
   . obtain ⟨m,e⟩:=k8 i hi
     obtain ⟨v,h1,h2⟩:=h i hi
     rw [h1]
     simp only [List.map_map,List.getElem?_map,List.getElem?_range hi,Option.map_some,Function.comp_apply,e,sI]
     exact yI_ok e h2
   . rw [List.getElem?_eq_none (by omega),List.getElem?_eq_none (by simp;omega)]
 . unfold yStr
   rw [List.map_map]
   apply List.map_congr_left
   intro i hi
   obtain ⟨m,e⟩:=k8 i (List.mem_range.1 hi)
   simp only [byteA,Function.comp_apply,e]
end
section
variable {P : Program} {M : Mp}
theorem rowOf_ok {h h1:AH}{w:World}{z:Nat}{e:TypeId}{s s':AV}{S:Value}(hr:rowOf h z e s=some (s',h1))(rs:s.R M S)(r:Rel M h w):
 Rel M h1 w/\Fr h h1 M M w w/\Ab h h1/\s'.R M S/\h1.nx=h.nx:=by
 unfold rowOf at hr
 split at hr
 . rename_i id len
   split at hr
   . rename_i c e' z' hg
     cases hc:(Nat.beq z' z && Nat.beq e e' && Nat.beq c.length (Nat.succ len * z) && allCell c && Nat.blt 0 z) with
     | false=>rw [hc] at hr;cases hr
     | true=>
       rw [hc,cond_true] at hr
       simp only [Bool.and_eq_true,nbeq,nblt,decide_eq_true_eq] at hc
       obtain ⟨⟨⟨⟨rfl,rfl⟩,hcl⟩,hac⟩,hz⟩:=hc
       split at hr
       . rename_i h2 hp
         simp only [sI,Prod.mk.injEq] at hr
         obtain ⟨rfl,rfl⟩:=hr
         simp only [AV.R] at rs
         obtain ⟨b,κ,hM,rfl⟩:=rs
         obtain ⟨ob,hb,vs,rest,rv,rfl,hlen⟩:=Ob_of r hg hM
         have hvl:=RL_length rv
         have hul:vs.length=Nat.succ len * z':=by omega
         obtain ⟨q1,_⟩:=catLit_ok (z:=z') (Nat.succ len) 0 none c vs rv hul (λ _=>rfl)
         have hle:Nat.succ len<=κ:=by
          have h3:Nat.succ len * z'<=κ * z':=by rw [<- hul,<- hlen];simp
          exact Nat.le_of_mul_le_mul_right h3 hz
         have ho:ObR M κ (.arr false e z' (Nat.succ len) (orNp (catLit z' (Nat.succ len) 0 none c))) (.cells (vs ++ rest).toArray e (0,0)):=by
          refine ⟨_,rfl,by simpa using hlen,hle,λ i hi j hj=>?_⟩
          obtain ⟨v,k1,k2⟩:=q1 i hi j hj
          have hlt:i * z' + j < vs.length:=(List.getElem?_eq_some_iff.1 k1).1
          refine ⟨v,?_,?_,by simpa using k2⟩
          . rw [List.getElem?_toArray,List.getElem?_append_left hlt];exact k1
          . exact allCell_one rv hac v (List.mem_of_getElem? k1)
         obtain ⟨p1,p2,p3⟩:=put_ok r hg hp hM ⟨rfl,rfl,rfl,rfl,λ _ _=>rfl,hb⟩ ho
         refine ⟨p1,p2,p3,?_,(AH.put_nx hp).1⟩
         simp only [AV.R]
         exact .inr (.inr ⟨trivial,b,κ,κ,hM,by simp,hle,Nat.succ_pos _,λ _=>⟨by simp,by omega⟩⟩)
       . cases hr
   . cases hr
 . cases hr
theorem appendY_ok {h h':AH}{w:World}{t tx ty:TypeId}{s x v:AV}{S X:Value}(ha:(appendY P h t (some tx) s x).sel=some (v,h'))(rs:s.R M S)(rx:x.R M X)(r:Rel M h w)(fr:Fresh M h h'):
 Got P h h' M w v (Builtin.append_ #[t,tx] ty #[S,X]):=by
 unfold appendY at ha
 split at ha
 . split at ha
   . split at ha
     . rename_i p hp
       obtain ⟨s',h1⟩:=p
       obtain ⟨q1,q2,q3,q4,q5⟩:=rowOf_ok hp rs r
       exact Got.after q2 q3 (appendY0_ok ha q4 rx q1 (λ id h2 h3=>fr id (by omega) h3))
     . exact appendY0_ok ha rs rx r fr
   . cases ha
 . cases ha
theorem appendY0_none {h h':AH}{t:TypeId}{s x v:AV}(hl:(appendY0 P h t none s x).sel=some (v,h')):False:=by
 unfold appendY0 at hl
 split at hl
 . split at hl
   . simp only [srcOk,Option.bind_none,Bool.false_and,cond_false] at hl;cases hl
   . cases hl
 . cases hl
theorem appendY_none {h h':AH}{t:TypeId}{s x v:AV}(hl:(appendY P h t none s x).sel=some (v,h')):False:=by
 unfold appendY at hl
 split at hl
 . split at hl
   . split at hl
     . exact appendY0_none hl
     . exact appendY0_none hl
   . cases hl
 . cases hl
end
end Go.Proofs.Ytknfdbilpfblnaa.Ex
end
