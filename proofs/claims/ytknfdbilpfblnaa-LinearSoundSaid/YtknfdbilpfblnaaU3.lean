/- The texts ExS, ExL, ExM, ExN, ExO, ExP, ExQ, ExT, Wa: The abstract machine: an operation by symbols, whichever. The abstract machine: calls and rounds. The abstract machine: rounds, operations with their calls, regions in the text's order. The abstract .. -/
import Derived.LoopNIn
import Derived.Below
import Derived.Test.YtknfdbilpfblnaaU2
set_option linter.all false
set_option maxRecDepth 100000
section
noncomputable section
namespace Go.Proofs.Ytknfdbilpfblnaa.Ex
open Go
section
variable {P : Program} {M : Mp}
theorem valT_some {h:AH}{t:T AV}{out:OutA}(e:(valT h t).sel=some out):∃ v,t.sel=some v/\out=.val v h:=by
 obtain ⟨a,h1,h2⟩:=T.sel_bind_some e
 exact ⟨a,h1,(T.sel_ret h2).symm⟩
theorem valT2_some {t:T (AV × AH)}{out:OutA}(e:(valT2 t).sel=some out):∃ v h',t.sel=some (v,h')/\out=.val v h':=by
 obtain ⟨⟨a,b⟩,h1,h2⟩:=T.sel_bind_some e
 exact ⟨a,b,h1,(T.sel_ret h2).symm⟩
theorem unY_ok {op:UnOp}{x v:AV}{X:Value}(h:(unY op x).sel=some v)(rx:x.R M X):∃ u,(∀ w,(Op.unary op X).run P w=.ok u w)/\v.R M u:=by
 unfold unY at h
 split at h <;> first | (cases h;done) | (obtain rfl:=T.sel_ret h;simp only [AV.R] at rx;subst rx)
 . exact ⟨_,λ w=>by simp only [Op.unary];rfl,rfl⟩
 . rename_i k n;exact ⟨.int k (k.wrap (0 - n)),λ w=>by simp [Op.unary,Op.intArith],rfl⟩
 . exact ⟨_,λ w=>by simp only [Op.unary,intBits_eq (.inr (.inr (.inl rfl)))];rfl,by simp only [AV.R,Bool.cond_eq_ite]⟩
theorem convY_ok {src dst:TypeId}{x v:AV}{y:Value}(h:(convY P src dst x).sel=some v)(rx:x.R M y):∃ u,(∀ w,(convert src dst y).run P w=.ok u w)/\v.R M u:=by
 unfold convY at h
 split at h
 . rename_i d k k' n hs hd
   obtain rfl:=T.sel_ret h
   simp only [AV.R] at rx;subst rx
   exact ⟨.int k (k.wrap n),λ w=>by simp [convert,run_underlying hs,run_underlying hd,Conv.intToInt],rfl⟩
 . rename_i d l hs hd
   obtain rfl:=T.sel_ret h
   simp only [AV.R] at rx;subst rx
   exact ⟨.string ⟨l.toArray⟩,λ w=>by simp [convert,run_underlying hs,run_underlying hd],rfl⟩
 . cases h
theorem convHY_ok {h:AH}{w:World}{src dst:TypeId}{x v:AV}{y:Value}(e:(convHY P h src dst x).sel=some v)(rx:x.R M y)(r:Rel M h w):∃ u,(convert src dst y).run P w=.ok u w/\v.R M u:=by
 unfold convHY at e
 cases hx:slV x with
 | false=>
   rw [hx] at e
   obtain ⟨u,h1,h2⟩:=convY_ok (P:=P) e rx
   exact ⟨u,h1 w,h2⟩
 | true=>
   rw [hx,cond_true] at e
   cases hb:byteSl P src dst with
   | false=>rw [hb] at e;cases e
   | true=>
     rw [hb,cond_true] at e
     obtain ⟨⟨n,f⟩,e1,e2⟩:=T.sel_bind_some e
     obtain ⟨h8,e3⟩:=T.sel_must e2
     obtain rfl:=T.sel_ret e3
     obtain ⟨el,t1,_,_⟩:=byteSl_ok hb
     obtain ⟨us,hS,hul,q1,_⟩:=srcY_ok (P:=P) (tx:=src) (by omega) e1 rx r (by simp [srcOk,t1]) (λ _=>rfl)
     rw [Nat.mul_one] at hul
     obtain ⟨ns,rfl,e4⟩:=yStr_rel hul (λ i hi=>by
      obtain ⟨v,a,b⟩:=q1 i hi 0 (by omega)
      exact ⟨v,by simpa using a,by simpa using b⟩) h8
     simp only [List.length_map] at hul
     have hX:∃ a m c,y=.slice a m c:=by
      cases x <;> simp only [slV,Bool.false_eq_true] at hx <;> simp only [AV.R] at rx
      . obtain ⟨b,c,hM,rfl⟩:=rx;exact ⟨_,_,_,rfl⟩
      . exact ⟨_,_,_,rx⟩
      . obtain ⟨a,c,rfl⟩:=rx;exact ⟨_,_,_,rfl⟩
      . rcases rx with ⟨_,_,rfl⟩ | ⟨_,_,a,c,rfl,_⟩ | ⟨_,b,c,d,_,rfl,_⟩ <;> exact ⟨_,_,_,rfl⟩
      . rcases rx with ⟨_,rfl⟩ | ⟨_,a,rfl⟩ <;> exact ⟨_,_,_,rfl⟩
      . rcases rx with ⟨_,_,rfl⟩ | ⟨_,_,a,c,rfl,_⟩ | ⟨_,_,b,off,c,cs,rfl,_⟩ <;> exact ⟨_,_,_,rfl⟩
      . rcases rx with ⟨_,_,rfl⟩ | ⟨_,b,c,d,_,rfl,_⟩ <;> exact ⟨_,_,_,rfl⟩
     obtain ⟨a,m,c,rfl⟩:=hX
     have hl:=hS.len w
     have hmn:m=(ns.map (Value.int .u8)).length:=by
      have h1:(Result.ok m w:Result Nat)=_:=hl
      simp only [Result.ok.injEq,and_true] at h1
      simp [h1,hul]
     simp only [List.length_map] at hmn
     subst hmn
     exact ⟨_,convBytes hb ⟨_,_,rfl⟩ rfl (by have h5:=hS.cells;rw [<- hul] at h5;exact h5),by simp only [AV.R,e4]⟩
theorem minY_ok {ty:TypeId}{tys:Array TypeId}{x y v:AV}{X Y:Value}(ha:(minY x y).sel=some v)(rx:x.R M X)(ry:y.R M Y):∃ u,(∀ w,(Builtin.min_ tys ty #[X,Y]).run P w=.ok u w)/\v.R M u:=by
 unfold minY at ha
 split at ha
 . rename_i k a k' b h1 h2
   cases hk:eqK k k' with
   | false=>rw [hk] at ha;cases ha
   | true=>
     rw [hk] at ha
     obtain rfl:=eqK_eq hk
     obtain rfl:=T.sel_ret ha
     obtain rfl:=yI_ok h1 rx
     obtain rfl:=yI_ok h2 ry
     refine ⟨.int k (if b < a then b else a),λ w=>by simp [Builtin.min_,Builtin.min2],?_⟩
     simp only [AV.R,ySel,yLt,Bool.cond_decide]
 . cases ha
theorem maxY_ok {ty:TypeId}{tys:Array TypeId}{x y v:AV}{X Y:Value}(ha:(maxY x y).sel=some v)(rx:x.R M X)(ry:y.R M Y):∃ u,(∀ w,(Builtin.max_ tys ty #[X,Y]).run P w=.ok u w)/\v.R M u:=by
 unfold maxY at ha
 split at ha
 . rename_i k a k' b h1 h2
   cases hk:eqK k k' with
   | false=>rw [hk] at ha;cases ha
   | true=>
     rw [hk] at ha
     obtain rfl:=eqK_eq hk
     obtain rfl:=T.sel_ret ha
     obtain rfl:=yI_ok h1 rx
     obtain rfl:=yI_ok h2 ry
     refine ⟨.int k (if a < b then b else a),λ w=>by simp [Builtin.max_,Builtin.max2],?_⟩
     simp only [AV.R,ySel,yLt,Bool.cond_decide]
 . cases ha
theorem lenY_ok {w:World}{t ty:TypeId}{x v:AV}{X:Value}(ha:(lenY P t x).sel=some v)(rx:x.R M X):∃ u,(Builtin.len_ #[t] ty #[X]).run P w=.ok u w/\v.R M u:=by
 unfold lenY at ha
 split at ha
 . rename_i e ro nil id z o n hu
   obtain rfl:=T.sel_ret ha
   have:∃ p c,X=.slice p n c:=by
    simp only [AV.R] at rx
    rcases rx with ⟨_,rfl,rfl⟩ | ⟨_,rfl,a,c,rfl,_⟩ | ⟨_,b,κ,c,_,rfl,_⟩ <;> exact ⟨_,_,rfl⟩
   obtain ⟨p,c,rfl⟩:=this
   exact ⟨.int .i64 n,by simp [Builtin.len_,run_underlying hu,goInt],rfl⟩
 . rename_i e xx nil z n f hu
   obtain rfl:=T.sel_ret ha
   have:∃ p c,X=.slice p n c:=by
    simp only [AV.R] at rx
    rcases rx with ⟨_,rfl,rfl⟩ | ⟨_,rfl,a,c,rfl,_⟩ | ⟨_,_,b,off,c,cs,rfl,_⟩ <;> exact ⟨_,_,rfl⟩
   obtain ⟨p,c,rfl⟩:=this
   exact ⟨.int .i64 n,by simp [Builtin.len_,run_underlying hu,goInt],rfl⟩
 . rename_i e nil id z n hu
   obtain rfl:=T.sel_ret ha
   have:∃ p c,X=.slice p n c:=by
    simp only [AV.R] at rx
    rcases rx with ⟨_,rfl,rfl⟩ | ⟨_,b,κ,c,_,rfl,_⟩ <;> exact ⟨_,_,rfl⟩
   obtain ⟨p,c,rfl⟩:=this
   exact ⟨.int .i64 n,by simp [Builtin.len_,run_underlying hu,goInt],rfl⟩
 . rename_i e nil hu
   obtain rfl:=T.sel_ret ha
   have:∃ p c,X=.slice p 0 c:=by
    simp only [AV.R] at rx
    rcases rx with ⟨_,rfl⟩ | ⟨_,a,rfl⟩ <;> exact ⟨_,_,rfl⟩
   obtain ⟨p,c,rfl⟩:=this
   exact ⟨.int .i64 0,by simp [Builtin.len_,run_underlying hu,goInt],rfl⟩
 . rename_i l hu
   obtain rfl:=T.sel_ret ha
   simp only [AV.R] at rx;subst rx
   have hsz:(⟨l.toArray⟩:ByteArray).size=l.length:=by simp [ByteArray.size]
   exact ⟨.int .i64 l.length,by simp [Builtin.len_,run_underlying hu,hsz,goInt],rfl⟩
 . cases ha
theorem findY_ok {k k0 kv:IntKind}{v:Int->Int}{n:Int}:∀ {l:List MapEntry} {j:Nat},(∀ e,e ∈ l->∃ m,e.key=.int k m/\e.val=.int kv (v m)) →
 ∃ ov,Instr.findNow (.int k0) (.int k n) l j=some ov/\(match ov with | none=>∀ e,e ∈ l->e.key ≠ .int k n | some (i,y)=>j<=i/\i < j + l.length/\y=.int kv (v n)/\∃ e,l[i - j]?=some e/\e.key=.int k n)
 | [],j,_=>⟨none,rfl,λ e he=>by cases he⟩
 | e :: l,j,h=>by
   obtain ⟨m,h1,h2⟩:=h e (by simp)
   by_cases hm:n=m
   . subst hm
     exact ⟨some (j,e.val),by simp [Instr.findNow,Instr.sameNow,h1],Nat.le_refl _,by simp,h2,e,by simp,h1⟩
   . obtain ⟨ov,q1,q2⟩:=findY_ok (k0:=k0) (n:=n) (l:=l) (j:=j + 1) (λ e he=>h e (by simp [he]))
     have hb:(n == m)=false:=by simpa using hm
     refine ⟨ov,by simp [Instr.findNow,Instr.sameNow,h1,hb,q1],?_⟩
     cases ov with
     | none=>
       intro e' he'
       rcases List.mem_cons.1 he' with rfl | he'
       . rw [h1];intro hh;injection hh with _ hh;exact hm hh.symm
       . exact q2 e' he'
     | some q=>
       obtain ⟨i,y⟩:=q
       obtain ⟨a1,a2,a3,e',a4,a5⟩:=q2
       refine ⟨by omega,by rw [List.length_cons];omega,a3,e',?_,a5⟩
       rw [show i - j=(i - (j + 1)) + 1 by omega]
       simpa using a4
theorem findK_ok {k k0:IntKind}{n:Int}:∀ {l:List MapEntry} {j:Nat},(∀ e,e ∈ l->∃ m,e.key=.int k m) →
 ∃ ov,Instr.findNow (.int k0) (.int k n) l j=some ov/\(match ov with | none=>∀ e,e ∈ l->e.key ≠ .int k n | some (i,y)=>j<=i/\i < j + l.length/\∃ e,l[i - j]?=some e/\e.key=.int k n/\e.val=y)
 | [],j,_=>⟨none,rfl,λ e he=>by cases he⟩
 | e :: l,j,h=>by
   obtain ⟨m,h1⟩:=h e (by simp)
   by_cases hm:n=m
   . subst hm
     exact ⟨some (j,e.val),by simp [Instr.findNow,Instr.sameNow,h1],Nat.le_refl _,by simp,e,by simp,h1,rfl⟩
   . obtain ⟨ov,q1,q2⟩:=findK_ok (k0:=k0) (n:=n) (l:=l) (j:=j + 1) (λ e he=>h e (by simp [he]))
     have hb:(n == m)=false:=by simpa using hm
     refine ⟨ov,by simp [Instr.findNow,Instr.sameNow,h1,hb,q1],?_⟩
     cases ov with
     | none=>
       intro e' he'
       rcases List.mem_cons.1 he' with rfl | he'
       . rw [h1];intro hh;injection hh with _ hh;exact hm hh.symm
       . exact q2 e' he'
     | some q=>
       obtain ⟨i,y⟩:=q
       obtain ⟨a1,a2,e',a4,a5,a6⟩:=q2
       refine ⟨by omega,by rw [List.length_cons];omega,e',?_,a5,a6⟩
       rw [show i - j=(i - (j + 1)) + 1 by omega]
       simpa using a4
theorem keyY_ok {t:TypeId}{a:AV}{k:IntKind}{n:Int}{u:Value}(h:keyY P t a=some (k,n))(r:a.R M u):
 u=.int k n/\∃ kt e k0,P.underlying t=some (.map kt e)/\P.underlying kt=some (.int k0):=by
 unfold keyY at h
 split at h
 . rename_i k' n' hy
   split at h
   . rename_i kt e hu
     split at h
     . rename_i k0 hk
       simp only [sI,Prod.mk.injEq] at h
       obtain ⟨rfl,rfl⟩:=h
       exact ⟨yI_ok hy r,kt,e,k0,hu,hk⟩
     . cases h
   . cases h
 . cases h
theorem MapY.ints {k kv:IntKind}{p:Int->Bool}{v:Int->Int}{l:List MapEntry}(h:MapY k kv p v l):∀ e,e ∈ l->∃ m,e.key=.int k m/\e.val=.int kv (v m):=λ e he=>by
 obtain ⟨m,q1,q2,_⟩:=h.ent e he
 exact ⟨m,q1,q2⟩
theorem int_inj {k:IntKind}{a b:Int}(h:Value.int k a=.int k b):a=b:=by injection h
theorem lookupY_ok {h:AH}{w:World}{t:TypeId}{m k x:AV}{mv kv:Value}{ok:Bool}(hl:lookupY P h t m k ok=some x)(rm:m.R M mv)(rk:k.R M kv)(r:Rel M h w):
 ∃ u,(Instr.lookup t mv kv ok).run P w=.ok u w/\x.R M u:=by
 unfold lookupY at hl
 split at hl
 . rename_i kk n id kz z0 hk hz
   obtain ⟨rfl,kt,e,k0,hu,hkt⟩:=keyY_ok hk rk
   have hck:∀ em (w:World),(Instr.checkKey em 10000 kt (.int kk n)).run P w=.ok () w:=λ em w=>checkKey_run (d:=9999) hkt w
   have hz':zeroT P e=some (.i kz z0):=by simpa [elemZ,hu] using hz
   obtain ⟨y,hy,ry,_⟩:=zeroT_ok (M:=M) hz'
   simp only [AV.R] at ry rm
   subst ry
   obtain ⟨b,κ,hM,rfl⟩:=rm
   split at hl
   . rename_i k' kv' p v hg
     obtain ⟨ob,hb,l,ck,rfl,hY⟩:=Ob_of r hg hM
     have hgo:=run_getObj' (P:=P) hb (by simp)
     cases hkk:eqK kk k' && eqK kz kv' with
     | false=>rw [hkk] at hl;cases hl
     | true=>
       rw [hkk,cond_true] at hl
       simp only [Bool.and_eq_true] at hkk
       obtain rfl:=eqK_eq hkk.1
       obtain rfl:=eqK_eq hkk.2
       obtain ⟨ov,h1,h2⟩:=findY_ok (k0:=k0) (n:=n) (j:=0) hY.ints
       have hfk:(Instr.findKey kt (.int kk n) l).run P w=.ok ov w:=by simp [Instr.findKey,run_underlying hkt,h1]
       cases ov with
       | none=>
         have hp:p n=false:=by
          cases hp:p n with
          | false=>rfl
          | true=>
            obtain ⟨e',q1,q2⟩:=hY.has n hp
            exact absurd q2 (h2 e' q1)
         have hs:ySel false (v n) z0=z0:=rfl
         rw [hp,hs] at hl
         cases ok
         . rw [cond_false,sI] at hl;subst hl
           exact ⟨.int kz z0,by simp [Instr.lookup,run_underlying hu,hck,hgo,hfk,hy],rfl⟩
         . rw [cond_true,sI] at hl;subst hl
           exact ⟨.tuple #[.int kz z0,.bool false],by simp [Instr.lookup,run_underlying hu,hck,hgo,hfk,hy],_,⟨_,_,rfl,⟨_,_,rfl,rfl,rfl⟩,rfl⟩,rfl⟩
       | some q=>
         obtain ⟨i,y⟩:=q
         obtain ⟨_,_,rfl,e',q1,q2⟩:=h2
         have hp:p n=true:=by
          obtain ⟨m,a1,_,a3⟩:=hY.ent e' (List.mem_of_getElem? q1)
          have:=int_inj (a1.symm.trans q2)
          subst this;exact a3
         have hs:ySel true (v n) z0=v n:=rfl
         rw [hp,hs] at hl
         cases ok
         . rw [cond_false,sI] at hl;subst hl
           exact ⟨.int kz (v n),by simp [Instr.lookup,run_underlying hu,hck,hgo,hfk],rfl⟩
         . rw [cond_true,sI] at hl;subst hl
           exact ⟨.tuple #[.int kz (v n),.bool true],by simp [Instr.lookup,run_underlying hu,hck,hgo,hfk],_,⟨_,_,rfl,⟨_,_,rfl,rfl,rfl⟩,rfl⟩,rfl⟩
   . cases hl
 . cases hl
theorem cellsN_RL {f:Nat->AV}:∀ {n j:Nat} {vs:List Value},vs.length=n->(∀ i,i < n->∃ v,vs[i]?=some v/\(f (j + i)).R M v)->AV.RL M (cellsN f n j) vs
 | 0,j,vs,h,_=>by obtain rfl:=List.length_eq_zero_iff.1 h;rfl
 | n + 1,j,[],h,_=>by cases h
 | n + 1,j,v :: vs,h,hr=>by
   obtain ⟨u,q1,q2⟩:=hr 0 (Nat.succ_pos _)
   obtain rfl:v=u:=by simpa using q1
   refine ⟨v,vs,q2,cellsN_RL (by simpa using h) (λ i hi=>?_),rfl⟩
   obtain ⟨u,q1,q2⟩:=hr (i + 1) (Nat.succ_lt_succ hi)
   exact ⟨u,by simpa using q1,by rw [show Nat.succ j + i=j + (i + 1) by omega];exact q2⟩
theorem RL_at:∀ {l:List AV} {vs:List Value},AV.RL M l vs->allCell l=true->∀ {j:Nat},j < l.length->∃ a v,nthA l j=some a/\vs[j]?=some v/\a.R M v/\v.oneCell'=true
 | [],_,_,_,j,hj=>absurd hj (Nat.not_lt_zero _)
 | a :: l,vs,r,h,j,hj=>by
   have h1:=allCell_one r h
   simp only [AV.RL] at r;obtain ⟨v,vs',r1,r2,rfl⟩:=r
   rw [allCell_cons] at h
   have ha:isCell a=true:=by cases hh:isCell a <;> simp_all
   rw [ha,cond_true] at h
   cases j with
   | zero=>exact ⟨a,v,by rw [nthA_cons],rfl,r1,h1 v (by simp)⟩
   | succ j=>
     obtain ⟨b,u,q1,q2,q3,q4⟩:=RL_at r2 h (j:=j) (by simpa using hj)
     exact ⟨b,u,by rw [nthA_cons];exact q1,by simpa using q2,q3,q4⟩
theorem MapZ.ints {k:IntKind}{z:Nat}{p:Int->Bool}{f:Int->Nat->AV}{l:List MapEntry}(h:MapZ M k z p f l):∀ e,e ∈ l->∃ m,e.key=.int k m:=λ e he=>by
 obtain ⟨m,_,q1,_⟩:=h.ent e he
 exact ⟨m,q1⟩
theorem lookupZ_ok {h:AH}{w:World}{t:TypeId}{m k x:AV}{mv kv:Value}{ok:Bool}(hl:(lookupZ P h t m k ok).sel=some x)(rm:m.R M mv)(rk:k.R M kv)(r:Rel M h w):
 ∃ u,(Instr.lookup t mv kv ok).run P w=.ok u w/\x.R M u:=by
 unfold lookupZ at hl
 split at hl
 case h_2=>cases hl
 rename_i kk n id z0 hk hz
 obtain ⟨rfl,kt,e,k0,hu,hkt⟩:=keyY_ok hk rk
 have hck:∀ em (w:World),(Instr.checkKey em 10000 kt (.int kk n)).run P w=.ok () w:=λ em w=>checkKey_run (d:=9999) hkt w
 have hz':zeroT P e=some z0:=by simpa [elemZ,hu] using hz
 obtain ⟨y,hy,ry,_⟩:=zeroT_ok (M:=M) hz'
 simp only [AV.R] at rm
 obtain ⟨b,κ,hM,rfl⟩:=rm
 split at hl
 case h_2=>cases hl
 rename_i k' z p f hg
 obtain ⟨ob,hb,l,ck,rfl,hY⟩:=Ob_of r hg hM
 have hgo:=run_getObj' (P:=P) hb (by simp)
 cases hkk:eqK kk k' with
 | false=>rw [hkk] at hl;cases hl
 | true=>
   rw [hkk,cond_true] at hl
   obtain rfl:=eqK_eq hkk
   obtain ⟨ov,h1,h2⟩:=findK_ok (k0:=k0) (n:=n) (j:=0) hY.ints
   have hfk:(Instr.findKey kt (.int kk n) l).run P w=.ok ov w:=by simp [Instr.findKey,run_underlying hkt,h1]
   cases ov with
   | none=>
     have hp:p n=false:=by
      cases hp:p n with
      | false=>rfl
      | true=>
        obtain ⟨e',q1,q2⟩:=hY.has n hp
        exact absurd q2 (h2 e' q1)
     rcases T.sel_br hl with ⟨hp2,_⟩ | ⟨_,hl⟩
     . rw [hp] at hp2;cases hp2
     obtain rfl:=T.sel_ret hl
     cases ok
     . exact ⟨y,by simp [Instr.lookup,run_underlying hu,hck,hgo,hfk,hy],ry⟩
     . exact ⟨.tuple #[y,.bool false],by simp [Instr.lookup,run_underlying hu,hck,hgo,hfk,hy],by simp only [cond_true,AV.R];exact ⟨[y,.bool false],by simp [AV.RL,AV.R,ry],rfl⟩⟩
   | some q=>
     obtain ⟨i,y⟩:=q
     obtain ⟨_,_,e',q1,q2,rfl⟩:=h2
     obtain ⟨n',vs,a1,a2,a3,a4,a5⟩:=hY.ent e' (List.mem_of_getElem? q1)
     obtain rfl:n'=n:=int_inj (a1.symm.trans q2)
     have hv:(AV.agg (cellsN (f n') z 0)).R M e'.val:=by
      rw [a2];simp only [AV.R]
      exact ⟨vs,cellsN_RL a3 (λ j hj=>by obtain ⟨v,x1,_,x3⟩:=a4 j hj;exact ⟨v,x1,by rw [Nat.zero_add];exact x3⟩),rfl⟩
     rcases T.sel_br hl with ⟨_,hl⟩ | ⟨hp2,_⟩
     . obtain rfl:=T.sel_ret hl
       cases ok
       . exact ⟨e'.val,by simp [Instr.lookup,run_underlying hu,hck,hgo,hfk],hv⟩
       . exact ⟨.tuple #[e'.val,.bool true],by simp [Instr.lookup,run_underlying hu,hck,hgo,hfk],by simp only [cond_true,AV.R];exact ⟨[e'.val,.bool true],⟨_,_,hv,⟨_,_,rfl,rfl,rfl⟩,rfl⟩,rfl⟩⟩
     . rw [a5] at hp2;cases hp2
theorem lookupT_ok {h:AH}{w:World}{t:TypeId}{m k x:AV}{mv kv:Value}{ok:Bool}(hl:(lookupT P h t m k ok).sel=some x)(rm:m.R M mv)(rk:k.R M kv)(r:Rel M h w):
 ∃ u,(Instr.lookup t mv kv ok).run P w=.ok u w/\x.R M u:=by
 unfold lookupT at hl
 split at hl
 . rename_i v hv
   obtain rfl:=T.sel_ret hl
   exact lookupY_ok hv rm rk r
 . exact lookupZ_ok hl rm rk r
theorem mem_modify {α:Type}{f:α->α}:∀ {l:List α} {j:Nat} {x:α},x ∈ l.modify j f->x ∈ l ∨ ∃ y,l[j]?=some y/\x=f y
 | [],j,x,h=>by cases j <;> simp at h
 | a :: l,0,x,h=>by
   simp only [List.modify_zero_cons,List.mem_cons] at h
   rcases h with rfl | h
   . exact .inr ⟨a,rfl,rfl⟩
   . exact .inl (by simp [h])
 | a :: l,j + 1,x,h=>by
   simp only [List.modify_succ_cons,List.mem_cons] at h
   rcases h with rfl | h
   . exact .inl (by simp)
   . rcases mem_modify h with h | ⟨y,h1,h2⟩
     . exact .inl (by simp [h])
     . exact .inr ⟨y,by simpa using h1,h2⟩
theorem keys_modify {l:List MapEntry}{j:Nat}{e0:MapEntry}{kv vv:Value}(h0:l[j]?=some e0)(hk:e0.key=kv):(l.modify j λ e=>{ e with key:=kv,val:=vv }).map (·.key)=l.map (·.key):=by
 apply List.ext_getElem?
 intro i
 rw [List.getElem?_map,List.getElem?_map,List.getElem?_modify]
 by_cases hi:j=i
 . subst hi
   rw [h0];simp [hk]
 . cases l[i]? <;> simp [hi]
theorem pair_keys {l:List MapEntry}:(l.Pairwise λ a b=>a.key ≠ b.key) ↔ (l.map (·.key)).Pairwise λ a b=>a ≠ b:=by
 rw [List.pairwise_map]
theorem yOr_l {a:Bool}(b:Bool)(h:a=true):yOr a b=true:=by rw [h];rfl
theorem yEq_self (n:Int):yEq n n=true:=decide_eq_true rfl
theorem yEq_ne' {a b:Int}(h:a ≠ b):yEq a b=false:=decide_eq_false h
theorem mapUpdateY_ok {h h':AH}{w:World}{t:TypeId}{m k x:AV}{mv kv vv:Value}(hl:mapUpdateY P h t m k x=some h')(rm:m.R M mv)(rk:k.R M kv)(rv:x.R M vv)(r:Rel M h w):
 ∃ w',(Instr.mapUpdate t mv kv vv).run P w=.ok () w'/\Rel M h' w'/\Fr h h' M M w w'/\Ab h h':=by
 unfold mapUpdateY at hl
 split at hl
 . rename_i kk n id kx y hk hx
   obtain ⟨rfl,kt,e,k0,hu,hkt⟩:=keyY_ok hk rk
   obtain rfl:=yI_ok hx rv
   have hck:∀ em (w:World),(Instr.checkKey em 10000 kt (.int kk n)).run P w=.ok () w:=λ em w=>checkKey_run (d:=9999) hkt w
   simp only [AV.R] at rm
   obtain ⟨b,κ,hM,rfl⟩:=rm
   split at hl
   . rename_i k' kv' p v hg
     obtain ⟨ob,hb,l,ck,rfl,hY⟩:=Ob_of r hg hM
     have hgo:=run_getObj' (P:=P) hb (by simp)
     have hso:=λ o'=>run_setObj' (P:=P) (o':=o') hb (by simp)
     cases hkk:eqK kk k' && eqK kx kv' with
     | false=>rw [hkk] at hl;cases hl
     | true=>
       rw [hkk,cond_true] at hl
       simp only [Bool.and_eq_true] at hkk
       obtain rfl:=eqK_eq hkk.1
       obtain rfl:=eqK_eq hkk.2
       obtain ⟨ov,h1,h2⟩:=findY_ok (k0:=k0) (n:=n) (j:=0) hY.ints
       have hfk:(Instr.findKey kt (.int kk n) l).run P w=.ok ov w:=by simp [Instr.findKey,run_underlying hkt,h1]
       have old:∀ e,e ∈ l->e.key ≠ .int kk n->∃ m,e.key=.int kk m/\e.val=.int kx (ySel (yEq m n) y (v m))/\yOr (yEq m n) (p m)=true:=λ e he hne=>by
        obtain ⟨m,a1,a2,a3⟩:=hY.ent e he
        have hmn:m ≠ n:=λ e2=>hne (e2 ▸ a1)
        exact ⟨m,a1,by rw [yEq_ne' hmn];exact a2,by rw [a3];cases yEq m n <;> rfl⟩
       cases ov with
       | none=>
         refine ⟨_,?_,put_ok r hg hl hM (upd_setObj (heap_lt hb)) ⟨l ++ [{ key:=.int kk n,val:=.int kx y,born:=ck }],ck + 1,rfl,λ e he=>?_,λ i hi=>?_,?_⟩⟩
         . simp [Instr.mapUpdate,run_underlying hu,hgo,hck,hfk,hso]
         . rcases List.mem_append.1 he with he | he
           . exact old e he (h2 e he)
           . obtain rfl:=List.mem_singleton.1 he
             exact ⟨n,rfl,by rw [yEq_self];rfl,yOr_l _ (yEq_self n)⟩
         . by_cases hin:i=n
           . subst hin;exact ⟨_,List.mem_append_right _ (List.mem_singleton.2 rfl),rfl⟩
           . rw [yEq_ne' hin] at hi
             obtain ⟨e',q1,q2⟩:=hY.has i hi
             exact ⟨e',List.mem_append_left _ q1,q2⟩
         . rw [List.pairwise_append]
           refine ⟨hY.one,List.pairwise_singleton _ _,λ a ha b hb=>?_⟩
           obtain rfl:=List.mem_singleton.1 hb
           exact h2 a ha
       | some q=>
         obtain ⟨j,y0⟩:=q
         obtain ⟨_,_,rfl,e0,q1,q2⟩:=h2
         have q1:l[j]?=some e0:=by simpa using q1
         have hks:(Instr.keyThatStays (.int kk n) (.int kk n)).run P w=.ok (.int kk n) w:=by simp [Instr.keyThatStays,Instr.sameBits]
         have hkeys:=keys_modify (vv:=.int kx y) q1 q2
         refine ⟨_,?_,put_ok r hg hl hM (upd_setObj (heap_lt hb)) ⟨l.modify j λ e=>{ e with key:=.int kk n,val:=.int kx y },ck,rfl,λ e he=>?_,λ i hi=>?_,?_⟩⟩
         . simp [Instr.mapUpdate,run_underlying hu,hgo,hck,hfk,q1,q2,hks,hso]
         . by_cases hke:e.key=.int kk n
           . rcases mem_modify he with he2 | ⟨y2,b1,rfl⟩
             . have:e ∈ l:=he2
               obtain ⟨i,hi⟩:=List.getElem?_of_mem he
               rw [List.getElem?_modify] at hi
               by_cases hij:j=i
               . subst hij
                 rw [q1] at hi
                 simp only [Option.map_eq_map,Option.map_some,↓reduceIte,sI] at hi
                 subst hi
                 exact ⟨n,rfl,by rw [yEq_self];rfl,yOr_l _ (yEq_self n)⟩
               . simp only [hij,↓reduceIte] at hi
                 have hi:l[i]?=some e:=by simpa using hi
                 exfalso
                 have hp:=List.pairwise_iff_getElem.1 hY.one
                 obtain ⟨l1,e1⟩:=List.getElem?_eq_some_iff.1 q1
                 obtain ⟨l2,e2⟩:=List.getElem?_eq_some_iff.1 hi
                 rcases Nat.lt_or_gt_of_ne hij with hlt | hlt
                 . exact hp j i l1 l2 hlt (by rw [e1,e2,q2,hke])
                 . exact hp i j l2 l1 hlt (by rw [e1,e2,q2,hke])
             . exact ⟨n,rfl,by rw [yEq_self];rfl,yOr_l _ (yEq_self n)⟩
           . rcases mem_modify he with he2 | ⟨y2,b1,rfl⟩
             . exact old e he2 hke
             . exact absurd rfl hke
         . have hmem:Value.int kk i ∈ (l.map (·.key)):=by
            by_cases hin:i=n
            . subst hin;rw [<- q2];exact List.mem_map.2 ⟨e0,List.mem_of_getElem? q1,rfl⟩
            . rw [yEq_ne' hin] at hi
              obtain ⟨e',a1,a2⟩:=hY.has i hi
              rw [<- a2];exact List.mem_map.2 ⟨e',a1,rfl⟩
           rw [<- hkeys] at hmem
           obtain ⟨e',a1,a2⟩:=List.mem_map.1 hmem
           exact ⟨e',a1,a2⟩
         . rw [pair_keys,hkeys,<- pair_keys];exact hY.one
   . cases hl
 . cases hl
theorem mapUpdateZ_ok {h h':AH}{w:World}{t:TypeId}{m k x:AV}{mv kv vv:Value}(hl:mapUpdateZ P h t m k x=some h')(rm:m.R M mv)(rk:k.R M kv)(rv:x.R M vv)(r:Rel M h w):
 ∃ w',(Instr.mapUpdate t mv kv vv).run P w=.ok () w'/\Rel M h' w'/\Fr h h' M M w w'/\Ab h h':=by
 unfold mapUpdateZ at hl
 split at hl
 case h_2=>cases hl
 rename_i kk n id xs hk
 obtain ⟨rfl,kt,e,k0,hu,hkt⟩:=keyY_ok hk rk
 have hck:∀ em (w:World),(Instr.checkKey em 10000 kt (.int kk n)).run P w=.ok () w:=λ em w=>checkKey_run (d:=9999) hkt w
 simp only [AV.R] at rm rv
 obtain ⟨b,κ,hM,rfl⟩:=rm
 obtain ⟨us,ru,rfl⟩:=rv
 split at hl
 case h_2=>cases hl
 rename_i k' z p f hg
 obtain ⟨ob,hb,l,ck,rfl,hY⟩:=Ob_of r hg hM
 have hgo:=run_getObj' (P:=P) hb (by simp)
 have hso:=λ o'=>run_setObj' (P:=P) (o':=o') hb (by simp)
 cases hkk:eqK kk k' && Nat.beq xs.length z && allCell xs with
 | false=>rw [hkk] at hl;cases hl
 | true=>
   rw [hkk,cond_true] at hl
   simp only [Bool.and_eq_true] at hkk
   obtain rfl:=eqK_eq hkk.1.1
   have hlen:xs.length=z:=Nat.eq_of_beq_eq_true hkk.1.2
   have hul:us.length=z:=(RL_length ru).trans hlen
   have hnew:∀ j,j < z->∃ v,us[j]?=some v/\v.oneCell'=true/\(selA (yEq n n) (nthD xs j) (f n j)).R M v:=λ j hj=>by
    obtain ⟨a,v,x1,x2,x3,x4⟩:=RL_at ru (hkk.2) (j:=j) (by omega)
    exact ⟨v,x2,x4,selA_ok _ (by rw [yEq_self,cond_true];unfold nthD;rw [x1];exact x3)⟩
   obtain ⟨ov,h1,h2⟩:=findK_ok (k0:=k0) (n:=n) (j:=0) hY.ints
   have hfk:(Instr.findKey kt (.int kk n) l).run P w=.ok ov w:=by simp [Instr.findKey,run_underlying hkt,h1]
   have old:∀ e,e ∈ l->e.key ≠ .int kk n->∃ m vs,e.key=.int kk m/\e.val=.agg (List.toArray vs)/\vs.length=z/\(∀ j,j < z->∃ v,vs[j]?=some v/\v.oneCell'=true/\(selA (yEq m n) (nthD xs j) (f m j)).R M v)/\yOr (yEq m n) (p m)=true:=λ e he hne=>by
    obtain ⟨m,vs,a1,a2,a3,a4,a5⟩:=hY.ent e he
    have hmn:m ≠ n:=λ e2=>hne (e2 ▸ a1)
    exact ⟨m,vs,a1,a2,a3,λ j hj=>by
     obtain ⟨v,x1,x2,x3⟩:=a4 j hj
     exact ⟨v,x1,x2,selA_ok _ (by rw [yEq_ne' hmn,cond_false];exact x3)⟩,by rw [a5];cases yEq m n <;> rfl⟩
   cases ov with
   | none=>
     refine ⟨_,?_,put_ok r hg hl hM (upd_setObj (heap_lt hb)) ⟨l ++ [{ key:=.int kk n,val:=.agg us.toArray,born:=ck }],ck + 1,rfl,λ e he=>?_,λ i hi=>?_,?_⟩⟩
     . simp [Instr.mapUpdate,run_underlying hu,hgo,hck,hfk,hso]
     . rcases List.mem_append.1 he with he | he
       . exact old e he (h2 e he)
       . obtain rfl:=List.mem_singleton.1 he
         exact ⟨n,us,rfl,rfl,hul,hnew,yOr_l _ (yEq_self n)⟩
     . by_cases hin:i=n
       . subst hin;exact ⟨_,List.mem_append_right _ (List.mem_singleton.2 rfl),rfl⟩
       . rw [yEq_ne' hin] at hi
         obtain ⟨e',q1,q2⟩:=hY.has i hi
         exact ⟨e',List.mem_append_left _ q1,q2⟩
     . rw [List.pairwise_append]
       refine ⟨hY.one,List.pairwise_singleton _ _,λ a ha b hb=>?_⟩
       obtain rfl:=List.mem_singleton.1 hb
       exact h2 a ha
   | some q=>
     obtain ⟨j,y0⟩:=q
     obtain ⟨_,_,e0,q1,q2,_⟩:=h2
     have q1:l[j]?=some e0:=by simpa using q1
     have hks:(Instr.keyThatStays (.int kk n) (.int kk n)).run P w=.ok (.int kk n) w:=by simp [Instr.keyThatStays,Instr.sameBits]
     have hkeys:=keys_modify (vv:=.agg us.toArray) q1 q2
     refine ⟨_,?_,put_ok r hg hl hM (upd_setObj (heap_lt hb)) ⟨l.modify j λ e=>{ e with key:=.int kk n,val:=.agg us.toArray },ck,rfl,λ e he=>?_,λ i hi=>?_,?_⟩⟩
     . simp [Instr.mapUpdate,run_underlying hu,hgo,hck,hfk,q1,q2,hks,hso]
     . by_cases hke:e.key=.int kk n
       . rcases mem_modify he with he2 | ⟨y2,b1,rfl⟩
         . have:e ∈ l:=he2
           obtain ⟨i,hi⟩:=List.getElem?_of_mem he
           rw [List.getElem?_modify] at hi
           by_cases hij:j=i
           . subst hij
             rw [q1] at hi
             simp only [Option.map_eq_map,Option.map_some,↓reduceIte,sI] at hi
             subst hi
             exact ⟨n,us,rfl,rfl,hul,hnew,yOr_l _ (yEq_self n)⟩
           . simp only [hij,↓reduceIte] at hi
             have hi:l[i]?=some e:=by simpa using hi
             exfalso
             have hp:=List.pairwise_iff_getElem.1 hY.one
             obtain ⟨l1,e1⟩:=List.getElem?_eq_some_iff.1 q1
             obtain ⟨l2,e2⟩:=List.getElem?_eq_some_iff.1 hi
             rcases Nat.lt_or_gt_of_ne hij with hlt | hlt
             . exact hp j i l1 l2 hlt (by rw [e1,e2,q2,hke])
             . exact hp i j l2 l1 hlt (by rw [e1,e2,q2,hke])
         . exact ⟨n,us,rfl,rfl,hul,hnew,yOr_l _ (yEq_self n)⟩
       . rcases mem_modify he with he2 | ⟨y2,b1,rfl⟩
         . exact old e he2 hke
         . exact absurd rfl hke
     . have hmem:Value.int kk i ∈ (l.map (·.key)):=by
        by_cases hin:i=n
        . subst hin;rw [<- q2];exact List.mem_map.2 ⟨e0,List.mem_of_getElem? q1,rfl⟩
        . rw [yEq_ne' hin] at hi
          obtain ⟨e',a1,a2⟩:=hY.has i hi
          rw [<- a2];exact List.mem_map.2 ⟨e',a1,rfl⟩
       rw [<- hkeys] at hmem
       obtain ⟨e',a1,a2⟩:=List.mem_map.1 hmem
       exact ⟨e',a1,a2⟩
     . rw [pair_keys,hkeys,<- pair_keys];exact hY.one
theorem mapUpdateW_ok {h h':AH}{w:World}{t:TypeId}{m k x:AV}{mv kv vv:Value}(hl:mapUpdateW P h t m k x=some h')(rm:m.R M mv)(rk:k.R M kv)(rv:x.R M vv)(r:Rel M h w):
 ∃ w',(Instr.mapUpdate t mv kv vv).run P w=.ok () w'/\Rel M h' w'/\Fr h h' M M w w'/\Ab h h':=by
 unfold mapUpdateW at hl
 split at hl
 . rename_i h2 he
   simp only [sI] at hl;subst hl
   exact mapUpdateY_ok he rm rk rv r
 . exact mapUpdateZ_ok hl rm rk rv r
theorem deleteY_ok {h h':AH}{w:World}{t:TypeId}{m k:AV}{mv kv:Value}{tys:Array TypeId}{ty:TypeId}(hl:deleteY P h t m k=some h')(rm:m.R M mv)(rk:k.R M kv)(r:Rel M h w)(ht:tys[0]?=some t)(ars:Array Value)(ha:ars[0]?=some mv/\ars[1]?=some kv):
 ∃ w',(Builtin.delete_ tys ty ars).run P w=.ok (.tuple #[]) w'/\Rel M h' w'/\Fr h h' M M w w'/\Ab h h':=by
 unfold deleteY at hl
 split at hl
 . rename_i kk n id hk
   obtain ⟨rfl,kt,e,k0,hu,hkt⟩:=keyY_ok hk rk
   have hck:∀ em (w:World),(Instr.checkKey em 10000 kt (.int kk n)).run P w=.ok () w:=λ em w=>checkKey_run (d:=9999) hkt w
   simp only [AV.R] at rm
   obtain ⟨b,κ,hM,rfl⟩:=rm
   split at hl
   . rename_i k' kv' p v hg
     obtain ⟨ob,hb,l,ck,rfl,hY⟩:=Ob_of r hg hM
     have hgo:=run_getObj' (P:=P) hb (by simp)
     have hso:=λ o'=>run_setObj' (P:=P) (o':=o') hb (by simp)
     cases hkk:eqK kk k' with
     | false=>rw [hkk] at hl;cases hl
     | true=>
       rw [hkk,cond_true] at hl
       obtain rfl:=eqK_eq hkk
       obtain ⟨ov,h1,h2⟩:=findY_ok (k0:=k0) (n:=n) (j:=0) hY.ints
       have hfk:(Instr.findKey kt (.int kk n) l).run P w=.ok ov w:=by simp [Instr.findKey,run_underlying hkt,h1]
       cases ov with
       | none=>
         refine ⟨_,?_,put_ok r hg hl hM (upd_setObj (heap_lt hb)) ⟨l,ck,rfl,λ e he=>?_,λ i hi=>?_,hY.one⟩⟩
         . simp [Builtin.delete_,ht,ha.1,ha.2,run_underlying hu,hgo,hck,hfk,hso]
         . obtain ⟨m,a1,a2,a3⟩:=hY.ent e he
           have hmn:m ≠ n:=λ e2=>h2 e he (e2 ▸ a1)
           exact ⟨m,a1,a2,by rw [yEq_ne' hmn,a3];rfl⟩
         . have hi2:p i=true:=by
            cases hp:p i with
            | true=>rfl
            | false=>rw [hp] at hi;cases hq:yEq i n <;> rw [hq] at hi <;> cases hi
           exact hY.has i hi2
       | some q=>
         obtain ⟨j,y0⟩:=q
         obtain ⟨_,hlt,rfl,e0,q1,q2⟩:=h2
         have q1:l[j]?=some e0:=by simpa using q1
         have hlt:j < l.length:=by omega
         have hp:=List.pairwise_iff_getElem.1 hY.one
         obtain ⟨l1,e1⟩:=List.getElem?_eq_some_iff.1 q1
         refine ⟨_,?_,put_ok r hg hl hM (upd_setObj (heap_lt hb)) ⟨l.eraseIdx j,ck,rfl,λ e he=>?_,λ i hi=>?_,hY.one.sublist (List.eraseIdx_sublist _ _)⟩⟩
         . simp [Builtin.delete_,ht,ha.1,ha.2,run_underlying hu,hgo,hck,hfk,hso,Array.eraseIdxIfInBounds,hlt]
         . obtain ⟨i,hij,hi⟩:=List.mem_eraseIdx_iff_getElem?.1 he
           obtain ⟨m,a1,a2,a3⟩:=hY.ent e (List.mem_of_getElem? hi)
           have hmn:m ≠ n:=λ e2=>by
            obtain ⟨l2,e3⟩:=List.getElem?_eq_some_iff.1 hi
            rcases Nat.lt_or_gt_of_ne hij with hlt | hlt
            . exact hp i j l2 l1 hlt (by rw [e1,e3,q2,a1,e2])
            . exact hp j i l1 l2 hlt (by rw [e1,e3,q2,a1,e2])
           exact ⟨m,a1,a2,by rw [yEq_ne' hmn,a3];rfl⟩
         . by_cases hin:i=n
           . subst hin;rw [yEq_self] at hi;cases hi
           . rw [yEq_ne' hin] at hi
             obtain ⟨e',a1,a2⟩:=hY.has i hi
             refine ⟨e',List.mem_eraseIdx_iff_getElem?.2 ?_,a2⟩
             obtain ⟨i',hi'⟩:=List.getElem?_of_mem a1
             refine ⟨i',λ e2=>?_,hi'⟩
             subst e2
             rw [q1,sI] at hi'
             subst hi'
             exact hin (int_inj (a2.symm.trans q2))
   . cases hl
 . cases hl
theorem opY_ok {tm:Tr AV}{ρ:Operand->Value}{o:Oper}{h:AH}{w:World}{out:OutA}(ho:(opY P tm o h).sel=some out)(hx:∀ x ∈ o.op.operands.toList,(evT tm x).R M (ρ x))(r:Rel M h w):
 (∀ c,o.op ≠ .defer c)/\OutOk P (execOp ρ o) h M w out:=by
 obtain ⟨dst,op,type,pos,after,guard⟩:=o
 cases op <;> simp only [opY] at ho <;> first | (cases ho;done) | simp only [Op.operands] at hx
 case pick c a b=>
  obtain ⟨v,hl,rfl⟩:=valT_some ho
  obtain ⟨t,hc,hv⟩:=pickY_ok hl (hx c (by simp)) (hx a (by simp)) (hx b (by simp))
  refine ⟨by simp,λ _=>?_⟩
  cases t
  . exact OutV.pure (by simp [execOp,hc,asBool]) hv r
  . exact OutV.pure (by simp [execOp,hc,asBool]) hv r
 case load t a=>
  obtain ⟨v,hl,rfl⟩:=valT_some ho
  obtain ⟨u,h1,h2⟩:=loadY_ok (P:=P) hl (hx a (by simp)) r
  exact ⟨by simp,λ _=>OutV.got (Got.pure r (h1 w rfl).2 h2)⟩
 case store t a x=>
  obtain ⟨h',hl,h2⟩:=T.sel_bind_some ho
  obtain rfl:=(T.sel_ret h2).symm
  exact ⟨by simp,λ _=>OutV.skip (storeY_ok hl (hx a (by simp)) (hx x (by simp)) r)⟩
 case nilCheck x=>
  have ha:=hx x (by simp)
  split at ho
  . rename_i ro id z i j he
    rw [he] at ha
    have ha0:=ha
    simp only [AV.R] at ha
    obtain ⟨b,c,hM,he2⟩:=ha
    obtain rfl:=(T.sel_ret ho).symm
    exact ⟨by simp,λ _=>OutV.pure (by simp [execOp,he2];rfl) (by rw [he2] at ha0;exact ha0) r⟩
  . rename_i z j g he
    rw [he] at ha
    have ha0:=ha
    simp only [AV.R] at ha
    obtain ⟨b,off,cs,he2,_⟩:=ha
    obtain rfl:=(T.sel_ret ho).symm
    exact ⟨by simp,λ _=>OutV.pure (by simp [execOp,he2];rfl) (by rw [he2] at ha0;exact ha0) r⟩
  . cases ho
 case lookup t m k ok=>
  obtain ⟨v,hl,rfl⟩:=valT_some ho
  obtain ⟨u,h1,h2⟩:=lookupT_ok (P:=P) hl (hx m (by simp)) (hx k (by simp)) r
  exact ⟨by simp,λ _=>OutV.got (Got.pure r h1 h2)⟩
 case mapUpdate t m k x=>
  obtain ⟨h',hl,h2⟩:=T.sel_bind_some ho
  rw [T.sel_of] at hl
  obtain rfl:=(T.sel_ret h2).symm
  exact ⟨by simp,λ _=>OutV.skip (mapUpdateW_ok hl (hx m (by simp)) (hx k (by simp)) (hx x (by simp)) r)⟩
 case binOp op t x y yt=>
  obtain ⟨v,hl,rfl⟩:=valT_some ho
  obtain ⟨u,h1,h2⟩:=binY_ok (P:=P) (X:=x) (Y:=y) hl (hx x (by simp)) (hx y (by simp))
  exact ⟨by simp,λ _=>OutV.got (Got.pure r (h1 w) h2)⟩
 case unOp op t x=>
  obtain ⟨v,hl,rfl⟩:=valT_some ho
  obtain ⟨u,h1,h2⟩:=unY_ok (P:=P) hl (hx x (by simp))
  exact ⟨by simp,λ _=>OutV.pure (u:=u) (by simp [execOp,h1]) h2 r⟩
 case convert src dst x=>
  obtain ⟨v,hl,rfl⟩:=valT_some ho
  obtain ⟨u,h1,h2⟩:=convHY_ok (P:=P) hl (hx x (by simp)) r
  exact ⟨by simp,λ _=>OutV.got (Got.pure r h1 h2)⟩
 case makeSlice t l c=>
  obtain ⟨v,h',hl,rfl⟩:=valT2_some ho
  exact ⟨by simp,λ fr=>OutV.got (makeSliceY_ok hl (hx l (by simp)) (hx c (by simp)) r fr)⟩
 case slice t x lo hi mx=>
  obtain ⟨v,hl,rfl⟩:=valT_some ho
  obtain ⟨u,h1,h2⟩:=sliceY_ok (P:=P) hl (hx x (by simp)) (OR_map lo (λ p e=>hx p (by simp [e]))) (OR_map hi (λ p e=>hx p (by simp [e]))) (OR_map mx (λ p e=>hx p (by simp [e])))
  exact ⟨by simp,λ _=>OutV.got (Got.pure r (h1 w) h2)⟩
 case fieldAddr t x f=>
  have ha:=hx x (by simp)
  split at ho
  . rename_i fs ro id z i j hu he
    split at ho
    . rename_i fd hf
      rw [nthF_eq,Array.getElem?_toList] at hf
      split at ho
      . cases ho
      . rename_i n hn hz
        obtain rfl:=(T.sel_ret ho).symm
        rw [he] at ha
        simp only [AV.R] at ha
        obtain ⟨b,c,hM,he2⟩:=ha
        have hn0:¬ (n=0):=λ e=>hn e
        refine ⟨by simp,λ _=>OutV.got (Got.pure (u:=.pointer (some ⟨b,(if ro=true then c else 0) + i * z + j + fd.offset,none⟩)) r ?_ (by simp only [AV.R];exact ⟨b,c,hM,by rw [Nat.add_assoc]⟩))⟩
        simp [Instr.fieldAt,run_underlying hu,hf,Instr.sureAddr,fieldPlace,sizeT_ok hz,hn0,addr_add,he2]
      . cases ho
    . cases ho
  . rename_i fs z j g hu he
    split at ho
    . rename_i fd hf
      rw [nthF_eq,Array.getElem?_toList] at hf
      split at ho
      . cases ho
      . rename_i n hn hz
        obtain rfl:=(T.sel_ret ho).symm
        rw [he] at ha
        simp only [AV.R] at ha
        obtain ⟨b,off,cs,he2,hcs⟩:=ha
        have hn0:¬ (n=0):=λ e=>hn e
        refine ⟨by simp,λ _=>OutV.got (Got.pure (u:=.pointer (some ⟨b,off + j + fd.offset,none⟩)) r ?_ (by simp only [AV.R];exact ⟨b,off,cs,by rw [Nat.add_assoc],hcs⟩))⟩
        simp [Instr.fieldAt,run_underlying hu,hf,Instr.sureAddr,fieldPlace,sizeT_ok hz,hn0,addr_add,he2]
      . cases ho
    . cases ho
  . cases ho
 case indexAddr t x i=>
  obtain ⟨v,hl,rfl⟩:=valT_some ho
  obtain ⟨u,h1,h2⟩:=indexAddrY_ok (P:=P) hl (hx x (by simp)) (hx i (by simp))
  exact ⟨by simp,λ _=>OutV.got (Got.pure r (h1 w) h2)⟩
 case index t x i=>
  obtain ⟨v,hl,rfl⟩:=valT_some ho
  obtain ⟨u,h1,h2⟩:=indexY_ok (P:=P) hl (hx x (by simp)) (hx i (by simp))
  exact ⟨by simp,λ _=>OutV.got (Got.pure r (h1 w) h2)⟩
 case call c=>
  obtain ⟨callee,args,tys⟩:=c
  refine ⟨by simp,?_⟩
  have hargs:∀ p ∈ args.toList,(evT tm p).R M (ρ p):=λ p hp=>hx p (by simp [Call.operands];right;simpa using hp)
  have hmap:∀ (l:List Operand),args.toList=l->args.map ρ=(l.map ρ).toArray:=λ l e=>by subst e;apply Array.ext';simp
  have htys:∀ (l:List TypeId),tys.toList=l->tys=l.toArray:=λ l e=>by subst e;simp
  cases callee with
  | value f=>cases ho
  | invoke x n=>cases ho
  | builtin b=>
    cases b <;> first | (cases ho;done) | skip
    case len=>
     simp only at ho
     split at ho
     . rename_i t ts x xs e1 e2
       obtain ⟨v,hl,rfl⟩:=valT_some ho
       obtain ⟨u,h1,h2⟩:=lenY_ok (P:=P) (ty:=type) (w:=w) hl (hargs x (by simp [e2]))
       have hr:∀ l,(Builtin.len_ #[t] type #[ρ x]).run P w=l->(Builtin.len_ tys type (args.map ρ)).run P w=l:=λ l e=>by
        rw [<- e,htys _ e1,hmap _ e2];simp [Builtin.len_]
       exact λ _=>OutV.pure (u:=u) (by simp [execOp,resolve,invoke,builtin,hr _ h1]) h2 r
     . cases ho
    case append=>
     simp only at ho
     split at ho
     . rename_i t ts x y xs e1 e2
       obtain ⟨v,h',hl,rfl⟩:=valT2_some ho
       intro fr
       cases ts with
       | nil=>
         exfalso
         simp only [List.head?_nil] at hl
         exact appendY_none hl
       | cons t2 ts=>
         have g:=appendY_ok (P:=P) (ty:=type) (tx:=t2) (by simpa using hl) (hargs x (by simp [e2])) (hargs y (by simp [e2])) r fr
         obtain ⟨M',u,w',h1,h2,h3,h4,h5⟩:=g
         have hr:∀ l,(Builtin.append_ #[t,t2] type #[ρ x,ρ y]).run P w=l->(Builtin.append_ tys type (args.map ρ)).run P w=l:=λ l e=>by
          rw [<- e,htys _ e1,hmap _ e2];simp [Builtin.append_]
         exact ⟨M',u,w',.value u,by simp [execOp,resolve,invoke,builtin,hr _ h1],.inl rfl,h2,h3,h4,h5⟩
     . cases ho
    case delete=>
     simp only at ho
     split at ho
     . rename_i t ts x y rest e1 e2
       obtain ⟨h',hl,h2⟩:=T.sel_bind_some ho
       rw [T.sel_of] at hl
       obtain rfl:=(T.sel_ret h2).symm
       obtain ⟨w',h1,h3,h4,h5⟩:=deleteY_ok (P:=P) (ty:=type) (tys:=tys) hl (hargs x (by simp [e2])) (hargs y (by simp [e2])) r (by rw [htys _ e1];simp) (args.map ρ) (by rw [hmap _ e2];simp)
       exact λ _=>⟨M,.tuple #[],w',.value (.tuple #[]),by simp [execOp,resolve,invoke,builtin,h1],.inl rfl,by simp [undefA,AV.R,AV.RL],h3,h4,h5⟩
     . cases ho
    case min=>
     simp only at ho
     split at ho
     . rename_i x y e2
       obtain ⟨v,hl,rfl⟩:=valT_some ho
       obtain ⟨u,h1,h2⟩:=minY_ok (P:=P) (ty:=type) (tys:=tys) hl (hargs x (by simp [e2])) (hargs y (by simp [e2]))
       have hr:∀ l,(Builtin.min_ tys type #[ρ x,ρ y]).run P w=l->(Builtin.min_ tys type (args.map ρ)).run P w=l:=λ l e=>by
        rw [<- e,hmap _ e2];rfl
       exact λ _=>OutV.pure (u:=u) (by simp [execOp,resolve,invoke,builtin,hr _ (h1 w)]) h2 r
     . cases ho
    case max=>
     simp only at ho
     split at ho
     . rename_i x y e2
       obtain ⟨v,hl,rfl⟩:=valT_some ho
       obtain ⟨u,h1,h2⟩:=maxY_ok (P:=P) (ty:=type) (tys:=tys) hl (hargs x (by simp [e2])) (hargs y (by simp [e2]))
       have hr:∀ l,(Builtin.max_ tys type #[ρ x,ρ y]).run P w=l->(Builtin.max_ tys type (args.map ρ)).run P w=l:=λ l e=>by
        rw [<- e,hmap _ e2];rfl
       exact λ _=>OutV.pure (u:=u) (by simp [execOp,resolve,invoke,builtin,hr _ (h1 w)]) h2 r
     . cases ho
theorem mvA_some {tm:Tr AV}{o:Oper}{b:Bool}(h:mvA tm o=some b):∃ x,o.op=.move x/\evT tm x=.yb b:=by
 rw [mvA_eq] at h
 split at h
 . rename_i x hop
   split at h
   . rename_i b' he
     simp only [sI] at h;subst h
     exact ⟨x,hop,he⟩
   . cases h
 . cases h
theorem opS_ok {tm:Tr AV}{ρ:Operand->Value}{o:Oper}{h:AH}{w:World}{out:OutA}(ho:opS P tm o h=some out)(hx:∀ x ∈ o.op.operands.toList,(evT tm x).R M (ρ x))(r:Rel M h w):
 (∀ c,o.op ≠ .defer c)/\OutOk P (execOp ρ o) h M w out:=by
 rw [opS_eq] at ho
 split at ho
 . rename_i b hb
   obtain ⟨x,hop,he⟩:=mvA_some hb
   simp only [sI] at ho;subst ho
   have hxx:=hx x (by rw [hop];simp [Op.operands])
   rw [he] at hxx
   exact ⟨by rw [hop];simp,λ _=>OutV.pure (u:=ρ x) (by simp [execOp,hop]) (by simpa only [AV.R] using hxx) r⟩
 . split at ho
   . rename_i out' ha
     simp only [sI] at ho;subst ho
     exact opA_ok ha hx r
   . exact opY_ok ho hx r
theorem storeY_ab {h h':AH}{t:TypeId}{a v:AV}(hl:(storeY P h t a v).sel=some h'):Ab h h':=by
 unfold storeY at hl
 split at hl
 . split at hl
   . rename_i hg
     split at hl
     . simp only [Bool.cond_eq_ite] at hl
       split at hl
       . split at hl
         . rename_i hp
           obtain ⟨_,hs⟩:=T.sel_must hl
           obtain rfl:=T.sel_ret hs
           exact put_ab hg hp
         . cases hl
       . cases hl
     . cases hl
   . rename_i hg
     split at hl
     . simp only [Bool.cond_eq_ite] at hl
       split at hl
       . split at hl
         . rename_i hp
           obtain ⟨_,hs⟩:=T.sel_must hl
           obtain rfl:=T.sel_ret hs
           exact put_ab hg hp
         . cases hl
       . cases hl
     . cases hl
   . cases hl
 . cases hl
theorem makeSliceY_ab {h h':AH}{t:TypeId}{l c v:AV}(hl:(makeSliceY P h t l c).sel=some (v,h')):Ab h h':=by
 unfold makeSliceY at hl
 split at hl
 . split at hl
   . split at hl
     . simp only [Bool.cond_eq_ite] at hl
       split at hl
       . obtain ⟨_,hl⟩:=T.sel_must hl
         obtain ⟨_,hl⟩:=T.sel_must hl
         obtain ⟨_,hl⟩:=T.sel_must hl
         split at hl
         . rename_i hn
           have:=T.sel_ret hl
           simp only [Prod.mk.injEq] at this
           obtain ⟨_,rfl⟩:=this
           exact new_ab hn
         . cases hl
       . cases hl
     . cases hl
   . cases hl
 . cases hl
theorem newArr_ab {h h':AH}{e:TypeId}{z m:Nat}{nil:Bool}{f:Nat->Nat->AV}{v:AV}(ha:(newArr h e z m nil f).sel=some (v,h')):Ab h h':=new_ab (newArr_sel ha).1
theorem ret_ab {h h':AH}{v w:AV}(hl:(T.ret (w,h)).sel=some (v,h')):Ab h h':=by
 have:=T.sel_ret hl
 simp only [Prod.mk.injEq] at this
 obtain ⟨_,rfl⟩:=this
 exact Ab.refl h
theorem appendY0_ab {h h':AH}{t:TypeId}{tx:Option TypeId}{s x v:AV}(hl:(appendY0 P h t tx s x).sel=some (v,h')):Ab h h':=by
 unfold appendY0 at hl
 split at hl
 . split at hl
   . simp only [Bool.cond_eq_ite] at hl
     split at hl
     . split at hl
       . obtain ⟨⟨m,f⟩,_,hl⟩:=T.sel_bind_some hl
         obtain ⟨_,hl⟩:=T.sel_must hl
         exact newArr_ab hl
       . obtain ⟨⟨m,f⟩,_,hl⟩:=T.sel_bind_some hl
         obtain ⟨_,hl⟩:=T.sel_must hl
         exact newArr_ab hl
       . split at hl
         . obtain ⟨⟨m,f⟩,_,hl⟩:=T.sel_bind_some hl
           rcases T.sel_br hl with ⟨_,hl⟩ | ⟨_,hl⟩
           . exact ret_ab hl
           . obtain ⟨_,hl⟩:=T.sel_must hl
             exact newArr_ab hl
         . cases hl
       . split at hl
         . split at hl
           . split at hl
             . obtain ⟨⟨m,f⟩,_,hl⟩:=T.sel_bind_some hl
               rcases T.sel_br hl with ⟨_,hl⟩ | ⟨_,hl⟩
               . exact ret_ab hl
               . obtain ⟨_,hl⟩:=T.sel_must hl
                 exact newArr_ab hl
             . cases hl
           . cases hl
         . cases hl
       . split at hl
         . split at hl
           . obtain ⟨⟨m,f⟩,_,hl⟩:=T.sel_bind_some hl
             obtain ⟨_,hl⟩:=T.sel_must hl
             obtain ⟨_,hl⟩:=T.sel_must hl
             split at hl
             . rename_i hd
               exact (del_ab hd).trans (newArr_ab hl)
             . cases hl
           . cases hl
         . cases hl
       . split at hl
         . split at hl
           . obtain ⟨⟨m,f⟩,_,hl⟩:=T.sel_bind_some hl
             obtain ⟨_,hl⟩:=T.sel_must hl
             obtain ⟨_,hl⟩:=T.sel_must hl
             split at hl
             . rename_i hd
               split at hl
               . rename_i hn
                 have:=T.sel_ret hl
                 simp only [Prod.mk.injEq] at this
                 obtain ⟨_,rfl⟩:=this
                 exact (del_ab hd).trans (new_ab hn)
               . cases hl
             . cases hl
           . cases hl
         . cases hl
       . split at hl
         . split at hl
           . obtain ⟨⟨m,f⟩,_,hl⟩:=T.sel_bind_some hl
             rcases T.sel_br hl with ⟨_,hl⟩ | ⟨_,hl⟩
             . exact ret_ab hl
             . obtain ⟨_,hl⟩:=T.sel_must hl
               split at hl
               . rename_i hd
                 exact (del_ab hd).trans (newArr_ab hl)
               . cases hl
           . cases hl
         . cases hl
       . cases hl
     . cases hl
   . cases hl
 . cases hl
theorem appendY_ab {h h':AH}{t:TypeId}{tx:Option TypeId}{s x v:AV}(hl:(appendY P h t tx s x).sel=some (v,h')):Ab h h':=by
 unfold appendY at hl
 split at hl
 . split at hl
   . split at hl
     . rename_i p hp
       unfold rowOf at hp
       simp only [Bool.cond_eq_ite] at hp
       repeat' split at hp
       all_goals first
        | (cases hp;done)
        | (simp only [sI] at hp
           subst hp
           exact (put_ab (by assumption) (by assumption)).trans (appendY0_ab hl))
     . exact appendY0_ab hl
   . cases hl
 . cases hl
theorem mapUpdateY_ab {h h':AH}{t:TypeId}{m k v:AV}(hl:mapUpdateY P h t m k v=some h'):Ab h h':=by
 unfold mapUpdateY at hl
 simp only [Bool.cond_eq_ite] at hl
 repeat' split at hl
 all_goals first | (cases hl;done) | (exact put_ab (by assumption) hl)
theorem mapUpdateW_ab {h h':AH}{t:TypeId}{m k v:AV}(hl:mapUpdateW P h t m k v=some h'):Ab h h':=by
 unfold mapUpdateW at hl
 split at hl
 . rename_i he
   simp only [sI] at hl;subst hl
   exact mapUpdateY_ab he
 . unfold mapUpdateZ at hl
   simp only [Bool.cond_eq_ite] at hl
   repeat' split at hl
   all_goals first | (cases hl;done) | (exact put_ab (by assumption) hl)
theorem deleteY_ab {h h':AH}{t:TypeId}{m k:AV}(hl:deleteY P h t m k=some h'):Ab h h':=by
 unfold deleteY at hl
 simp only [Bool.cond_eq_ite] at hl
 repeat' split at hl
 all_goals first | (cases hl;done) | (exact put_ab (by assumption) hl)
theorem opY_ab {tm:Tr AV}{o:Oper}{h h':AH}{v:AV}(ho:(opY P tm o h).sel=some (.val v h')):Ab h h':=by
 have hv:∀ {t:T AV},(valT h t).sel=some (.val v h')->Ab h h':=λ e=>by
  obtain ⟨v2,_,e2⟩:=valT_some e;cases e2;exact Ab.refl h
 have hv2:∀ {t:T (AV × AH)},(∀ v2 h2,t.sel=some (v2,h2)->Ab h h2)->(valT2 t).sel=some (.val v h')->Ab h h':=λ k e=>by
  obtain ⟨v2,h2,e1,e2⟩:=valT2_some e;cases e2;exact k _ _ e1
 unfold opY at ho
 repeat' split at ho
 all_goals first
  | (cases ho;done)
  | exact hv ho
  | (have e:=T.sel_ret ho;simp only [OutA.val.injEq] at e;obtain ⟨_,rfl⟩:=e;exact Ab.refl _)
  | exact hv2 (λ _ _ e=>makeSliceY_ab e) ho
  | exact hv2 (λ _ _ e=>appendY_ab e) ho
  | (obtain ⟨h2,e1,e2⟩:=T.sel_bind_some ho;have e:=T.sel_ret e2;simp only [OutA.val.injEq] at e;obtain ⟨_,rfl⟩:=e;exact storeY_ab e1)
  | (obtain ⟨h2,e1,e2⟩:=T.sel_bind_some ho;rw [T.sel_of] at e1;have e:=T.sel_ret e2;simp only [OutA.val.injEq] at e;obtain ⟨_,rfl⟩:=e;exact mapUpdateW_ab e1)
  | (obtain ⟨h2,e1,e2⟩:=T.sel_bind_some ho;rw [T.sel_of] at e1;have e:=T.sel_ret e2;simp only [OutA.val.injEq] at e;obtain ⟨_,rfl⟩:=e;exact deleteY_ab e1)
theorem opS_ab {tm:Tr AV}{o:Oper}{h h':AH}{v:AV}(ho:opS P tm o h=some (.val v h')):Ab h h':=by
 rw [opS_eq] at ho
 split at ho
 . simp only [sI,OutA.val.injEq] at ho;obtain ⟨_,rfl⟩:=ho;exact Ab.refl _
 . split at ho
   . rename_i out' ha
     simp only [sI] at ho;subst ho
     exact opA_ab ha
   . exact opY_ab ho
end
def FW (r:Option Nat):Fence:={ fn:=λ _=>True,depth:=none,alive:=false,round:=r }
def exitOf:AX->Exit
 | .nm=>.normal
 | .ex id=>.exit id
 | .rt=>.ret
def RdR (M:Mp):Option Nat->Option Nat->Prop
 | none,r=>r=none
 | some l,r=>∃ b κ,M l=some (b,κ)/\r=some b
def DfR (M:Mp):List Nat->List Deferred->Prop
 | [],ds=>ds=[]
 | d :: l,ds=>∃ b κ ds',M d=some (b,κ)/\DfR M l ds'/\ds={ target:=.collected b,args:=#[] } :: ds'
theorem DfR.mono {M M':Mp}(h:Le M M'):∀ {l:List Nat} {ds:List Deferred},DfR M l ds->DfR M' l ds
 | [],_,r=>r
 | _ :: _,_,⟨b,κ,ds',r1,r2,r3⟩=>⟨b,κ,ds',h _ _ r1,DfR.mono h r2,r3⟩
theorem RdR.mono {M M':Mp}(h:Le M M'):∀ {l r:Option Nat},RdR M l r->RdR M' l r
 | none,_,e=>e
 | some _,_,⟨b,κ,r1,r2⟩=>⟨b,κ,h _ _ r1,r2⟩
structure StR (M:Mp)(s:St)(a:Act)(w:World):Prop where
 tm:TR M s.tm a.tmps
 sz:a.tmps.size=s.sz
 df:DfR M s.df a.defers
 h:Rel M s.h w
def SmCall (P:Program)(f:FuncId)(g:List AV->AH->Option (AV × AH)):Prop:=∀ args h v h',g args h=some (v,h')->(h.nx<=h'.nx/\Ab h h') ∧
 ∀ (M:Mp) (us:List Value) (w:World) (r:Option Nat) (R:Ending->World->Prop),AV.RL M args us->Rel M h w->Fresh M h h' →
   (∀ M' u w',v.R M' u->Rel M' h' w'->Fr h h' M M' w w'->Ab h h'->R (.returned u) w') →
   (callFunc f us.toArray).run P w=.ok (.enter f us.toArray) w/\CallsIn (FW r) 0 P f us.toArray w R
def SmVal (P:Program)(f:FuncId)(g:List AV->Option AV):Prop:=∀ args v (M:Mp) (us:List Value) (w:World),g args=some v->AV.RL M args us->∃ u,(callFunc f us.toArray).run P w=.ok (.value u) w/\v.R M u
def SmOK (P:Program)(sm:FuncId->Option Sm):Prop:=∀ f,(∀ g,sm f=some (.call g)->SmCall P f g)/\(∀ g,sm f=some (.val g)->SmVal P f g)/\(∀ g,sm f=some (.ct g)->SmCall P f λ a h=>(g a h).sel)
structure Good (P:Program)(rec:Rc):Prop where
 code:∀ c s x s',rec.code c s=some (x,s')->(s.h.nx<=s'.h.nx/\Ab s.h s'.h)/\s'.sz=s.sz/\s'.rd=s.rd ∧
  ∀ (M:Mp) (a:Act) (w:World) (r:Option Nat) (Q:Exit->Act->World->Prop),StR M s a w->RdR M s.rd r->Fresh M s.h s'.h →
    (∀ M' a' w',StR M' s' a' w'->Fr s.h s'.h M M' w w'->Ab s.h s'.h->Q (exitOf x) a' w')->c.wpIn (FW r) 0 P Q a w
 sm:SmOK P rec.sm
theorem TR.put {M:Mp}{tm tm':Tr AV}{tmps:Array Value}{d:Nat}{v:AV}{u:Value}(r:TR M tm tmps)(hd:d < tmps.size)(hs:Tr.set 64 tm (Nat.succ d) (some v)=some tm')(rv:v.R M u):TR M tm' (tmps.setIfInBounds d u):=by
 intro n
 rw [Tr.get_set _ _ _ _ _ hs]
 by_cases h:n=d
 . subst h
   simpa [hd] using rv
 . have h1:n + 1 ≠ Nat.succ d:=by omega
   have h2:=r n
   rw [if_neg h1]
   have:(tmps.setIfInBounds d u).getD n undef=tmps.getD n undef:=by
    simp only [Array.getD_eq_getD_getElem?,Array.getElem?_setIfInBounds_ne (Ne.symm h)]
   rw [this];exact h2
theorem putA_ok {M:Mp}{s s':St}{a:Act}{w:World}{dst:Option Tmp}{v:AV}{u:Value}(h:putA s dst v=some s')(r:StR M s a w)(rv:v.R M u):StR M s' (a.put dst u) w:=by
 rw [putA_eq] at h
 split at h
 . simp only [sI] at h;subst h;exact r
 . rename_i d
   simp only [nblt,Bool.cond_decide] at h
   split at h
   . rename_i hd
     split at h
     . rename_i t ht
       simp only [sI] at h;subst h
       refine ⟨r.tm.put (by rw [r.sz];exact hd) ht rv,?_,r.df,r.h⟩
       have:=r.sz
       simpa [Act.put] using this
     . cases h
   . cases h
theorem putA_same {s s':St}{dst:Option Tmp}{v:AV}(h:putA s dst v=some s'):s'.h=s.h/\s'.sz=s.sz/\s'.rd=s.rd/\s'.df=s.df:=by
 rw [putA_eq] at h
 split at h
 . simp only [sI] at h;subst h;exact ⟨rfl,rfl,rfl,rfl⟩
 . simp only [nblt,Bool.cond_decide] at h
   split at h
   . split at h
     . simp only [sI] at h;subst h;exact ⟨rfl,rfl,rfl,rfl⟩
     . cases h
   . cases h
theorem ev_ok {M:Mp}{tm:Tr AV}{a:Act}(r:TR M tm a.tmps)(x:Operand):(evT tm x).R M (a.eval x):=by
 cases x with
 | tmp t=>rw [evT_tmp];exact r t
 | const v=>exact ofV_R M 2 v
 | global g=>rfl
 | func f=>simp only [evT,AV.R,Act.eval];exact ⟨[],rfl,rfl⟩
theorem initT_get:∀ (l:List AV) (t t':Tr AV) (k:Nat),initT t k l=some t'->∀ q,t'.get (q + 1)=if k<=q/\q < k + l.length then l[q - k]? else t.get (q + 1)
 | [],t,t',k,h,q=>by
   simp only [initT,sI] at h;subst h
   rw [if_neg (by simp only [List.length_nil];omega)]
 | a :: l,t,t',k,h,q=>by
   simp only [initT] at h
   split at h
   . rename_i t1 h1
     rw [initT_get l t1 t' (k + 1) h q,Tr.get_set _ _ _ _ _ h1]
     by_cases hq:q=k
     . subst hq;rw [if_neg (by omega),if_pos rfl,if_pos (by simp)];simp
     . have e:¬ (q + 1=Nat.succ k):=by omega
       rw [if_neg e]
       by_cases hk:k<=q/\q < k + (a :: l).length
       . rw [if_pos hk,if_pos (by simp at hk ⊢;omega)]
         rw [show q - k=(q - (k + 1)) + 1 by omega]
         simp
       . rw [if_neg hk,if_neg (by simp at hk ⊢;omega)]
   . cases h
theorem RL_get {M:Mp}:∀ {l:List AV} {vs:List Value} (q:Nat) (a:AV),AV.RL M l vs->l[q]?=some a->∃ v,vs[q]?=some v/\a.R M v
 | [],_,q,a,_,h=>by simp at h
 | x :: l,vs,0,a,r,h=>by
   simp only [AV.RL] at r;obtain ⟨v,vs',r1,r2,rfl⟩:=r
   simp at h;subst h
   exact ⟨v,rfl,r1⟩
 | x :: l,vs,q + 1,a,r,h=>by
   simp only [AV.RL] at r;obtain ⟨v,vs',r1,r2,rfl⟩:=r
   simpa using RL_get q a r2 (by simpa using h)
theorem initT_TR {M:Mp}{args:List AV}{us:List Value}{t:Tr AV}{n:Nat}(h:initT .lf 0 args=some t)(r:AV.RL M args us):TR M t (us.toArray ++ Array.replicate n undef):=by
 intro q
 rw [initT_get args .lf t 0 h q]
 have hl:=RL_length r
 by_cases hq:q < args.length
 . rw [if_pos (by omega)]
   obtain ⟨v,h1,h2⟩:=RL_get q args[q] r (by simp [hq])
   have:(us.toArray ++ Array.replicate n undef).getD q undef=v:=by
    have hq2:q < us.length:=by omega
    simp [Array.getD_eq_getD_getElem?,Array.getElem?_append,hq2]
    exact (List.getElem?_eq_some_iff.1 h1).2
   rw [this]
   simpa [hq] using h2
 . rw [if_neg (by omega)]
   have:(us.toArray ++ Array.replicate n undef).getD q undef=undef:=by
    have hq2:¬ q < us.length:=by omega
    simp only [Array.getD_eq_getD_getElem?,Array.getElem?_append,List.size_toArray,hq2,if_false]
    by_cases h3:q - us.length < n <;> simp [h3]
   rw [this]
   simp [Tr.get_lf,undefA,AV.R,AV.RL,undef]
section
variable {P : Program} {M : Mp}
theorem takeAll_ok {fn:Func}{tmps:Array Value}{R:Ending->World->Prop}{r:Option Nat}:∀ {l:List Nat} {h h':AH} {w:World} {ds:List Deferred},takeAll h l=some h'->DfR M l ds->Rel M h w →
 h.nx=h'.nx/\((∀ w',Rel M h' w'->Fr h h' M M w w'->Ab h h'->∃ v,(results fn tmps).run P w'=.ok v w'/\R (.returned v) w')->LeavesInM (FW r) 0 P fn tmps R ds .returning w)
 | [],h,h',w,ds,ht,rd,rr=>by
   simp only [takeAll,sI] at ht;subst ht
   simp only [DfR] at rd;subst rd
   exact ⟨rfl,λ k=>k w rr (Fr.same h M w) (Ab.refl h)⟩
 | d :: l,h,h',w,ds,ht,rd,rr=>by
   simp only [takeAll] at ht
   simp only [DfR] at rd
   obtain ⟨b,κ,ds',hM,r2,rfl⟩:=rd
   split at ht
   . rename_i hg
     split at ht
     . rename_i h1 hp
       obtain ⟨ob,hb,ho⟩:=Ob_of rr hg hM
       simp only [ObR,if_true] at ho;subst ho
       obtain ⟨q1,q2,q3⟩:=put_ok (ob:=.deferred none) (w':=w.putObj b (.deferred none)) rr hg hp hM (upd_setObj (heap_lt hb)) (by simp [ObR])
       obtain ⟨e1,e2⟩:=takeAll_ok (fn:=fn) (tmps:=tmps) (R:=R) (r:=r) ht r2 q1
       have hnx:=(AH.put_nx hp).1
       refine ⟨by omega,λ k=>⟨by simp,.inl ⟨b,_,rfl,run_takeDeferred hb,e2 λ w' t1 t2 t3=>k w' t1 ?_ (q3.trans t3)⟩⟩⟩
       exact q2.trans q3.nx (by omega) t2
     . cases ht
   . cases ht
theorem takeAll_ab:∀ {l:List Nat} {h h':AH},takeAll h l=some h'->Ab h h'
 | [],h,h',e=>by simp only [takeAll,sI] at e;subst e;exact Ab.refl _
 | d :: l,h,h',e=>by
   simp only [takeAll] at e
   split at e
   . rename_i hg
     split at e
     . rename_i h1 hp
       exact (put_ab hg hp).trans (takeAll_ab e)
     . cases e
   . cases e
def resF (tmps:Array Value):ResultVar->Sem Value
 | .tmp t=>pure (tmps.getD t undef)
 | .cell x t=>do loadVar t (← asAddr (tmps.getD x undef))
theorem results_eq (fn:Func)(tmps:Array Value):results fn tmps=(fn.results.mapM (resF tmps) >>= λ vs=>pure (if h:vs.size=1 then vs[0] else .tuple vs)):=by
 unfold results
 congr 1
theorem resOne_ok {h:AH}{w:World}{tm:Tr AV}{a:Act}{rv:ResultVar}{v:AV}(hr:resOne P tm h rv=some v)(rt:TR M tm a.tmps)(r:Rel M h w):
 ∃ u,(resF a.tmps rv).run P w=.ok u w/\v.R M u:=by
 cases rv with
 | tmp t=>
   simp only [resOne,sI] at hr;subst hr
   exact ⟨_,rfl,ev_ok rt (.tmp t)⟩
 | cell x t=>
   simp only [resOne] at hr
   have hx:=ev_ok rt (.tmp x)
   obtain ⟨u,h1,h2⟩:=load_ok (P:=P) hr hx r
   refine ⟨u,?_,h2⟩
   obtain ⟨e1,e2⟩:=h1 w rfl
   simp only [Instr.loadAt,Sem.run_bind] at e2
   simp only [resF,Sem.run_bind,<- e2]
   have:a.eval (.tmp x)=a.tmps.getD x undef:=rfl
   rw [<- this,e1]
theorem resAll_ok {h:AH}{w:World}{tm:Tr AV}{a:Act}(rt:TR M tm a.tmps)(r:Rel M h w):∀ {l:List ResultVar} {vs:List AV},resAll P tm h l=some vs →
 ∃ us,(l.mapM (resF a.tmps)).run P w=.ok us w/\AV.RL M vs us
 | [],vs,hr=>by simp only [resAll,sI] at hr;subst hr;exact ⟨[],by simp,rfl⟩
 | rv :: l,vs,hr=>by
   simp only [resAll] at hr
   split at hr
   . rename_i v hv
     split at hr
     . rename_i vs' hvs
       simp only [sI] at hr;subst hr
       obtain ⟨u,h1,h2⟩:=resOne_ok hv rt r
       obtain ⟨us,h3,h4⟩:=resAll_ok rt r hvs
       refine ⟨u :: us,?_,by simp only [AV.RL];exact ⟨u,us,h2,h4,rfl⟩⟩
       simp only [List.mapM_cons,Sem.run_bind,h1,Result.andThen_ok,h3,Sem.run_pure]
     . cases hr
   . cases hr
theorem resA_ok {h:AH}{w:World}{tm:Tr AV}{a:Act}{fn:Func}{v:AV}(hr:resA P tm h fn.results.toList=some v)(rt:TR M tm a.tmps)(r:Rel M h w):
 ∃ u,(results fn a.tmps).run P w=.ok u w/\v.R M u:=by
 unfold resA at hr
 cases hra:resAll P tm h fn.results.toList with
 | none=>simp [hra] at hr
 | some vs=>
   obtain ⟨us,h1,h2⟩:=resAll_ok rt r hra
   have hrun:∀ u,(if hh:us.toArray.size=1 then us.toArray[0] else Value.tuple us.toArray)=u->(results fn a.tmps).run P w=.ok u w:=λ u e=>by
    rw [results_eq,Array.mapM_eq_mapM_toList]
    simp only [Sem.run_bind,Sem.run_map,h1,Result.andThen_ok,Sem.run_pure,e]
   rw [hra] at hr
   have hl:=RL_length h2
   match vs,hr with
   | [],hr=>
     simp only [sI] at hr;subst hr
     have:us=[]:=by simpa using hl
     subst this
     exact ⟨.tuple #[],hrun _ (by simp),by simp [AV.R,AV.RL]⟩
   | [x],hr=>
     simp only [sI] at hr;subst hr
     simp only [AV.RL] at h2
     obtain ⟨u,vs',r1,r2,rfl⟩:=h2
     subst r2
     exact ⟨u,hrun _ (by simp),r1⟩
   | x :: y :: l,hr=>
     simp only [sI] at hr;subst hr
     refine ⟨.tuple us.toArray,hrun _ (by rw [dif_neg (by simp [hl])]),by simp only [AV.R];exact ⟨us,h2,rfl⟩⟩
theorem callA_ok {rec:Rc}(hG:Good P rec){f:FuncId}{args:List AV}{h h':AH}{v:AV}(hc:callA P rec f args h=some (v,h')):
 (h.nx<=h'.nx/\Ab h h')/\∀ (M:Mp) (us:List Value) (w:World) (r:Option Nat) (R:Ending->World->Prop),AV.RL M args us->Rel M h w->Fresh M h h' →
   (∀ M' u w',v.R M' u->Rel M' h' w'->Fr h h' M M' w w'->Ab h h'->R (.returned u) w') →
   (callFunc f us.toArray).run P w=.ok (.enter f us.toArray) w/\CallsIn (FW r) 0 P f us.toArray w R:=by
 unfold callA at hc
 split at hc
 . rename_i g hsm
   exact (hG.sm f).1 g hsm args h v h' hc
 . rename_i g hsm
   exact (hG.sm f).2.2 g hsm args h v h' hc
 . cases hc
 . split at hc
   case h_2=>cases hc
   rename_i fn hf
   cases hok:okFn fn with
   | false=>rw [hok] at hc;cases hc
   | true=>
     rw [hok,cond_true] at hc
     split at hc
     . rename_i c hb
       split at hc
       . rename_i tm htm
         have main:∀ (x:AX) (s:St),rec.code c ⟨tm,max fn.ntmps args.length,[],none,h⟩=some (x,s)->(x=.nm ∨ x=.rt) →
          (match takeAll s.h s.df with
            | some h'=>match resA P s.tm h' fn.results.toList with
              | some v=>some (v,h')
              | none=>none
            | none=>none)=some (v,h') →
          (h.nx<=h'.nx/\Ab h h')/\∀ (M:Mp) (us:List Value) (w:World) (r:Option Nat) (R:Ending->World->Prop),AV.RL M args us->Rel M h w->Fresh M h h' →
            (∀ M' u w',v.R M' u->Rel M' h' w'->Fr h h' M M' w w'->Ab h h'->R (.returned u) w') →
            (callFunc f us.toArray).run P w=.ok (.enter f us.toArray) w/\CallsIn (FW r) 0 P f us.toArray w R:=by
          intro x s hrec hx hrest
          obtain ⟨⟨g1,ga⟩,g2,g3,g4⟩:=hG.code _ _ _ _ hrec
          split at hrest
          . rename_i h2 htk
            split at hrest
            . rename_i v2 hres
              simp only [sI,Prod.mk.injEq] at hrest
              obtain ⟨rfl,rfl⟩:=hrest
              have hnx:s.h.nx=h2.nx:=by
               clear g4
               generalize s.df=l at htk
               generalize s.h=hh at htk
               induction l generalizing hh with
               | nil=>simp only [takeAll,sI] at htk;rw [htk]
               | cons d l ih=>
                 simp only [takeAll] at htk
                 split at htk
                 . split at htk
                   . rename_i h1 hp
                     have:=(AH.put_nx hp).1
                     rw [<- ih h1 htk];omega
                   . cases htk
                 . cases htk
              refine ⟨⟨by simp only at g1;omega,ga.trans (takeAll_ab htk)⟩,λ M us w r R ra rr fr k=>⟨?_,?_⟩⟩
              · have hnn : ¬ (fn.name = "runtime.NumGoroutine") := by simpa [okFn] using hok
                simp [callFunc,hf,hnn,hb]
              . show CallsIn (FW none) 0 P f us.toArray w R
                refine callsIn_of_wp_marks hf hb trivial ?_
                have hl:=RL_length ra
                have hfr:Fresh M h s.h:=λ id e1 e2=>fr id e1 (by omega)
                refine g4 M _ w none _ ⟨?_,?_,rfl,rr⟩ rfl hfr ?_
                . simp only
                  exact initT_TR htm ra
                . simp only [Array.size_append,List.size_toArray,Array.size_replicate,hl];omega
                . intro M' a' w' st f1 a1
                  have tk:=takeAll_ok (M:=M') (fn:=fn) (tmps:=a'.tmps) (R:=R) (r:=none) (P:=P) htk st.df st.h
                  have fin:=tk.2 (λ w2 t1 t2 t3=>by
                   obtain ⟨u,e1,e2⟩:=resA_ok (a:=a') hres st.tm t1
                   exact ⟨u,e1,k M' u w2 e2 t1 (f1.trans a1.nx t3.nx t2) (a1.trans t3)⟩)
                  rcases hx with rfl | rfl
                  . exact fin
                  . exact fin
            . cases hrest
          . cases hrest
         split at hc
         . rename_i s hrec;exact main _ _ hrec (.inl rfl) hc
         . rename_i s hrec;exact main _ _ hrec (.inr rfl) hc
         . cases hc
       . cases hc
     . cases hc
end
section
variable {P : Program} {M : Mp}
theorem setPs_ok:∀ {ps:List Tmp} {args:List AV} {tm tm':Tr AV} {sz:Nat} {tmps:Array Value} {us:List Value},setPs tm sz ps args=some tm'->TR M tm tmps->tmps.size=sz->AV.RL M args us →
 TR M tm' ((ps.zip us).foldl (λ t p=>t.setIfInBounds p.1 p.2) tmps)/\((ps.zip us).foldl (λ t p=>t.setIfInBounds p.1 p.2) tmps).size=sz/\us.length=ps.length
 | [],[],tm,tm',sz,tmps,us,h,r,hs,ra=>by
   simp only [setPs,sI] at h;subst h
   simp only [AV.RL] at ra;subst ra
   exact ⟨r,hs,rfl⟩
 | [],_ :: _,_,_,_,_,_,h,_,_,_=>by simp [setPs] at h
 | _ :: _,[],_,_,_,_,_,h,_,_,_=>by simp [setPs] at h
 | p :: ps,a :: args,tm,tm',sz,tmps,us,h,r,hs,ra=>by
   simp only [setPs,nblt,Bool.cond_decide] at h
   split at h
   . rename_i hp
     split at h
     . rename_i t ht
       simp only [AV.RL] at ra
       obtain ⟨u,us',r1,r2,rfl⟩:=ra
       have r':=r.put (by rw [hs];exact hp) ht r1
       obtain ⟨e1,e2,e3⟩:=setPs_ok h r' (by simpa using hs) r2
       exact ⟨by simpa using e1,by simpa using e2,by simp [e3]⟩
     . cases h
   . cases h
theorem rel_hide {h h1:AH}{w:World}{l:Nat}(r:Rel M h w)(hh:∀ x,h1.get x=if x=l then none else h.get x)(hn:h1.nx=h.nx):Rel M h1 w:=by
 have sub:∀ x o,h1.get x=some o->h.get x=some o:=λ x o e=>by
  rw [hh] at e;split at e
  . cases e
  . exact e
 have subn:∀ x,h1.get x ≠ none->h.get x ≠ none:=λ x e=>by
  rw [hh] at e;split at e
  . exact absurd rfl e
  . exact e
 exact ⟨λ id o e=>r.obj id o (sub id o e),λ i j b κ κ' o h1 h2 h3=>r.inj i j b κ κ' o (sub i o h1) h2 (subn j h3),λ x e=>by rw [hn];exact r.wf x (subn x e),r.gw,λ x b κ o e=>r.gf x b κ o (sub x o e),r.fz,λ i b κ o e=>r.fo i b κ o (sub i o e)⟩
theorem rel_off {h:AH}{w w':World}{b:Nat}{L L':Loop}(r:Rel M h w)(hb:w.heap[b]?=some (.loop L))(u:Upd w w' b (.loop L'))(hn:∀ id κ o,h.get id=some o->M id ≠ some (b,κ)):Rel M h w':=by
 refine ⟨λ id o e=>?_,r.inj,r.wf,λ g c e=>?_,r.gf,fz_kept r (λ c hc hz=>u.other c (λ ec=>?_)),r.fo⟩
 . rcases r.obj id o e with q | ⟨b',κ,ob,q1,q2,q3⟩
   . exact .inl q
   . exact .inr ⟨b',κ,ob,q1,by rw [u.other b' (λ eb=>hn id κ o e (by rw [q1,eb]))];exact q2,q3⟩
 . obtain ⟨vs,e',fr,q1,q2⟩:=r.gw g c e
   exact ⟨vs,e',fr,by rw [u.other g (λ eg=>by rw [eg,hb] at q1;cases q1)];exact q1,q2⟩
 . subst ec
   cases hz2:M.z c with
   | none=>exact hz hz2
   | some cs=>obtain ⟨e',fr,q⟩:=r.fz c cs hz2;rw [hb] at q;cases q
theorem rel_show {h h1:AH}{w:World}{l b κ:Nat}{o:AO}{L:Loop}(r:Rel M h w)(hb:w.heap[b]?=some (.loop L))(hM:M l=some (b,κ))(ho:ObR M κ o (.loop L))(hro:o.ro=false)(hn:∀ id κ o,h.get id=some o->M id ≠ some (b,κ))(hl:l < h.nx)
 (hh:∀ x,h1.get x=if x=l then some o else h.get x) (hx:h1.nx=h.nx):Rel M h1 w:=by
 refine ⟨λ id o' e=>?_,λ i j c κ1 κ2 oi h1' hr h2 e1 e2=>?_,λ x e=>?_,r.gw,λ x c κ' o' e hr e2=>?_,r.fz,λ x c κ' o' e hr e2=>?_⟩
 . rw [hh] at e
   split at e
   . rename_i hi;subst hi;simp only [sI] at e;subst e
     exact .inr ⟨b,κ,_,hM,hb,ho⟩
   . exact r.obj id o' e
 . rw [hh] at h1' h2
   by_cases hi:i=l
   . subst hi
     rw [hM] at e1;simp only [sI,Prod.mk.injEq] at e1
     obtain ⟨rfl,rfl⟩:=e1
     by_cases hj:j=i
     . exact hj.symm
     . rw [if_neg hj] at h2
       cases hg:h.get j with
       | none=>exact absurd hg h2
       | some oj=>exact absurd e2 (hn j _ oj hg)
   . rw [if_neg hi] at h1'
     by_cases hj:j=l
     . subst hj
       rw [hM] at e2;simp only [sI,Prod.mk.injEq] at e2
       obtain ⟨rfl,rfl⟩:=e2
       exact absurd e1 (hn i _ oi h1')
     . rw [if_neg hj] at h2
       exact r.inj i j c κ1 κ2 oi h1' hr h2 e1 e2
 . rw [hx]
   rw [hh] at e
   split at e
   . rename_i hi;rw [hi];exact hl
   . exact r.wf x e
 . rw [hh] at e
   split at e
   . rename_i hi;subst hi
     rw [hM] at e2;simp only [sI,Prod.mk.injEq] at e2
     obtain ⟨rfl,rfl⟩:=e2
     cases hg:GL b with
     | none=>rfl
     | some cc=>obtain ⟨vs,e',fr,q1,_⟩:=r.gw b cc hg;rw [hb] at q1;cases q1
   . exact r.gf x c κ' o' e hr e2
 . rw [hh] at e
   split at e
   . rename_i hi;subst hi
     rw [hM] at e2;simp only [sI,Prod.mk.injEq] at e2
     obtain ⟨rfl,rfl⟩:=e2
     cases hz:M.z b with
     | none=>rfl
     | some cs=>obtain ⟨e',fr,q⟩:=r.fz b cs hz;rw [hb] at q;cases q
   . exact r.fo x c κ' o' e hr e2
theorem hideRd_get {h h1:AH}{l:Nat}(e:hideRd h l=some h1):(∀ x,h1.get x=if x=l then none else h.get x)/\h1.nx=h.nx/\h1.bs=h.bs/\h1.wl=h.wl:=by
 unfold hideRd at e
 split at e
 . rename_i h2 hp
   simp only [sI] at e;subst e
   exact ⟨λ x=>AH.get_put hp x,(AH.put_nx hp).1,(AH.put_nx hp).2.1,rfl⟩
 . cases e
theorem endRd_get {h h1:AH}{l:Nat}{q:Bool}{o:AO}(e:endRd h l q o=some h1):h.get l=none/\(∀ x,h1.get x=if x=l then some o else h.get x)/\h1.nx=h.nx/\h1.bs=h.bs/\(∀ x,x ∈ h.wl->x ∈ h1.wl)/\(q=true->l < h.bs->l ∈ h1.wl):=by
 unfold endRd at e
 split at e
 . cases e
 . rename_i hg
   split at e
   . rename_i h2 hp
     simp only [sI] at e;subst e
     obtain ⟨n1,n2,n3⟩:=AH.put_nx hp
     refine ⟨hg,λ x=>AH.get_put hp x,n1,n2,λ x hx=>?_,λ hq hlt=>?_⟩
     . show x ∈ (bif q then h2.wl else h.wl)
       cases q with
       | false=>exact hx
       | true=>
         show x ∈ h2.wl
         rw [n3]
         cases Nat.blt l h.bs with
         | false=>exact hx
         | true=>cases memN l h.wl with
           | true=>exact hx
           | false=>exact List.mem_cons_of_mem _ hx
     . subst hq
       show l ∈ h2.wl
       rw [n3]
       have:Nat.blt l h.bs=true:=by rw [nblt];exact decide_eq_true hlt
       rw [this]
       show l ∈ (bif memN l h.wl then h.wl else l :: h.wl)
       cases hm:memN l h.wl with
       | true=>exact memN_iff.1 hm
       | false=>simp
   . cases e
theorem roundA_ok {rec:Rc}(hG:Good P rec){l:Nat}{args:List AV}{h h':AH}{v:AV}(hc:roundA rec l args h=some (v,h')):
 (h.nx<=h'.nx/\Ab h h')/\∀ (M:Mp) (us:List Value) (b κ:Nat) (w:World) (r:Option Nat) (R:Ending->World->Prop),M l=some (b,κ)->AV.RL M args us->Rel M h w->Fresh M h h' →
   (∀ M' u w',v.R M' u->Rel M' h' w'->Fr h h' M M' w w'->Ab h h'->R (.returned u) w') →
   ∃ fn tmps asg bo,(Instr.yield b us.toArray).run P w=.ok (.round b fn tmps asg bo) w/\RoundIn (FW r) 0 P b fn tmps asg bo w R:=by
 unfold roundA at hc
 split at hc
 . rename_i tm0 sz ps asg bo D hg
   split at hc
   . rename_i tm' hps
     split at hc
     . rename_i h1 hhide
       obtain ⟨hh1,hnx1,hbs1,hwl1⟩:=hideRd_get hhide
       split at hc
       . rename_i s hra
         obtain ⟨⟨g1,ga⟩,g2,g3,g4⟩:=hG.code _ _ _ _ hra
         simp only at g1 g2 g3
         split at hc
         . rename_i hdf
           have main:∀ (x:AX) (s2:St) (jump:Option Code) (bv q:Bool) (st:LoopState),rec.code bo ⟨s.tm,s.sz,[],some l,s.h⟩=some (x,s2) →
            (match endRd s2.h l q (.loop st jump tm0 sz ps asg bo D) with | some h3=>some (AV.b bv,h3) | none=>none)=some (v,h')->bv=jump.isNone->st=(if jump.isNone then .ready else .done)->q=jump.isSome →
            (∀ (R:Ending->World->Prop) (b:Nat) (a:Act) (w:World),(∃ v w',(Instr.endRound b jump).run P w=.ok v w'/\R (.returned v) w')->roundPost P b R (exitOf x) a w) →
            (h.nx<=h'.nx/\Ab h h')/\∀ (M:Mp) (us:List Value) (b κ:Nat) (w:World) (r:Option Nat) (R:Ending->World->Prop),M l=some (b,κ)->AV.RL M args us->Rel M h w->Fresh M h h' →
              (∀ M' u w',v.R M' u->Rel M' h' w'->Fr h h' M M' w w'->Ab h h'->R (.returned u) w') →
              ∃ fn tmps asg bo,(Instr.yield b us.toArray).run P w=.ok (.round b fn tmps asg bo) w/\RoundIn (FW r) 0 P b fn tmps asg bo w R:=by
            intro x s2 jump bv q st hrb hend hbv hst hq hpost
            obtain ⟨⟨k1,ka⟩,k2,k3,k4⟩:=hG.code _ _ _ _ hrb
            simp only at k1 k2 k3
            split at hend
            . rename_i h3 he
              simp only [sI,Prod.mk.injEq] at hend
              obtain ⟨rfl,rfl⟩:=hend
              obtain ⟨e0,hh3,hnx3,hbs3,hwl3,hlg3⟩:=endRd_get he
              have gaka:Ab h1 s2.h:=ga.trans ka
              have hab:Ab h h3:=by
               refine ⟨by omega,by rw [hbs3,gaka.bs,hbs1],λ y hy=>hwl3 y (gaka.wl y (by rw [hwl1];exact hy)),λ y y1 y2 y3=>?_,λ y hy=>?_⟩
               . rw [hh3]
                 split
                 . rename_i hy;subst hy
                   cases hj:jump with
                   | none=>subst hj;rw [hg];simp at hst;subst hst;rfl
                   | some c=>
                     refine absurd (hlg3 (by rw [hq,hj];rfl) (by rw [gaka.bs,hbs1];exact y1)) y3
                 . rename_i hy
                   rw [gaka.log y (by rw [hbs1];exact y1) (by omega) (λ q=>y3 (hwl3 y q)),hh1,if_neg hy]
               . rw [hh3] at hy
                 split at hy
                 . rename_i hyl;exact .inl (by rw [hyl,hg];simp)
                 . rcases gaka.dom y hy with q | q
                   . rw [hh1] at q
                     split at q
                     . exact absurd rfl q
                     . exact .inl q
                   . exact .inr ⟨by omega,by omega⟩
              refine ⟨⟨by omega,hab⟩,λ M us b κ w r R hM ra rr fr k=>?_⟩
              obtain ⟨ob,hb,fn,tmps,bD,cD,hD,rt,hsz,rfl⟩:=Ob_of rr hg hM
              obtain ⟨p1,p2,p3⟩:=setPs_ok hps rt hsz ra
              have hz:(ps.zip us.toArray).foldl (λ t (p:Tmp × Value)=>t.setIfInBounds p.1 p.2) tmps=(ps.toList.zip us).foldl (λ t p=>t.setIfInBounds p.1 p.2) tmps:=by
               rw [<- Array.foldl_toList,Array.toList_zip]
              have hbl:=heap_lt hb
              -- nothing of the heap is the loop's block
              have nb0:∀ id κ' o,h1.get id=some o->M id ≠ some (b,κ'):=λ id κ' o e1 e2=>by
               rw [hh1] at e1
               split at e1
               . cases e1
               . rename_i hne
                 exact hne (rr.inj l id b κ κ' _ hg rfl (by rw [e1];simp) hM e2).symm
              have rh1:=rel_hide rr hh1 hnx1
              refine ⟨fn,_,asg,bo,run_yield (P:=P) (args:=us.toArray) hb (by simpa using p3),?_⟩
              refine roundIn_of_wpIn trivial ?_
              show Code.wpIn (FW (some b)) 0 P asg _ _ w
              have frA:Fresh M h1 s.h:=λ id e1 e2=>fr id (by omega) (by omega)
              refine g4 M _ w (some b) _ ⟨?_,?_,rfl,rh1⟩ ⟨b,κ,hM,rfl⟩ frA ?_
              . simp only;rw [show ((ps.zip us.toArray).foldl (λ tmps x=>match x with | (t,a)=>tmps.setIfInBounds t a) tmps)=(ps.zip us.toArray).foldl (λ t (p:Tmp × Value)=>t.setIfInBounds p.1 p.2) tmps from rfl,hz];exact p1
              . simp only;rw [show ((ps.zip us.toArray).foldl (λ tmps x=>match x with | (t,a)=>tmps.setIfInBounds t a) tmps)=(ps.zip us.toArray).foldl (λ t (p:Tmp × Value)=>t.setIfInBounds p.1 p.2) tmps from rfl,hz];exact p2
              . intro M1 a1 w1 st1 f1 ab1
                have hM1:=f1.ext _ _ hM
                have hb1:w1.heap[b]?=some (.loop { state:=.ready,pending:=none,fn:=fn,tmps:=tmps,params:=ps,assign:=asg,body:=bo,defers:=bD }):=by
                 rw [f1.keep b hbl (λ id κ' o e1 _=>nb0 id κ' o e1)];exact hb
                have nb1:∀ id κ' o,s.h.get id=some o->M1 id ≠ some (b,κ'):=λ id κ' o e1 e2=>by
                 rcases f1.range id b κ' o e1 e2 with q | ⟨i,κ2,o2,q1,q2,_⟩
                 . omega
                 . exact nb0 i κ2 o2 q1 q2
                refine ⟨_,run_beginRound hb1 rfl,?_⟩
                have u1:Upd w1 (w1.putObj b (.loop { state:=.busy,pending:=none,fn:=fn,tmps:=tmps,params:=ps,assign:=asg,body:=bo,defers:=bD })) b _:=upd_setObj (heap_lt hb1)
                have rh2:=rel_off st1.h hb1 u1 nb1
                have hdef:a1.defers=[]:=by have:=st1.df;rw [hdf] at this;exact this
                refine k4 M1 a1 _ (some b) _ ⟨st1.tm,st1.sz,hdef,rh2⟩ ⟨b,κ,hM1,rfl⟩ ?_ ?_
                . have fr1:Fresh M1 s.h h3:=λ id (e1:s.h.nx<=id) (e2:id < h3.nx)=>by
                   have:M1 id=M id:=Classical.byContradiction λ hne=>by have:=f1.only id hne;omega
                   rw [this];exact fr id (by omega) e2
                  exact λ id (e1:s.h.nx<=id) (e2:id < s2.h.nx)=>fr1 id e1 (by omega)
                . intro M2 a2 w2 st2 f2 ab2
                  have hM2:=f2.ext _ _ hM1
                  have hb2:w2.heap[b]?=some (.loop { state:=.busy,pending:=none,fn:=fn,tmps:=tmps,params:=ps,assign:=asg,body:=bo,defers:=bD }):=by
                   rw [f2.keep b (by rw [u1.size];exact heap_lt hb1) (λ id κ' o e1 _=>nb1 id κ' o e1)];exact u1.at_
                  have nb2:∀ id κ' o,s2.h.get id=some o->M2 id ≠ some (b,κ'):=λ id κ' o e1 e2=>by
                   rcases f2.range id b κ' o e1 e2 with q | ⟨i,κ2,o2,q1,q2,_⟩
                   . exact absurd (Nat.lt_of_lt_of_le (heap_lt hb1) (Nat.le_trans (Nat.le_of_eq u1.size.symm) q)) (Nat.lt_irrefl _)
                   . exact nb1 i κ2 o2 q1 q2
                  have u2:Upd w2 (w2.putObj b (.loop { state:=if jump.isNone then .ready else .done,pending:=jump,fn:=fn,tmps:=tmps,params:=ps,assign:=asg,body:=bo,defers:=bD })) b _:=upd_setObj (heap_lt hb2)
                  have rh3:=rel_off st2.h hb2 u2 nb2
                  have hext:=f1.ext.trans f2.ext
                  have rh4:Rel M2 h3 _:=rel_show rh3 u2.at_ hM2 (o:=.loop st jump tm0 sz ps asg bo D) ⟨fn,tmps,bD,cD,hext _ _ hD,rt.mono hext,hsz,by rw [hst]⟩ rfl nb2 (by have:=rr.wf l (by rw [hg];simp);omega) hh3 hnx3
                  refine hpost R b a2 w2 ⟨_,_,run_endRound jump hb2,k M2 _ _ (by simp only [AV.R,hbv]) rh4 ?_ hab⟩
                  have f1s:=f1.size
                  have f2s:w1.heap.size<=w2.heap.size:=Nat.le_trans (Nat.le_of_eq u1.size.symm) f2.size
                  refine ⟨u2.os.trans (f2.os.trans (u1.os.trans f1.os)),u2.tape.trans (f2.tape.trans (u1.tape.trans f1.tape)),u2.output.trans (f2.output.trans (u1.output.trans f1.output)),Nat.le_trans f1s (Nat.le_trans f2s (Nat.le_of_eq u2.size.symm)),hext,λ id hne=>?_,λ y hy hn=>?_,λ id c κ' o' e1 e2=>?_,λ c cs hz=>?_⟩
                  . by_cases e:M1 id=M id
                    . have:s.h.nx<=id/\id < s2.h.nx:=f2.only id (by rw [e];exact hne)
                      omega
                    . have:h1.nx<=id/\id < s.h.nx:=f1.only id e
                      omega
                  . have hyb:y ≠ b:=λ e=>hn l κ _ hg rfl (by rw [e];exact hM)
                    have hn1:∀ id κ o,h1.get id=some o->o.ro=false->M id ≠ some (y,κ):=λ id κ' o e1 e2=>by
                     rw [hh1] at e1
                     split at e1
                     . cases e1
                     . exact hn id κ' o e1 e2
                    have hn2:∀ id κ o,s.h.get id=some o->o.ro=false->M1 id ≠ some (y,κ):=λ id κ' o e1 e2 e3=>by
                     rcases f1.range id y κ' o e1 e3 with q | ⟨i,κ2,o2,q1,q2,q3⟩
                     . omega
                     . exact hn1 i κ2 o2 q1 (q3 e2) q2
                    rw [u2.other y hyb,f2.keep y (Nat.lt_of_lt_of_le (Nat.lt_of_lt_of_le hy f1s) (Nat.le_of_eq u1.size.symm)) hn2,u1.other y hyb,f1.keep y hy hn1]
                  . rw [hh3] at e1
                    split at e1
                    . rename_i hi;subst hi
                      rw [hM2] at e2;simp only [sI,Prod.mk.injEq] at e2
                      obtain ⟨rfl,rfl⟩:=e2
                      exact .inr ⟨id,κ,_,hg,hM,λ _=>rfl⟩
                    . rcases f2.range id c κ' o' e1 e2 with q | ⟨i,κ2,o2,q1,q2,q3⟩
                      . exact .inl (Nat.le_trans f1s (Nat.le_trans (Nat.le_of_eq u1.size.symm) q))
                      . rcases f1.range i c κ2 o2 q1 q2 with q | ⟨j,κ3,o3,x1,x2,x3⟩
                        . exact .inl q
                        . refine .inr ⟨j,κ3,o3,?_,x2,λ e=>x3 (q3 e)⟩
                          rw [hh1] at x1
                          split at x1
                          . cases x1
                          . exact x1
                  . rcases f2.zx c cs hz with q | q | ⟨i,κ2,o2,q1,q2,q3⟩
                    . rcases f1.zx c cs q with x | x | ⟨j,κ3,o3,x1,x2,x3⟩
                      . exact .inl x
                      . exact .inr (.inl x)
                      . refine .inr (.inr ⟨j,κ3,o3,?_,x2,x3⟩)
                        rw [hh1] at x1
                        split at x1
                        . cases x1
                        . exact x1
                    . exact .inr (.inl (Nat.le_trans f1s (Nat.le_trans (Nat.le_of_eq u1.size.symm) q)))
                    . rcases f1.range i c κ2 o2 q1 q3 with x | ⟨j,κ3,o3,x1,x2,x3⟩
                      . exact .inr (.inl x)
                      . refine .inr (.inr ⟨j,κ3,o3,?_,x3 q2,x2⟩)
                        rw [hh1] at x1
                        split at x1
                        . cases x1
                        . exact x1
            . cases hend
           split at hc
           . rename_i s2 hrb;exact main _ s2 none true false .ready hrb hc rfl rfl rfl (λ R b a w e=>e)
           . rename_i s2 hrb;exact main _ s2 (some .ret) false true .done hrb hc rfl rfl rfl (λ R b a w e=>e)
           . rename_i id s2 hrb;exact main _ s2 (some (.exit id)) false true .done hrb hc rfl rfl rfl (λ R b a w e=>e)
           . cases hc
         . cases hc
       . cases hc
     . cases hc
   . cases hc
 . cases hc
theorem opF_ok {rec:Rc}(hG:Good P rec){tm:Tr AV}{o:Oper}{h h':AH}{v:AV}(hc:opF P rec tm o h=some (v,h')):
 (h.nx<=h'.nx/\Ab h h')/\∀ (M:Mp) (a:Act) (w:World) (r:Option Nat) (K:Act->World->Prop) (Q:Exit->Act->World->Prop),(∀ x ∈ o.op.operands.toList,(evT tm x).R M (a.eval x))->Rel M h w->Fresh M h h' →
   (∀ M' u w',v.R M' u->Rel M' h' w'->Fr h h' M M' w w'->Ab h h'->K (a.put o.dst u) w')->o.wpIn (FW r) 0 P a w K Q:=by
 rw [opF_eq] at hc
 split at hc
 . rename_i v1 h1 ho
   simp only [nble,Bool.cond_decide] at hc
   split at hc
   . rename_i hle
     simp only [sI,Prod.mk.injEq] at hc
     obtain ⟨rfl,rfl⟩:=hc
     refine ⟨⟨hle,opS_ab ho⟩,λ M a w r K Q hx rr fr k=>⟨λ _ _=>trivial,?_⟩⟩
     obtain ⟨hd,ok⟩:=opS_ok ho hx rr
     rw [Oper.semAt_eq _ _ _ hd]
     obtain ⟨M',u,w',nx,e1,e2,e3,e4,e5,e6⟩:=ok fr
     rw [e1]
     rcases e2 with rfl | ⟨rfl,rfl⟩
     . exact k M' u w' e3 e4 e5 e6
     . exact k M' undef w' e3 e4 e5 e6
   . cases hc
 . rename_i f args h1 ho
   split at hc
   . rename_i g hsm
     split at hc
     . rename_i v1 hv
       simp only [sI,Prod.mk.injEq] at hc
       obtain ⟨rfl,rfl⟩:=hc
       refine ⟨⟨Nat.le_refl _,Ab.refl _⟩,λ M a w r K Q hx rr _ k=>⟨λ _ _=>trivial,?_⟩⟩
       obtain ⟨hd,_,us,ra,e1⟩:=opS_ok ho hx rr
       obtain ⟨u,e2,e3⟩:=(hG.sm f).2.1 g hsm args v1 M us w hv ra
       rw [Oper.semAt_eq _ _ _ hd,e1,e2]
       exact k M u w e3 rr (Fr.same _ M w) (Ab.refl _)
     . cases hc
   have c1:=callA_ok hG hc
   refine ⟨c1.1,λ M a w r K Q hx rr fr k=>⟨λ _ _=>trivial,?_⟩⟩
   obtain ⟨hd,_,us,ra,e1⟩:=opS_ok ho hx rr
   rw [Oper.semAt_eq _ _ _ hd,e1]
   obtain ⟨c2,c3⟩:=c1.2 M us w r (λ | .returned u,w'=>K (a.put o.dst u) w' | .panicked c,w'=>Q (.panic c) a w' | .outgrown,_=>LetsOut Q) ra rr fr k
   rw [c2]
   exact ⟨λ e=>by simp [FW] at e,c3⟩
 . rename_i l args h1 ho
   have c1:=roundA_ok hG hc
   refine ⟨c1.1,λ M a w r K Q hx rr fr k=>⟨λ _ _=>trivial,?_⟩⟩
   obtain ⟨hd,_,us,b,κ,hM,ra,e1⟩:=opS_ok ho hx rr
   rw [Oper.semAt_eq _ _ _ hd,e1]
   obtain ⟨fn,tmps,asg,bo,c2,c3⟩:=c1.2 M us b κ w r (λ | .returned u,w'=>K (a.put o.dst u) w' | .panicked c,w'=>Q (.panic c) a w' | .outgrown,_=>LetsOut Q) hM ra rr fr k
   rw [c2]
   exact ⟨λ e=>by simp [FW] at e,c3⟩
 . cases hc
theorem wantA_ok {ops:Array Oper}{tm:Tr AV}{a:Act}{o:Oper}{b:Bool}(h:wantA ops.toList tm o=some b)(r:∀ g d,o.guard=some g->(ops[g.1]?).bind (·.dst)=some d->(evT tm (.tmp d)).R M (a.tmps.getD d undef)):
 Region.wanted o (yielded ops a.tmps)=b:=by
 rw [wantA_eq] at h
 unfold Region.wanted
 cases hg:o.guard with
 | none=>rw [hg] at h;simpa using h
 | some g=>
   obtain ⟨j,want⟩:=g
   rw [hg] at h
   simp only at h ⊢
   rw [Array.getElem?_toList] at h
   unfold yielded
   cases hj:ops[j]? with
   | none=>rw [hj] at h;cases h
   | some oj=>
     rw [hj] at h
     simp only [Option.bind_some] at h ⊢
     cases hd:oj.dst with
     | none=>rw [hd] at h;cases h
     | some d=>
       rw [hd] at h
       simp only [Option.bind_some] at h ⊢
       have rv:=r (j,want) d hg (by simp [hj,hd])
       have hget:a.tmps.getD d undef=(a.tmps[d]?).getD undef:=by simp [Array.getD_eq_getD_getElem?]
       rw [hget] at rv
       split at h
       . rename_i x hx
         rw [hx] at rv
         simp only [AV.R] at rv
         simp only [sI] at h;subst h
         cases ht:a.tmps[d]? with
         | none=>rw [ht] at rv;simp [undef] at rv
         | some u=>rw [ht] at rv;simp at rv;subst rv;simp
       . rename_i hx
         rw [hx] at rv
         simp only [AV.R,AV.RL] at rv
         obtain ⟨vs,rfl,rv⟩:=rv
         simp only [sI] at h;subst h
         cases ht:a.tmps[d]? with
         | none=>simp
         | some u=>rw [ht] at rv;simp at rv;subst rv;simp
       . cases h
theorem opsA_ok {rec:Rc}(hG:Good P rec)(ops:Array Oper):∀ (rest:List Oper) (s s':St),opsA P rec ops.toList rest s=some s'->(s.h.nx<=s'.h.nx/\Ab s.h s'.h)/\s'.sz=s.sz/\s'.rd=s.rd ∧
 ∀ (k:Nat),rest=ops.toList.drop k->∀ (M:Mp) (a:Act) (w:World) (r:Option Nat) (Q:Exit->Act->World->Prop),StR M s a w->Fresh M s.h s'.h →
   (∀ M' a' w',StR M' s' a' w'->Fr s.h s'.h M M' w w'->Ab s.h s'.h->Q .normal a' w')->wpOpsIn (FW r) 0 P ops Q (List.range' k (ops.size - k)) a w
 | [],s,s',h=>by
   simp only [opsA_nil,sI] at h;subst h
   refine ⟨⟨Nat.le_refl _,Ab.refl _⟩,rfl,rfl,λ k hk M a w r Q st fr q=>?_⟩
   have:ops.size - k=0:=by
    have:=congrArg List.length hk
    simp at this;omega
   rw [this]
   exact q M a w st (Fr.same _ _ _) (Ab.refl _)
 | o :: rest,s,s',h=>by
   rw [opsA_cons] at h
   have hlook:∀ k,o :: rest=ops.toList.drop k->ops[k]?=some o/\rest=ops.toList.drop (k + 1)/\ops.size - k=(ops.size - (k + 1)) + 1:=λ k hk=>by
    have h1:(ops.toList.drop k)[0]?=some o:=by rw [<- hk];rfl
    rw [List.getElem?_drop,Nat.add_zero,Array.getElem?_toList] at h1
    refine ⟨h1,?_,?_⟩
    . rw [<- List.drop_drop (i:=1),<- hk];rfl
    . have:=(Array.getElem?_eq_some_iff.1 h1).1;omega
   split at h
   . rename_i hw
     split at h
     . rename_i v h1 ho
       split at h
       . rename_i s1 hp
         obtain ⟨⟨o1,oa⟩,o2⟩:=opF_ok hG ho
         obtain ⟨p1,p2,p3,p4⟩:=putA_same hp
         obtain ⟨⟨i1,ia⟩,i2,i3,i4⟩:=opsA_ok hG ops rest s1 s' h
         simp only at p1 p2 p3
         refine ⟨⟨by rw [<- p1] at o1;omega,by rw [p1] at ia;exact oa.trans ia⟩,by rw [i2,p2],by rw [i3,p3],λ k hk M a w r Q st fr q=>?_⟩
         obtain ⟨e1,e2,e3⟩:=hlook k hk
         rw [e3,List.range'_succ]
         simp only [wpOpsIn,e1]
         have hwd:=wantA_ok (M:=M) (a:=a) hw (λ g d _ _=>by rw [evT_tmp];exact st.tm d)
         rw [hwd]
         simp only [if_true]
         refine o2 M a w r _ Q (λ x _=>ev_ok st.tm x) st.h (λ id q1 q2=>fr id q1 (by rw [<- p1] at q2;omega)) (λ M' u w' rv rh f ab=>?_)
         refine i4 (k + 1) e2 M' _ w' r Q (putA_ok hp ⟨st.tm.mono f.ext,st.sz,st.df.mono f.ext,rh⟩ rv) ?_ (λ M2 a2 w2 st2 f2 ab2=>?_)
         . have:=Fresh.right fr o1 f
           rw [p1];exact this
         . rw [p1] at f2 ab2
           exact q M2 a2 w2 st2 (f.trans o1 (by rw [p1] at i1;exact i1) f2) (ab.trans ab2)
       . cases h
     . cases h
   . rename_i hw
     split at h
     . rename_i s1 hp
       obtain ⟨p1,p2,p3,p4⟩:=putA_same hp
       obtain ⟨⟨i1,ia⟩,i2,i3,i4⟩:=opsA_ok hG ops rest s1 s' h
       refine ⟨⟨by rw [<- p1];exact i1,by rw [p1] at ia;exact ia⟩,by rw [i2,p2],by rw [i3,p3],λ k hk M a w r Q st fr q=>?_⟩
       obtain ⟨e1,e2,e3⟩:=hlook k hk
       rw [e3,List.range'_succ]
       simp only [wpOpsIn,e1]
       have hwd:=wantA_ok (M:=M) (a:=a) hw (λ g d _ _=>by rw [evT_tmp];exact st.tm d)
       rw [hwd]
       simp only [Bool.false_eq_true,if_false]
       refine ⟨λ _ _=>trivial,i4 (k + 1) e2 M _ w r Q (putA_ok hp st (by simp [undefA,AV.R,AV.RL,undef])) (by rw [p1];exact fr) (λ M2 a2 w2 st2 f2 ab2=>?_)⟩
       rw [p1] at f2 ab2
       exact q M2 a2 w2 st2 f2 ab2
     . cases h
   . cases h
end
section
variable {P : Program} {rec : Rc}
def WfH (h:AH):Prop:=∀ x,h.get x ≠ none->x < h.nx
theorem Ab.wf {h h':AH}(a:Ab h h')(w:WfH h):WfH h':=λ x hx=>by
 rcases a.dom x hx with h1 | h1
 . have:=w x h1;have:=a.nx;omega
 . exact h1.2
def svGet:List (Nat × AO)->Nat->Option AO
 | [],_=>none
 | (x,o) :: l,y=>if y=x then some o else svGet l y
theorem hideA_ok:∀ {l:List Nat} {h hv:AH} {sv:List (Nat × AO)},hideA h l=some (hv,sv)->hv.nx=h.nx/\(∀ y,hv.get y=if y ∈ l then none else h.get y)/\(∀ y,svGet sv y=if y ∈ l then h.get y else none)
 | [],h,hv,sv,e=>by
   simp only [hideA,sI,Prod.mk.injEq] at e
   obtain ⟨rfl,rfl⟩:=e
   exact ⟨rfl,λ y=>by simp,λ y=>by simp [svGet]⟩
 | x :: l,h,hv,sv,e=>by
   simp only [hideA] at e
   split at e
   . rename_i o hg
     split at e
     . rename_i h1 hp
       split at e
       . rename_i h2 sv2 e2
         simp only [sI,Prod.mk.injEq] at e
         obtain ⟨rfl,rfl⟩:=e
         obtain ⟨i1,i2,i3⟩:=hideA_ok e2
         have hgp:=AH.get_put hp
         refine ⟨i1.trans (AH.put_nx hp).1,λ y=>?_,λ y=>?_⟩
         . rw [i2,hgp]
           by_cases hy:y=x
           . subst hy;simp
           . simp [hy]
         . simp only [svGet,i3,hgp]
           by_cases hy:y=x
           . subst hy;simp [hg]
           . simp [hy]
       . cases e
     . cases e
   . rename_i hg
     obtain ⟨i1,i2,i3⟩:=hideA_ok e
     refine ⟨i1,λ y=>?_,λ y=>?_⟩
     . rw [i2]
       by_cases hy:y=x
       . subst hy;simp [hg]
       . simp [hy]
     . rw [i3]
       by_cases hy:y=x
       . subst hy;simp [hg]
       . simp [hy]
theorem showA_ok:∀ {sv:List (Nat × AO)} {g g2:AH},showA g sv=some g2->g2.nx=g.nx/\(∀ y,g2.get y=(svGet sv y).or (g.get y))/\(∀ y,g.get y ≠ none->svGet sv y=none)
 | [],g,g2,e=>by
   simp only [showA,sI] at e;subst e
   exact ⟨rfl,λ y=>by simp [svGet],λ _ _=>rfl⟩
 | (x,o) :: l,g,g2,e=>by
   simp only [showA] at e
   split at e
   . cases e
   . rename_i hg
     split at e
     . rename_i g1 hp
       obtain ⟨i1,i2,i3⟩:=showA_ok e
       have hgp:=AH.get_put hp
       refine ⟨i1.trans (AH.put_nx hp).1,λ y=>?_,λ y hy=>?_⟩
       . rw [i2,hgp]
         simp only [svGet]
         by_cases hy:y=x
         . subst hy
           have:=i3 y (by rw [hgp];simp)
           simp [this]
         . simp [hy]
       . simp only [svGet]
         by_cases hyx:y=x
         . subst hyx;exact absurd hg hy
         . simp only [hyx,if_false]
           exact i3 y (by rw [hgp];simp [hyx];exact hy)
     . cases e
theorem mergeW_mem {bs:Nat}{wl:List Nat}:∀ {l:List Nat} {x:Nat},(x ∈ wl->x ∈ mergeW bs wl l)/\(x < bs->x ∈ l->x ∈ mergeW bs wl l)
 | [],x=>by simp [mergeW]
 | y :: l,x=>by
   have ih:=mergeW_mem (bs:=bs) (wl:=wl) (l:=l) (x:=x)
   simp only [mergeW,nblt]
   cases hc:(decide (y < bs) && !memN y wl) with
   | true=>
     simp only [cond_true,List.mem_cons]
     refine ⟨λ hx=>.inr (ih.1 hx),λ hb hx=>?_⟩
     rcases hx with rfl | hx
     . exact .inl rfl
     . exact .inr (ih.2 hb hx)
   | false=>
     simp only [cond_false]
     refine ⟨ih.1,λ hb hx=>?_⟩
     rcases List.mem_cons.1 hx with rfl | hx
     . simp [hb] at hc
       exact ih.1 (memN_iff.1 hc)
     . exact ih.2 hb hx
theorem rangeL_mem:∀ {f lo hi x:Nat},hi<=lo + f->(x ∈ rangeL f lo hi ↔ lo<=x/\x < hi)
 | 0,lo,hi,x,h=>by simp [rangeL];omega
 | f + 1,lo,hi,x,h=>by
   simp only [rangeL,nblt,Bool.cond_decide]
   split
   . rw [List.mem_cons,rangeL_mem (by simp;omega)]
     simp;omega
   . simp;omega
theorem hideL_ok:∀ {un:List DR} {l:List Nat},hideL un=some l->∀ x,(x ∈ l ↔ ∃ r ∈ un,inDR x r=true)
 | [],l,e,x=>by simp only [hideL,sI] at e;subst e;simp
 | r :: un,l,e,x=>by
   simp only [hideL,nble,Bool.cond_decide] at e
   split at e
   . rename_i hle
     split at e
     . rename_i l2 e2
       simp only [sI] at e;subst e
       have ih:=hideL_ok e2 x
       simp only [List.mem_append,ih,rangeL_mem hle,List.mem_cons,exists_eq_or_imp]
       simp only [inDR,nble,nblt,Bool.or_eq_true,Bool.and_eq_true,decide_eq_true_eq,memN_iff]
     . cases e
   . cases e
structure View (P:Program)(rec:Rc)(tm:Tr AV)(o:Oper)(h:AH)(un:List DR)(v:AV)(h2:AH)(wr:List Nat)(full:Bool)(ld:Option Nat)(V V':AH):Prop where
 run:opF P rec tm o V=some (v,V')
 nx:V.nx=h.nx
 nx':V'.nx=h2.nx
 sub:∀ x ob,V.get x=some ob->h.get x=some ob
 vis:∀ x,V.get x ≠ none->∀ r ∈ un,inDR x r=false
 kind:full=true ∨ (wr=[]/\∀ x,V.get x ≠ none->ld=some x)
 new:∀ x,(x ∈ wr ∨ (h.nx<=x/\x < h2.nx))->h2.get x=V'.get x
 old:∀ x,x ∉ wr->¬ (h.nx<=x/\x < h2.nx)->h2.get x=h.get x
 keep:∀ x,V.get x ≠ none->x ∉ wr->V'.get x=V.get x
 ab:Ab h h2
theorem get_lf (nx bs:Nat)(wl:List Nat)(x:Nat):(⟨.lf,nx,bs,wl⟩:AH).get x=none:=Tr.get_lf _
theorem noneW_ok {nx:Nat}{wr:List Nat}{un:List DR}(h:noneW nx wr un=true):(∀ x ∈ wr,x < nx)/\∀ r ∈ un,wr ≠ []->r.full=false/\(∀ x,r.ld=some x->x ∉ wr)/\∀ x ∈ wr,inDR x r=false:=by
 unfold noneW at h
 split at h
 . exact ⟨by simp,λ r _ e=>absurd rfl e⟩
 . simp only [Bool.and_eq_true,List.all_eq_true] at h
   obtain ⟨h1,h2⟩:=h
   refine ⟨λ x hx=>by have:=h1 x hx;simpa [nblt] using this,λ r hr _=>?_⟩
   obtain ⟨⟨q1,q2⟩,q3⟩:=h2 r hr
   refine ⟨by simpa using q1,λ x hx hm=>?_,λ x hx=>by simpa using q3 x hx⟩
   rw [hx] at q2
   have:=memN_iff.2 hm
   simp [this] at q2
theorem viewRun_ok (hG:Good P rec){tm:Tr AV}{o:Oper}{h h2:AH}{un:List DR}{v:AV}{wr:List Nat}{full:Bool}{ld:Option Nat}(hv:viewRun P rec tm o h un=some (v,h2,wr,full,ld))
 (hw:WfH h) (hun:∀ r ∈ un,r.hi<=h.nx/\∀ x ∈ r.wr,x < h.nx) (hn:noneW h.nx wr un=true):∃ V V',View P rec tm o h un v h2 wr full ld V V':=by
 unfold viewRun at hv
 split at hv
 . -- no memory
   split at hv
   . rename_i v1 h' ho
     simp only [nbeq,Bool.cond_decide] at hv
     split at hv
     . rename_i hnx
       simp only [sI,Prod.mk.injEq] at hv
       obtain ⟨rfl,rfl,rfl,rfl,rfl⟩:=hv
       exact ⟨_,h',ho,rfl,hnx,λ x ob e=>by simp [get_lf] at e,λ x e=>absurd (get_lf _ _ _ x) e,.inr ⟨rfl,λ x e=>absurd (get_lf _ _ _ x) e⟩,λ x e=>by rcases e with e | e;simp at e;omega,λ _ _ _=>rfl,λ x e=>absurd (get_lf _ _ _ x) e,Ab.refl _⟩
     . cases hv
   . cases hv
 . -- new memory
   split at hv
   . rename_i v1 h' ho
     simp only [nbeq,Bool.cond_decide] at hv
     split at hv
     . rename_i hnx
       simp only [sI,Prod.mk.injEq] at hv
       obtain ⟨rfl,rfl,rfl,rfl,rfl⟩:=hv
       exact ⟨_,h',ho,rfl,hnx,λ x ob e=>by simp [get_lf] at e,λ x e=>absurd (get_lf _ _ _ x) e,.inr ⟨rfl,λ x e=>absurd (get_lf _ _ _ x) e⟩,λ x e=>by rcases e with e | e;simp at e;omega,λ _ _ _=>rfl,λ x e=>absurd (get_lf _ _ _ x) e,Ab.refl _⟩
     . split at hv
       . rename_i hnx
         split at hv
         . rename_i ob hob
           split at hv
           . rename_i h3 h3n
             simp only [sI,Prod.mk.injEq] at hv
             obtain ⟨rfl,rfl,rfl,rfl,rfl⟩:=hv
             have hg:=AH.get_new h3n
             have hx3:=(AH.new_nx h3n).1
             exact ⟨_,h',ho,rfl,by rw [hnx,hx3],λ x ob e=>by simp [get_lf] at e,λ x e=>absurd (get_lf _ _ _ x) e,.inr ⟨rfl,λ x e=>absurd (get_lf _ _ _ x) e⟩,λ x e=>by
              rcases e with e | e
              . simp at e
              . have:x=h.nx:=by omega
                subst this;rw [hg,hob];simp,λ x _ e=>by rw [hg,if_neg (by omega)],λ x e=>absurd (get_lf _ _ _ x) e,new_ab h3n⟩
           . cases hv
         . cases hv
       . cases hv
   . cases hv
 . -- one block
   rename_i id hkk
   split at hv
   . rename_i ob hob
     cases ha:un.any (inDR id) with
     | true=>rw [ha] at hv;cases hv
     | false=>
       rw [ha,cond_false] at hv
       split at hv
       . rename_i t ht
         split at hv
         . rename_i v1 h' ho
           simp only [nbeq,Bool.cond_decide] at hv
           split at hv
           . rename_i hnx
             split at hv
             . rename_i hwl
               simp only [sI,Prod.mk.injEq] at hv
               obtain ⟨rfl,rfl,rfl,rfl,rfl⟩:=hv
               have hget:∀ x,(⟨t,h.nx,h.nx,[]⟩:AH).get x=if x=id then some ob else none:=λ x=>by
                show t.get (Nat.succ x)=_
                rw [Tr.get_set _ _ _ _ _ ht]
                simp [Tr.get_lf]
               have hdom:∀ x,(⟨t,h.nx,h.nx,[]⟩:AH).get x ≠ none->x=id:=λ x e=>by
                rw [hget] at e
                by_cases hx:x=id
                . exact hx
                . simp [hx] at e
               have hab:=(opF_ok hG ho).1.2
               refine ⟨_,h',ho,rfl,hnx,λ x ob2 e=>?_,λ x e r hr=>?_,.inr ⟨rfl,λ x e=>by rw [hdom x e]⟩,λ x e=>by rcases e with e | e;simp at e;omega,λ _ _ _=>rfl,λ x e _=>?_,Ab.refl _⟩
               . have:=hdom x (by rw [e];simp)
                 subst this
                 rw [hget] at e
                 simp at e;rw [hob,e]
               . rw [hdom x e]
                 cases hh:inDR id r with
                 | false=>rfl
                 | true=>have:un.any (inDR id)=true:=List.any_eq_true.2 ⟨r,hr,hh⟩;rw [ha] at this;cases this
               . have hx:=hdom x e
                 have hlt:x < h.nx:=by rw [hx];exact hw id (by simp [hob])
                 exact hab.log x hlt hlt (by rw [hwl];simp)
             . cases hv
           . cases hv
         . cases hv
       . cases hv
   . cases hv
 . -- all memory
   split at hv
   . rename_i l hl
     split at hv
     . rename_i hvv sv hh
       split at hv
       . rename_i v1 h' ho
         split at hv
         . rename_i g2 hs
           simp only [sI,Prod.mk.injEq] at hv
           obtain ⟨rfl,rfl,rfl,rfl,rfl⟩:=hv
           obtain ⟨e1,e2,e3⟩:=hideA_ok hh
           obtain ⟨f1,f2,f3⟩:=showA_ok hs
           obtain ⟨hn1,hn2⟩:=noneW_ok hn
           have hlm:=hideL_ok hl
           have hab:=(opF_ok hG ho).1.2
           have gV:∀ x,(⟨hvv.t,hvv.nx,hvv.nx,[]⟩:AH).get x=if x ∈ l then none else h.get x:=λ x=>e2 x
           have hnx:=hab.nx
           have hlog:∀ x,x < hvv.nx->x ∉ h'.wl->h'.get x=(⟨hvv.t,hvv.nx,hvv.nx,[]⟩:AH).get x:=λ x hx hn=>hab.log x hx hx hn
           have hdom:=hab.dom
           simp only at hnx hdom
           have f1':g2.nx=h'.nx:=f1
           have f2':∀ y,g2.get y=(svGet sv y).or (h'.get y):=f2
           have hg2:∀ x,g2.get x=if x ∈ l then (h.get x).or (h'.get x) else h'.get x:=λ x=>by
            rw [f2',e3]
            split <;> simp
           have lnx:∀ x,x ∈ l->x < h.nx:=λ x hx=>by
            obtain ⟨r,hr,hi⟩:=(hlm x).1 hx
            simp only [inDR,nble,nblt,Bool.or_eq_true,Bool.and_eq_true,decide_eq_true_eq,memN_iff] at hi
            obtain ⟨q1,q2⟩:=hun r hr
            rcases hi with hi | hi
            . omega
            . exact q2 x hi
           have tnl:∀ x,(x ∈ h'.wl ∨ (h.nx<=x/\x < g2.nx))->x ∉ l:=λ x hx hxl=>by
            rcases hx with hx | hx
            . obtain ⟨r,hr,hi⟩:=(hlm x).1 hxl
              have:=(hn2 r hr (by intro e;rw [e] at hx;simp at hx)).2.2 x hx
              rw [this] at hi;cases hi
            . have:=lnx x hxl;omega
           have hold:∀ x,x ∉ h'.wl->¬ (h.nx<=x/\x < g2.nx)->g2.get x=h.get x:=λ x hx1 hx2=>by
            have key:h'.get x=if x ∈ l then none else h.get x:=by
             by_cases hlt:x < h.nx
             . rw [hlog x (by omega) hx1,gV]
             . have hxl:x ∉ l:=λ e=>hlt (lnx x e)
               have h0:h.get x=none:=by
                cases hq:h.get x with
                | none=>rfl
                | some q=>exact absurd (hw x (by simp [hq])) hlt
               have h1:h'.get x=none:=by
                cases hq:h'.get x with
                | none=>rfl
                | some q=>
                  rcases hdom x (by simp [hq]) with d | d
                  . rw [gV] at d;simp [hxl,h0] at d
                  . omega
               simp [h1,h0]
            rw [hg2,key]
            split
            . simp
            . rfl
           refine ⟨_,h',ho,e1,f1'.symm,λ x ob e=>?_,λ x e r hr=>?_,.inl rfl,λ x e=>?_,hold,λ x e hx=>?_,?_⟩
           . rw [gV] at e
             split at e
             . cases e
             . exact e
           . rw [gV] at e
             have hxl:x ∉ l:=λ hx=>by simp [hx] at e
             cases hi:inDR x r with
             | false=>rfl
             | true=>exact absurd ((hlm x).2 ⟨r,hr,hi⟩) hxl
           . show g2.get x=_
             rw [hg2,if_neg (tnl x e)]
           . have hlt:x < h.nx:=hw x (by
              rw [gV] at e
              split at e
              . exact absurd rfl e
              . exact e)
             exact hlog x (by omega) hx
           . refine ⟨by show h.nx<=g2.nx;omega,rfl,λ x hx=>mergeW_mem.1 hx,λ x hb hx hm=>?_,λ x hx=>?_⟩
             . refine hold x (λ e=>hm (mergeW_mem.2 hb e)) (by omega)
             . by_cases ht:x ∈ h'.wl ∨ (h.nx<=x/\x < g2.nx)
               . by_cases hr:h.nx<=x/\x < g2.nx
                 . exact .inr hr
                 . left
                   have hx':g2.get x ≠ none:=hx
                   rw [hg2,if_neg (tnl x ht)] at hx'
                   rcases hdom x hx' with d | d
                   . rw [gV] at d
                     split at d
                     . exact absurd rfl d
                     . exact d
                   . exact absurd ⟨by omega,by omega⟩ hr
               . left
                 have hx':g2.get x ≠ none:=hx
                 rw [hold x (λ e=>ht (.inl e)) (λ e=>ht (.inr e))] at hx'
                 exact hx'
         . cases hv
       . cases hv
     . cases hv
   . cases hv
theorem viewRun_ab (hG:Good P rec){tm:Tr AV}{o:Oper}{h h2:AH}{un:List DR}{v:AV}{wr:List Nat}{full:Bool}{ld:Option Nat}(hv:viewRun P rec tm o h un=some (v,h2,wr,full,ld))
 (hun:∀ r ∈ un,r.hi<=h.nx/\∀ x ∈ r.wr,x < h.nx) (hn:noneW h.nx wr un=true):Ab h h2:=by
 unfold viewRun at hv
 split at hv
 . split at hv
   . simp only [nbeq,Bool.cond_decide] at hv
     split at hv
     . simp only [sI,Prod.mk.injEq] at hv
       obtain ⟨_,rfl,_⟩:=hv
       exact Ab.refl _
     . cases hv
   . cases hv
 . split at hv
   . simp only [nbeq,Bool.cond_decide] at hv
     split at hv
     . simp only [sI,Prod.mk.injEq] at hv
       obtain ⟨_,rfl,_⟩:=hv
       exact Ab.refl _
     . split at hv
       . split at hv
         . split at hv
           . rename_i h3 h3n
             simp only [sI,Prod.mk.injEq] at hv
             obtain ⟨_,rfl,_⟩:=hv
             exact new_ab h3n
           . cases hv
         . cases hv
       . cases hv
   . cases hv
 . rename_i id hkk
   split at hv
   . cases ha:un.any (inDR id) with
     | true=>rw [ha] at hv;cases hv
     | false=>
       rw [ha,cond_false] at hv
       split at hv
       . split at hv
         . simp only [nbeq,Bool.cond_decide] at hv
           split at hv
           . split at hv
             . simp only [sI,Prod.mk.injEq] at hv
               obtain ⟨_,rfl,_⟩:=hv
               exact Ab.refl _
             . cases hv
           . cases hv
         . cases hv
       . cases hv
   . cases hv
 . split at hv
   . rename_i l hl
     split at hv
     . rename_i hvv sv hh
       split at hv
       . rename_i v1 h' ho
         split at hv
         . rename_i g2 hs
           simp only [sI,Prod.mk.injEq] at hv
           obtain ⟨rfl,rfl,rfl,rfl,rfl⟩:=hv
           obtain ⟨e1,e2,e3⟩:=hideA_ok hh
           obtain ⟨f1,f2,f3⟩:=showA_ok hs
           obtain ⟨hn1,hn2⟩:=noneW_ok hn
           have hlm:=hideL_ok hl
           have hab:=(opF_ok hG ho).1.2
           have gV:∀ x,(⟨hvv.t,hvv.nx,hvv.nx,[]⟩:AH).get x=if x ∈ l then none else h.get x:=λ x=>e2 x
           have hnx:=hab.nx
           have hlog:∀ x,x < hvv.nx->x ∉ h'.wl->h'.get x=(⟨hvv.t,hvv.nx,hvv.nx,[]⟩:AH).get x:=λ x hx hn=>hab.log x hx hx hn
           have hdom:=hab.dom
           simp only at hnx hdom
           have f1':g2.nx=h'.nx:=f1
           have f2':∀ y,g2.get y=(svGet sv y).or (h'.get y):=f2
           have hg2:∀ x,g2.get x=if x ∈ l then (h.get x).or (h'.get x) else h'.get x:=λ x=>by
            rw [f2',e3]
            split <;> simp
           have lnx:∀ x,x ∈ l->x < h.nx:=λ x hx=>by
            obtain ⟨r,hr,hi⟩:=(hlm x).1 hx
            simp only [inDR,nble,nblt,Bool.or_eq_true,Bool.and_eq_true,decide_eq_true_eq,memN_iff] at hi
            obtain ⟨q1,q2⟩:=hun r hr
            rcases hi with hi | hi
            . omega
            . exact q2 x hi
           have hold:∀ x,x ∉ h'.wl->x < h.nx->g2.get x=h.get x:=λ x hx1 hlt=>by
            rw [hg2,hlog x (by omega) hx1,gV]
            split
            . simp
            . rfl
           refine ⟨by show h.nx<=g2.nx;omega,rfl,λ x hx=>mergeW_mem.1 hx,λ x hb hx hm=>?_,λ x hx=>?_⟩
           . exact hold x (λ e=>hm (mergeW_mem.2 hb e)) hx
           . by_cases hr:h.nx<=x/\x < g2.nx
             . exact .inr hr
             . left
               have hx':g2.get x ≠ none:=hx
               by_cases hxl:x ∈ l
               . rw [hg2,if_pos hxl] at hx'
                 cases hq:h.get x with
                 | some q=>simp
                 | none=>
                   rw [hq] at hx'
                   rcases hdom x (by simpa using hx') with d | d
                   . rw [gV] at d;simp [hxl] at d
                   . exact absurd ⟨by omega,by omega⟩ hr
               . rw [hg2,if_neg hxl] at hx'
                 rcases hdom x hx' with d | d
                 . rw [gV,if_neg hxl] at d;exact d
                 . exact absurd ⟨by omega,by omega⟩ hr
         . cases hv
       . cases hv
     . cases hv
   . cases hv
def recsOf (rr:Nat->DR):Nat->List DR
 | 0=>[]
 | n + 1=>rr n :: recsOf rr n
theorem recsOf_mem {rr:Nat->DR}:∀ {n:Nat} {r:DR},r ∈ recsOf rr n ↔ ∃ k,k < n/\r=rr k
 | 0,r=>by simp [recsOf]
 | n + 1,r=>by
   simp only [recsOf,List.mem_cons,recsOf_mem (n:=n)]
   constructor
   . rintro (rfl | ⟨k,hk,rfl⟩)
     . exact ⟨n,by omega,rfl⟩
     . exact ⟨k,by omega,rfl⟩
   . rintro ⟨k,hk,rfl⟩
     by_cases e:k=n
     . subst e;exact .inl rfl
     . exact .inr ⟨k,by omega,rfl⟩
theorem recsOf_congr {r1 r2:Nat->DR}:∀ {n:Nat},(∀ k,k < n->r1 k=r2 k)->recsOf r1 n=recsOf r2 n
 | 0,_=>rfl
 | n + 1,h=>by simp only [recsOf];rw [h n (by omega),recsOf_congr (λ k hk=>h k (by omega))]
def unA (pm:Nat)(recs:List DR):List DR:=recs.filter λ r=>!Nat.testBit pm r.i
structure Step (P:Program)(rec:Rc)(ops:Array Oper)(rr:Nat->DR)(j:Nat)(s s1:St)(o:Oper)(v:AV)(h1:AH):Prop where
 op:ops[j]?=some o
 i:(rr j).i=j
 pm:predsA j (recsOf rr j) o.after.toList=some (rr j).pm
 dst:(rr j).dst=o.dst
 looks:(rr j).looks=looksA ops.toList o
 lo:(rr j).lo=s.h.nx
 hi:(rr j).hi=h1.nx
 apart:∀ r ∈ unA (rr j).pm (recsOf rr j),apartT o.dst (looksA ops.toList o) r=true
 run:(wantA ops.toList s.tm o=some true/\viewRun P rec s.tm o s.h (unA (rr j).pm (recsOf rr j))=some (v,h1,(rr j).wr,(rr j).full,(rr j).ld)/\noneW s.h.nx (rr j).wr (unA (rr j).pm (recsOf rr j))=true) ∨
  (wantA ops.toList s.tm o=some false/\v=undefA/\h1=s.h/\(rr j).wr=[]/\(rr j).full=false/\(rr j).ld=none)
 put:putA { s with h:=h1 } o.dst v=some s1
theorem draw_trace (ops:Array Oper):∀ (rest:List Oper) (i:Nat) (recs:List DR) (s s':St),drawA P rec ops.toList rest i recs s=some s'->rest=ops.toList.drop i->i<=ops.size->∀ rr0,recs=recsOf rr0 i →
 ∃ (S:Nat->St) (rr:Nat->DR),(∀ j,j < i->rr j=rr0 j)/\S i=s/\S ops.size=s'/\∀ j,i<=j->j < ops.size->∃ o v h1,Step P rec ops rr j (S j) (S (j + 1)) o v h1
 | [],i,recs,s,s',h,hr,hi,rr0,_=>by
   simp only [drawA,sI] at h;subst h
   have:ops.size<=i:=by have:=congrArg List.length hr;simp at this;omega
   exact ⟨λ _=>s,rr0,λ _ _=>rfl,rfl,rfl,λ j h1 h2=>by omega⟩
 | o :: rest,i,recs,s,s',h,hr,hi,rr0,hrec=>by
   have h1:(ops.toList.drop i)[0]?=some o:=by rw [<- hr];rfl
   rw [List.getElem?_drop,Nat.add_zero,Array.getElem?_toList] at h1
   have hlt:=(Array.getElem?_eq_some_iff.1 h1).1
   have hrest:rest=ops.toList.drop (i + 1):=by rw [<- List.drop_drop (i:=1),<- hr];rfl
   rw [drawA_cons] at h
   simp only at h
   split at h
   . cases h
   . rename_i pm hpm
     cases hap:(recs.filter λ r=>!Nat.testBit pm r.i).all (apartT o.dst (looksA ops.toList o)) with
     | false=>rw [hap] at h;cases h
     | true=>
       rw [hap,cond_true] at h
       have main:∀ (v:AV) (h1:AH) (wr:List Nat) (full:Bool) (ld:Option Nat) (s1:St),putA { s with h:=h1 } o.dst v=some s1 →
        drawA P rec ops.toList rest (Nat.succ i) (⟨i,pm,o.dst,looksA ops.toList o,s.h.nx,h1.nx,wr,full,ld⟩ :: recs) s1=some s' →
        ((wantA ops.toList s.tm o=some true/\viewRun P rec s.tm o s.h (unA pm recs)=some (v,h1,wr,full,ld)/\noneW s.h.nx wr (unA pm recs)=true) ∨
          (wantA ops.toList s.tm o=some false/\v=undefA/\h1=s.h/\wr=[]/\full=false/\ld=none)) →
        ∃ (S:Nat->St) (rr:Nat->DR),(∀ j,j < i->rr j=rr0 j)/\S i=s/\S ops.size=s'/\∀ j,i<=j->j < ops.size->∃ o v h1,Step P rec ops rr j (S j) (S (j + 1)) o v h1:=by
        intro v hh wr full ld s1 hput hdr hrun
        obtain ⟨S,rr,q1,q2,q3,q4⟩:=draw_trace ops rest (i + 1) _ s1 s' hdr hrest hlt (λ j=>if j=i then ⟨i,pm,o.dst,looksA ops.toList o,s.h.nx,hh.nx,wr,full,ld⟩ else rr0 j) (by
         simp only [recsOf,if_true]
         rw [hrec]
         congr 1
         exact recsOf_congr (λ k hk=>(if_neg (show ¬ k=i by omega)).symm))
        have hri:rr i=⟨i,pm,o.dst,looksA ops.toList o,s.h.nx,hh.nx,wr,full,ld⟩:=by rw [q1 i (by omega)];simp
        have hrj:∀ j,j < i->rr j=rr0 j:=λ j hj=>by rw [q1 j (by omega)];simp only [if_neg (show ¬ j=i by omega)]
        have hro:recsOf rr i=recs:=by rw [hrec];exact recsOf_congr hrj
        refine ⟨λ j=>if j=i then s else S j,rr,hrj,by simp,by simp only [if_neg (show ¬ ops.size=i by omega)];exact q3,λ j hj1 hj2=>?_⟩
        by_cases hji:j=i
        . subst hji
          simp only [if_true,if_neg (show ¬ j + 1=j by omega),q2]
          refine ⟨o,v,hh,h1,by rw [hri],by rw [hro,hri];exact hpm,by rw [hri],by rw [hri],by rw [hri],by rw [hri],?_,?_,hput⟩
          . rw [hri,hro]
            intro r hr2
            exact List.all_eq_true.1 hap r hr2
          . rw [hri,hro];exact hrun
        . simp only [if_neg hji,if_neg (show ¬ j + 1=i by omega)]
          exact q4 j (by omega) hj2
       split at h
       . rename_i hwt
         split at h
         . rename_i v hh wr full ld hvr
           cases hnw:noneW s.h.nx wr (recs.filter λ r=>!Nat.testBit pm r.i) with
           | false=>rw [hnw] at h;cases h
           | true=>
             rw [hnw,cond_true] at h
             split at h
             . rename_i s1 hput
               exact main v hh wr full ld s1 hput h (.inl ⟨hwt,hvr,hnw⟩)
             . cases h
         . cases h
       . rename_i hwt
         split at h
         . rename_i s1 hput
           exact main undefA s.h [] false none s1 (by simpa using hput) h (.inr ⟨hwt,rfl,rfl,rfl,rfl,rfl⟩)
         . cases h
       . cases h
end
def cur {β:Type}(D T:Nat->Bool)(val:Nat->β):Nat->β
 | 0=>val 0
 | n + 1=>bif D n && T n then val (n + 1) else cur D T val n
theorem cur_lo {β:Type}{D T:Nat->Bool}{val:Nat->β}:∀ (i:Nat),(∀ k,k < i->T k=true->D k=true)->(∀ k,k < i->T k=false->val (k + 1)=val k)->cur D T val i=val i
 | 0,_,_=>rfl
 | i + 1,h1,h2=>by
   simp only [cur]
   cases ht:T i with
   | true=>simp [h1 i (by omega) ht]
   | false=>
     simp only [Bool.and_false,cond_false]
     rw [cur_lo i (λ k hk=>h1 k (by omega)) (λ k hk=>h2 k (by omega)),h2 i (by omega) ht]
theorem cur_view {β:Type}{D T:Nat->Bool}{val:Nat->β}{i:Nat}(h1:∀ k,k < i->T k=true->D k=true):∀ (n:Nat),i<=n->(∀ k,i<=k->k < n->T k=true->D k=false) →
 (∀ k,k < n->T k=false->val (k + 1)=val k)->cur D T val n=val i
 | 0, hi, _, _ => by obtain rfl:i=0:=by omega
                     rfl
 | n + 1,hi,h2,h3=>by
   by_cases e:i=n + 1
   . subst e;exact cur_lo _ h1 h3
   . simp only [cur]
     have:(D n && T n)=false:=by
      cases ht:T n with
      | true=>simp [h2 n (by omega) (by omega) ht]
      | false=>simp
     rw [this,cond_false]
     exact cur_view h1 n (by omega) (λ k hk1 hk2=>h2 k hk1 (by omega)) (λ k hk=>h3 k (by omega))
theorem cur_off {β:Type}{D D' T:Nat->Bool}{val:Nat->β}{i:Nat}(hD:∀ k,k ≠ i->D' k=D k)(ht:T i=false):∀ n,cur D' T val n=cur D T val n
 | 0=>rfl
 | n + 1=>by
   simp only [cur,cur_off hD ht n]
   by_cases e:n=i
   . subst e;simp [ht]
   . rw [hD n e]
theorem cur_on {β:Type}{D D' T:Nat->Bool}{val:Nat->β}{i:Nat}(hD:∀ k,k ≠ i->D' k=D k)(hi:D' i=true)(ht:T i=true):∀ n,i < n->(∀ k,i < k->k < n->T k=true->D k=false)->cur D' T val n=val (i + 1)
 | 0,h,_=>by omega
 | n + 1,h,h2=>by
   simp only [cur]
   by_cases e:n=i
   . subst e;simp [hi,ht]
   . rw [hD n e]
     have:(D n && T n)=false:=by
      cases htn:T n with
      | true=>simp [h2 n (by omega) (by omega) htn]
      | false=>simp
     rw [this,cond_false]
     exact cur_on hD hi ht n (by omega) (λ k hk1 hk2=>h2 k hk1 (by omega))
theorem countP_dec {p q:Nat->Bool}:∀ {l:List Nat},(∀ x ∈ l,q x=true->p x=true)->(∃ x ∈ l,p x=true/\q x=false)->l.countP q < l.countP p
 | [],_,⟨x,hx,_⟩=>by cases hx
 | y :: l,h,⟨x,hx,hp,hq⟩=>by
   have hle:l.countP q<=l.countP p:=List.countP_mono_left (λ z hz=>h z (by simp [hz]))
   rw [List.countP_cons,List.countP_cons]
   rcases List.mem_cons.1 hx with rfl | hx
   . simp [hp,hq];omega
   . have:=countP_dec (λ z hz=>h z (by simp [hz])) ⟨x,hx,hp,hq⟩
     by_cases hy:q y=true
     . simp [hy,h y (by simp) hy];omega
     . simp [hy];omega
section
variable {P : Program} {rec : Rc}
theorem predsA_ok {i:Nat}{recs:List DR}:∀ {es:List Edge} {m:Nat},predsA i recs es=some m →
 (∀ e ∈ es,Region.binds .any e=true->∃ r ∈ recs,r.i=e.on/\Nat.testBit m e.on=true/\∀ k,Nat.testBit r.pm k=true->Nat.testBit m k=true) ∧
 (∀ k,Nat.testBit m k=true->∃ e ∈ es,Region.binds .any e=true/\(e.on=k ∨ ∃ r ∈ recs,r.i=e.on/\Nat.testBit r.pm k=true))
 | [],m,h=>by
   simp only [predsA,sI] at h;subst h
   exact ⟨by simp,λ k hk=>by simp at hk⟩
 | e :: es,m,h=>by
   simp only [predsA] at h
   split at h
   . rename_i m0 hm0
     obtain ⟨i1,i2⟩:=predsA_ok hm0
     cases hb:Region.binds .any e with
     | false=>
       rw [hb,cond_false,sI] at h;subst h
       refine ⟨λ e' he' hb'=>?_,λ k hk=>?_⟩
       . rcases List.mem_cons.1 he' with rfl | he'
         . rw [hb] at hb';cases hb'
         . exact i1 e' he' hb'
       . obtain ⟨e',he',q⟩:=i2 k hk
         exact ⟨e',by simp [he'],q⟩
     | true=>
       rw [hb,cond_true] at h
       split at h
       . rename_i r hr
         simp only [sI] at h;subst h
         have hri:r.i=e.on:=by have:=List.find?_some hr;simpa [nbeq] using this
         have hrm:=List.mem_of_find?_eq_some hr
         have tb:∀ k,Nat.testBit (Nat.lor m0 (Nat.lor (Nat.shiftLeft 1 e.on) r.pm)) k=(Nat.testBit m0 k || (decide (e.on=k) || Nat.testBit r.pm k)):=λ k=>by
          show Nat.testBit (m0 ||| ((1 <<< e.on) ||| r.pm)) k=_
          rw [Nat.testBit_or,Nat.testBit_or,Nat.testBit_shiftLeft]
          congr 2
          by_cases hk:e.on=k
          . subst hk;simp
          . by_cases h2:k ≥ e.on
            . have:k - e.on ≠ 0:=by omega
              have t1:∀ m,m ≠ 0->Nat.testBit 1 m=false:=λ m hm=>by
               cases m with
               | zero=>exact absurd rfl hm
               | succ m=>rw [Nat.testBit_succ];simp
              simp [hk,h2,t1 _ this]
            . simp [hk,h2]
         refine ⟨λ e' he' hb'=>?_,λ k hk=>?_⟩
         . rcases List.mem_cons.1 he' with rfl | he'
           . exact ⟨r,hrm,hri,by rw [tb];simp,λ k hk=>by rw [tb];simp [hk]⟩
           . obtain ⟨r',q1,q2,q3,q4⟩:=i1 e' he' hb'
             exact ⟨r',q1,q2,by rw [tb];simp [q3],λ k hk=>by rw [tb];simp [q4 k hk]⟩
         . rw [tb] at hk
           simp only [Bool.or_eq_true,decide_eq_true_eq] at hk
           rcases hk with hk | hk | hk
           . obtain ⟨e',he',q⟩:=i2 k hk
             exact ⟨e',by simp [he'],q⟩
           . exact ⟨e,by simp,hb,.inl hk⟩
           . exact ⟨e,by simp,hb,.inr ⟨r,hrm,hri,hk⟩⟩
       . cases h
   . cases h
structure Dig (P:Program)(rec:Rc)(ops:Array Oper)(rr:Nat->DR)(S:Nat->St)(j:Nat)(o:Oper)(v:AV):Prop where
 st:∃ h1,Step P rec ops rr j (S j) (S (j + 1)) o v h1/\h1=(S (j + 1)).h
 run:(wantA ops.toList (S j).tm o=some true/\(∃ V V',View P rec (S j).tm o (S j).h (unA (rr j).pm (recsOf rr j)) v (S (j + 1)).h (rr j).wr (rr j).full (rr j).ld V V')/\noneW (S j).h.nx (rr j).wr (unA (rr j).pm (recsOf rr j))=true) ∨
  (wantA ops.toList (S j).tm o=some false/\v=undefA/\(S (j + 1)).h=(S j).h/\(rr j).wr=[]/\(rr j).full=false/\(rr j).ld=none)
structure Base (rr:Nat->DR)(S:Nat->St)(j:Nat):Prop where
 wf:WfH (S j).h
 recs:∀ k,k < j->(rr k).hi<=(S j).h.nx/\∀ x ∈ (rr k).wr,x < (S j).h.nx
 sz:(S j).sz=(S 0).sz
 rd:(S j).rd=(S 0).rd
 df:(S j).df=(S 0).df
 ab:Ab (S 0).h (S j).h
theorem base_ok (hG:Good P rec){ops:Array Oper}{rr:Nat->DR}{S:Nat->St}(h0:WfH (S 0).h)(hS:∀ j,j < ops.size->∃ o v h1,Step P rec ops rr j (S j) (S (j + 1)) o v h1):
 ∀ j,j<=ops.size->Base rr S j/\(∀ k,k < j->∃ o v,Dig P rec ops rr S k o v)
 | 0,_=>⟨⟨h0,λ k hk=>by omega,rfl,rfl,rfl,Ab.refl _⟩,λ k hk=>by omega⟩
 | j + 1,hj=>by
   obtain ⟨b,d⟩:=base_ok hG h0 hS j (by omega)
   obtain ⟨o,v,h1,st⟩:=hS j (by omega)
   obtain ⟨p1,p2,p3,p4⟩:=putA_same st.put
   simp only at p1 p2 p3 p4
   have hun:∀ r ∈ unA (rr j).pm (recsOf rr j),r.hi<=(S j).h.nx/\∀ x ∈ r.wr,x < (S j).h.nx:=λ r hr=>by
    obtain ⟨k,hk,rfl⟩:=recsOf_mem.1 (List.mem_filter.1 hr).1
    exact b.recs k hk
   have dig:Dig P rec ops rr S j o v/\Ab (S j).h (S (j + 1)).h/\∀ x ∈ (rr j).wr,x < (S j).h.nx:=by
    rcases st.run with ⟨r1,r2,r3⟩ | ⟨r1,r2,r3,r4,r5,r6⟩
    . obtain ⟨V,V',hv⟩:=viewRun_ok hG r2 b.wf hun r3
      rw [<- p1] at hv
      exact ⟨⟨⟨h1,st,p1.symm⟩,.inl ⟨r1,⟨V,V',hv⟩,r3⟩⟩,hv.ab,(noneW_ok r3).1⟩
    . have e:(S (j + 1)).h=(S j).h:=by rw [p1,r3]
      exact ⟨⟨⟨h1,st,p1.symm⟩,.inr ⟨r1,r2,e,r4,r5,r6⟩⟩,by rw [e];exact Ab.refl _,by rw [r4];simp⟩
   obtain ⟨dg,ab,hwr⟩:=dig
   have hnx:=ab.nx
   refine ⟨⟨ab.wf b.wf,λ k hk=>?_,by rw [p2,b.sz],by rw [p3,b.rd],by rw [p4,b.df],b.ab.trans ab⟩,λ k hk=>?_⟩
   . by_cases e:k=j
     . subst e
       refine ⟨by rw [st.hi,p1];exact Nat.le_refl _,λ x hx=>Nat.lt_of_lt_of_le (hwr x hx) hnx⟩
     . obtain ⟨q1,q2⟩:=b.recs k (by omega)
       exact ⟨Nat.le_trans q1 hnx,λ x hx=>Nat.lt_of_lt_of_le (q2 x hx) hnx⟩
   . by_cases e:k=j
     . subst e;exact ⟨o,v,dg⟩
     . exact d k (by omega)
structure Inv (n:Nat)(rr:Nat->DR)(S:Nat->St)(M0:Mp)(w0:World)(D:Nat->Bool)(M:Mp)(a:Act)(w:World):Prop where
 tm:∀ t,(cur D (λ j=>sameT (rr j).dst (some t)) (λ j=>((S j).tm.get (t + 1)).getD undefA) n).R M (a.tmps.getD t undef)
 sz:a.tmps.size=(S 0).sz
 df:DfR M (S 0).df a.defers
 obj:∀ x o,cur D (λ j=>inDR x (rr j)) (λ j=>(S j).h.get x) n=some o->(o.Vac/\M x=none) ∨ ∃ b κ ob,M x=some (b,κ)/\w.heap[b]?=some ob/\ObR M κ o ob
 inj:∀ x y b κ κ' o,cur D (λ j=>inDR x (rr j)) (λ j=>(S j).h.get x) n=some o->o.ro=false->cur D (λ j=>inDR y (rr j)) (λ j=>(S j).h.get y) n ≠ none->M x=some (b,κ)->M y=some (b,κ')->x=y
 fresh:∀ x,M x ≠ M0 x->∃ j,j < n/\D j=true/\(rr j).lo<=x/\x < (rr j).hi
 os:w.os=w0.os
 tape:w.tape=w0.tape
 output:w.output=w0.output
 size:w0.heap.size<=w.heap.size
 ext:Le M0 M
 keep:∀ k,k < w0.heap.size->(∀ id κ o,(S 0).h.get id=some o->o.ro=false->M0 id ≠ some (k,κ))->w.heap[k]?=w0.heap[k]?
 range:∀ x b κ o',cur D (λ j=>inDR x (rr j)) (λ j=>(S j).h.get x) n=some o'->M x=some (b,κ)->w0.heap.size<=b ∨ ∃ i κ' o,(S 0).h.get i=some o/\M0 i=some (b,κ')/\(o'.ro=false->o.ro=false)
 closed:∀ j,j < n->D j=true->∀ k,Nat.testBit (rr j).pm k=true->D k=true
 gw:GW w
 gf:∀ x b κ o,cur D (λ j=>inDR x (rr j)) (λ j=>(S j).h.get x) n=some o->o.ro=false->M x=some (b,κ)->GL b=none
 fz:∀ b cs,M.z b=some cs->∃ e fr,w.heap[b]?=some (.cells cs e fr)
 fo:∀ x b κ o,cur D (λ j=>inDR x (rr j)) (λ j=>(S j).h.get x) n=some o->o.ro=false->M x=some (b,κ)->M.z b=none
 zx:∀ b cs,M.z b=some cs->M0.z b=some cs ∨ w0.heap.size<=b ∨ ∃ i κ o,(S 0).h.get i=some o/\o.ro=false/\M0 i=some (b,κ)
theorem inDR_iff {x:Nat}{r:DR}:inDR x r=true ↔ (r.lo<=x/\x < r.hi) ∨ x ∈ r.wr:=by
 simp only [inDR,nble,nblt,Bool.or_eq_true,Bool.and_eq_true,decide_eq_true_eq,memN_iff]
theorem sameT_iff {a:Option Tmp}{t:Tmp}:sameT a (some t)=true ↔ a=some t:=by
 cases a <;> simp [sameT,nbeq]
structure Facts (P:Program)(rec:Rc)(ops:Array Oper)(rr:Nat->DR)(S:Nat->St):Prop where
 base:∀ j,j<=ops.size->Base rr S j
 dig:∀ j,j < ops.size->∃ o v,Dig P rec ops rr S j o v
section facts
variable {ops : Array Oper} {rr : Nat -> DR} {S : Nat -> St} (F : Facts P rec ops rr S)
include F
theorem Facts.rcd (j:Nat)(hj:j < ops.size):(rr j).i=j/\(rr j).lo=(S j).h.nx/\(rr j).hi=(S (j + 1)).h.nx/\(rr j).lo<=(rr j).hi:=by
 obtain ⟨o,v,d⟩:=F.dig j hj
 obtain ⟨h1,st,e⟩:=d.st
 have hab:(S j).h.nx<=(S (j + 1)).h.nx:=by
  rcases d.run with ⟨_,⟨V,V',hv⟩,_⟩ | ⟨_,_,e2,_⟩
  . exact hv.ab.nx
  . rw [e2];exact Nat.le_refl _
 refine ⟨st.i,st.lo,by rw [st.hi,e],?_⟩
 rw [st.lo,st.hi,e];exact hab
theorem Facts.nx (j k:Nat)(hk:k<=ops.size)(h:j<=k):(S j).h.nx<=(S k).h.nx:=by
 induction k with
 | zero => obtain rfl:j=0:=by omega
           exact Nat.le_refl _
 | succ k ih=>
   by_cases e:j=k + 1
   . rw [e];exact Nat.le_refl _
   . have h1:=ih (by omega) (by omega)
     obtain ⟨_,h2,h3,h4⟩:=F.rcd k (by omega)
     rw [h2,h3] at h4;omega
theorem Facts.heap_same (j:Nat)(hj:j < ops.size)(x:Nat)(h:inDR x (rr j)=false):(S (j + 1)).h.get x=(S j).h.get x:=by
 obtain ⟨o,v,d⟩:=F.dig j hj
 obtain ⟨_,h2,h3,_⟩:=F.rcd j hj
 have hn:¬ (((rr j).lo<=x/\x < (rr j).hi) ∨ x ∈ (rr j).wr):=λ e=>by rw [inDR_iff.2 e] at h;cases h
 rcases d.run with ⟨_,⟨V,V',hv⟩,_⟩ | ⟨_,_,e2,_⟩
 . exact hv.old x (λ e=>hn (.inr e)) (λ e=>hn (.inl (by rw [h2,h3];exact e)))
 . rw [e2]
theorem Facts.tm_same (j:Nat)(hj:j < ops.size)(t:Nat)(h:sameT (rr j).dst (some t)=false):(S (j + 1)).tm.get (t + 1)=(S j).tm.get (t + 1):=by
 obtain ⟨o,v,d⟩:=F.dig j hj
 obtain ⟨h1,st,e⟩:=d.st
 have hd:o.dst ≠ some t:=λ e=>by rw [<- st.dst] at e;rw [sameT_iff.2 e] at h;cases h
 have hp:=st.put
 rw [putA_eq] at hp
 split at hp
 . simp only [sI] at hp;rw [<- hp]
 . rename_i d' hdd
   simp only [nblt,Bool.cond_decide] at hp
   split at hp
   . split at hp
     . rename_i t' ht'
       simp only [sI] at hp
       rw [<- hp]
       show t'.get (t + 1)=_
       rw [Tr.get_set _ _ _ _ _ ht',if_neg]
       intro e2
       apply hd
       rw [hdd,Nat.succ.inj e2]
     . cases hp
   . cases hp
theorem Facts.apart {k j:Nat}(hk:k < j)(hj:j < ops.size)(hu:Nat.testBit (rr j).pm k=false):rr k ∈ unA (rr j).pm (recsOf rr j)/\memT (rr k).dst (rr j).looks=false/\sameT (rr k).dst (rr j).dst=false/\memT (rr j).dst (rr k).looks=false:=by
 obtain ⟨o,v,d⟩:=F.dig j hj
 obtain ⟨h1,st,e⟩:=d.st
 have hm:rr k ∈ unA (rr j).pm (recsOf rr j):=List.mem_filter.2 ⟨recsOf_mem.2 ⟨k,hk,rfl⟩,by rw [(F.rcd k (by omega)).1,hu];rfl⟩
 have ha:=st.apart _ hm
 unfold apartT at ha
 simp only [Bool.and_eq_true,Bool.not_eq_true'] at ha
 rw [<- st.dst,<- st.looks] at ha
 exact ⟨hm,ha.1.1,ha.1.2,ha.2⟩
end facts
end
section
variable {P : Program} {rec : Rc} {ops : Array Oper} {rr : Nat -> DR} {S : Nat -> St} {M0 : Mp} {w0 : World} {D D' : Nat -> Bool} {M : Mp} {a : Act} {w : World} {i : Nat}
theorem put_tm {o:Oper}{v:AV}{h1:AH}(st:Step P rec ops rr i (S i) (S (i + 1)) o v h1):∀ t,(rr i).dst=some t->(S (i + 1)).tm.get (t + 1)=some v/\t < (S i).sz:=λ t ht=>by
 have hp:=st.put
 rw [st.dst] at ht
 rw [ht] at hp
 simp only [putA_eq,nblt,Bool.cond_decide] at hp
 split at hp
 . rename_i hlt
   split at hp
   . rename_i t' ht'
     simp only [sI] at hp
     rw [<- hp]
     refine ⟨?_,hlt⟩
     show t'.get (t + 1)=_
     rw [Tr.get_set _ _ _ _ _ ht']
     simp
   . cases hp
 . cases hp
theorem later_off (F:Facts P rec ops rr S)(I:Inv ops.size rr S M0 w0 D M a w)(hi:i < ops.size)(hDi:D i=false){x:Nat}(hx:inDR x (rr i)=true):∀ k,i < k->k < ops.size->inDR x (rr k)=true->D k=false:=λ k h1 h2 h3=>by
 cases hD:D k with
 | false=>rfl
 | true=>
   exfalso
   have hu:Nat.testBit (rr k).pm i=false:=by
    cases hb:Nat.testBit (rr k).pm i with
    | false=>rfl
    | true=>have:=I.closed k h2 hD i hb;rw [hDi] at this;cases this
   obtain ⟨hm,_⟩:=F.apart h1 h2 hu
   obtain ⟨_,r2,r3,_⟩:=F.rcd i hi
   obtain ⟨_,q2,q3,_⟩:=F.rcd k h2
   have hmono:=F.nx (i + 1) k (by omega) (by omega)
   rcases inDR_iff.1 h3 with h4 | h4
   . rcases inDR_iff.1 hx with h5 | h5
     . omega
     . have:=((F.base (i + 1) (by omega)).recs i (by omega)).2 x h5;omega
   . obtain ⟨o,v,d⟩:=F.dig k h2
     rcases d.run with ⟨_,_,hn⟩ | ⟨_,_,_,hw,_⟩
     . have:=((noneW_ok hn).2 _ hm (by intro e;rw [e] at h4;cases h4)).2.2 x h4
       rw [hx] at this;cases this
     . rw [hw] at h4;cases h4
theorem inv_upd (F:Facts P rec ops rr S)(I:Inv ops.size rr S M0 w0 D M a w)(hi:i < ops.size)(hDi:D i=false)(hpre:∀ k,Nat.testBit (rr i).pm k=true->D k=true)(hD:∀ k,k ≠ i->D' k=D k)(hDi':D' i=true)
 {o:Oper} {v:AV} {h1:AH} (st:Step P rec ops rr i (S i) (S (i + 1)) o v h1) {M':Mp} {u:Value} {w':World} {V V':AH} (rv:v.R M' u) (rh:Rel M' V' w') (f:Fr V V' M M' w w')
 (hnx:V.nx=(rr i).lo) (hnx':V'.nx=(rr i).hi) (hsub:∀ x ob,V.get x=some ob->cur D (λ j=>inDR x (rr j)) (λ j=>(S j).h.get x) ops.size=some ob)
 (hnew:∀ x,inDR x (rr i)=true->(S (i + 1)).h.get x=V'.get x) (hkeep:∀ x,V.get x ≠ none->inDR x (rr i)=false->V'.get x=V.get x):Inv ops.size rr S M0 w0 D' M' (a.put o.dst u) w':=by
 have hDtrue:∀ k,D k=true->D' k=true:=λ k hk=>by
  by_cases e:k=i
  . rw [e];exact hDi'
  . rw [hD k e];exact hk
 have cOn:∀ x,inDR x (rr i)=true->cur D' (λ j=>inDR x (rr j)) (λ j=>(S j).h.get x) ops.size=V'.get x:=λ x hx=>by
  rw [cur_on hD hDi' hx ops.size hi (λ k q1 q2 q3=>later_off F I hi hDi hx k q1 q2 q3)]
  exact hnew x hx
 have cOff:∀ x,inDR x (rr i)=false->cur D' (λ j=>inDR x (rr j)) (λ j=>(S j).h.get x) ops.size=cur D (λ j=>inDR x (rr j)) (λ j=>(S j).h.get x) ops.size:=λ x hx=>cur_off hD hx ops.size
 -- a block of the new state: it is in V',or it is as_ it was and not in V
 have cases2:∀ x,cur D' (λ j=>inDR x (rr j)) (λ j=>(S j).h.get x) ops.size ≠ none →
  (V'.get x=cur D' (λ j=>inDR x (rr j)) (λ j=>(S j).h.get x) ops.size) ∨
  (V.get x=none/\inDR x (rr i)=false/\cur D' (λ j=>inDR x (rr j)) (λ j=>(S j).h.get x) ops.size=cur D (λ j=>inDR x (rr j)) (λ j=>(S j).h.get x) ops.size):=λ x hx=>by
  cases hd:inDR x (rr i) with
  | true=>exact .inl (cOn x hd).symm
  | false=>
    cases hV:V.get x with
    | none=>exact .inr ⟨rfl,rfl,cOff x hd⟩
    | some ob=>
      left
      rw [hkeep x (by simp [hV]) hd,hV,cOff x hd,hsub x ob hV]
 have Mold:∀ x b κ,V.get x=none->inDR x (rr i)=false->cur D (λ j=>inDR x (rr j)) (λ j=>(S j).h.get x) ops.size ≠ none->M' x=some (b,κ)->M x=some (b,κ)/\b < w.heap.size:=λ x b κ _ hdr hc hM=>by
  cases hcc:cur D (λ j=>inDR x (rr j)) (λ j=>(S j).h.get x) ops.size with
  | none=>exact absurd hcc hc
  | some oo=>
    rcases I.obj x oo hcc with ⟨hv,e1⟩ | ⟨b2,κ2,ob,e1,e2,_⟩
    . exfalso
      have h9:=f.only x (by rw [hM,e1];simp)
      rw [inDR_iff.2 (.inl ⟨by omega,by omega⟩)] at hdr;cases hdr
    have:=f.ext _ _ e1
    rw [hM] at this
    simp only [sI,Prod.mk.injEq] at this
    obtain ⟨rfl,rfl⟩:=this
    exact ⟨e1,heap_lt e2⟩
 have notV:∀ x b κ ox,V.get x=none->cur D (λ j=>inDR x (rr j)) (λ j=>(S j).h.get x) ops.size=some ox->M x=some (b,κ)->∀ id κ' oid,V.get id=some oid->(ox.ro=false ∨ oid.ro=false)->M id ≠ some (b,κ'):=λ x b κ ox hV hc hM id κ' oid hid hro e=>by
  have:id=x:=by
   rcases hro with hr | hr
   . exact (I.inj x id b κ κ' ox hc hr (by rw [hsub id oid hid];simp) hM e).symm
   . exact I.inj id x b κ' κ oid (hsub id oid hid) hr (by rw [hc];simp) e hM
  subst this
  rw [hV] at hid;cases hid
 refine ⟨λ t=>?_,?_,?_,λ x oo hx=>?_,λ x y b κ κ' ox hx hro hy ex ey=>?_,λ x hx=>?_,f.os.trans I.os,f.tape.trans I.tape,f.output.trans I.output,Nat.le_trans I.size f.size,I.ext.trans f.ext,λ k hk hn=>?_,λ x b κ o' hx hM=>?_,λ j hj hDj k hk=>?_,rh.gw,λ x b κ ox hx hro hM=>?_,rh.fz,λ x b κ ox hx hro hM=>?_,λ b cs e=>?_⟩
 . cases ht:sameT (rr i).dst (some t) with
   | false=>
     rw [cur_off hD ht ops.size]
     have hne:o.dst ≠ some t:=λ e=>by rw [<- st.dst] at e;rw [sameT_iff.2 e] at ht;cases ht
     have:(a.put o.dst u).tmps.getD t undef=a.tmps.getD t undef:=by
      cases hdd:o.dst with
      | none=>rfl
      | some d=>
        have hdt:t ≠ d:=λ e=>hne (by rw [hdd,e])
        simp only [Act.put,Array.getD_eq_getD_getElem?,Array.getElem?_setIfInBounds_ne (Ne.symm hdt)]
     rw [this]
     exact AV.R.mono f.ext _ _ (I.tm t)
   | true=>
     have hdt:=sameT_iff.1 ht
     rw [cur_on hD hDi' ht ops.size hi (λ k q1 q2 q3=>by
      cases hDk:D k with
      | false=>rfl
      | true=>
        exfalso
        have hu:Nat.testBit (rr k).pm i=false:=by
         cases hb:Nat.testBit (rr k).pm i with
         | false=>rfl
         | true=>have:=I.closed k q2 hDk i hb;rw [hDi] at this;cases this
        obtain ⟨_,_,hs,_⟩:=F.apart q1 q2 hu
        rw [hdt,sameT_iff.1 q3] at hs
        simp [sameT] at hs)]
     obtain ⟨e1,e2⟩:=put_tm st t hdt
     rw [e1]
     have hlt:t < a.tmps.size:=by rw [I.sz,<- (F.base i (by omega)).sz];exact e2
     rw [st.dst] at hdt
     have:(a.put o.dst u).tmps.getD t undef=u:=by rw [hdt];simp [Act.put,hlt]
     rw [this];exact rv
 . have:=I.sz
   cases hdd:o.dst <;> simpa [Act.put,hdd] using this
 . have hdf:(a.put o.dst u).defers=a.defers:=by cases o.dst <;> rfl
   rw [hdf];exact I.df.mono f.ext
 . rcases cases2 x (by rw [hx];simp) with h | ⟨h1,h2,h3⟩
   . rw [hx] at h;exact rh.obj x oo h
   . rw [hx] at h3
     rcases I.obj x oo h3.symm with ⟨hv,e1⟩ | ⟨b,κ,ob,e1,e2,e3⟩
     . refine .inl ⟨hv,?_⟩
       cases hM':M' x with
       | none=>rfl
       | some q=>
         exfalso
         have h9:=f.only x (by rw [hM',e1];simp)
         rw [inDR_iff.2 (.inl ⟨by omega,by omega⟩)] at h2;cases h2
     refine .inr ⟨b,κ,ob,f.ext _ _ e1,?_,ObR.mono f.ext _ _ e3⟩
     rw [f.keep b (heap_lt e2) (λ id κ' oid hid hr=>notV x b κ oo h1 h3.symm e1 id κ' oid hid (.inr hr))]
     exact e2
 . rcases cases2 x (by rw [hx];simp) with h | ⟨h1,h2,h3⟩
   . rw [hx] at h
     rcases cases2 y hy with k | ⟨k1,k2,k3⟩
     . exact rh.inj x y b κ κ' ox h hro (by rw [k];exact hy) ex ey
     . rw [k3] at hy
       obtain ⟨e1,e2⟩:=Mold y b κ' k1 k2 hy ey
       rcases f.range x b κ ox h ex with q | ⟨id,κ2,oid,q1,q2,q3⟩
       . omega
       . cases hyy:cur D (λ j=>inDR y (rr j)) (λ j=>(S j).h.get y) ops.size with
         | none=>exact absurd hyy hy
         | some oy=>exact absurd q2 (notV y b κ' oy k1 hyy e1 id κ2 oid q1 (.inr (q3 hro)))
   . rw [h3] at hx
     obtain ⟨e1,e2⟩:=Mold x b κ h1 h2 (by rw [hx];simp) ex
     rcases cases2 y hy with k | ⟨k1,k2,k3⟩
     . cases hVy:V'.get y with
       | none=>rw [<- k,hVy] at hy;exact absurd rfl hy
       | some oy=>
         rcases f.range y b κ' oy hVy ey with q | ⟨id,κ2,oid,q1,q2,q3⟩
         . omega
         . exact absurd q2 (notV x b κ ox h1 hx e1 id κ2 oid q1 (.inl hro))
     . rw [k3] at hy
       exact I.inj x y b κ κ' ox hx hro hy e1 (Mold y b κ' k1 k2 hy ey).1
 . by_cases e:M' x=M x
   . rw [e] at hx
     obtain ⟨j,q1,q2,q3⟩:=I.fresh x hx
     exact ⟨j,q1,hDtrue j q2,q3⟩
   . have:=f.only x e
     exact ⟨i,hi,hDi',by omega,by omega⟩
 . rw [f.keep k (Nat.lt_of_lt_of_le hk I.size) (λ id κ oid hid hr e=>?_)]
   . exact I.keep k hk hn
   . rcases I.range id k κ oid (hsub id oid hid) e with q | ⟨i0,κ',o0,q1,q2,q3⟩
     . omega
     . exact hn i0 κ' o0 q1 (q3 hr) q2
 . rcases cases2 x (by rw [hx];simp) with h | ⟨h1,h2,h3⟩
   . rw [hx] at h
     rcases f.range x b κ o' h hM with q | ⟨id,κ2,oid,q1,q2,q3⟩
     . left;have:=I.size;omega
     . rcases I.range id b κ2 oid (hsub id oid q1) q2 with p | ⟨i0,κ3,o0,p1,p2,p3⟩
       . exact .inl p
       . exact .inr ⟨i0,κ3,o0,p1,p2,λ e=>p3 (q3 e)⟩
   . rw [h3] at hx
     exact I.range x b κ o' hx (Mold x b κ h1 h2 (by rw [hx];simp) hM).1
 . by_cases e:j=i
   . subst e;exact hDtrue k (hpre k hk)
   . rw [hD j e] at hDj
     exact hDtrue k (I.closed j hj hDj k hk)
 . rcases cases2 x (by rw [hx];simp) with h | ⟨h1,h2,h3⟩
   . rw [hx] at h;exact rh.gf x b κ ox h hro hM
   . rw [h3] at hx
     exact I.gf x b κ ox hx hro (Mold x b κ h1 h2 (by rw [hx];simp) hM).1
 . rcases cases2 x (by rw [hx];simp) with h | ⟨h1,h2,h3⟩
   . rw [hx] at h;exact rh.fo x b κ ox h hro hM
   . rw [h3] at hx
     obtain ⟨e1,e2⟩:=Mold x b κ h1 h2 (by rw [hx];simp) hM
     cases hz:M'.z b with
     | none=>rfl
     | some cs=>
       exfalso
       rcases f.zx b cs hz with q | q | ⟨id,κ',oid,q1,q2,q3⟩
       . rw [I.fo x b κ ox hx hro e1] at q;cases q
       . omega
       . exact notV x b κ ox h1 hx e1 id κ' oid q1 (.inr q2) q3
 . rcases f.zx b cs e with q | q | ⟨id,κ',oid,q1,q2,q3⟩
   . exact I.zx b cs q
   . exact .inr (.inl (Nat.le_trans I.size q))
   . rcases I.range id b κ' oid (hsub id oid q1) q3 with p | ⟨i0,κ3,o0,p1,p2,p3⟩
     . exact .inr (.inl p)
     . exact .inr (.inr ⟨i0,κ3,o0,p1,p3 q2,p2⟩)
theorem inv_step (hG:Good P rec)(F:Facts P rec ops rr S)(I:Inv ops.size rr S M0 w0 D M a w)(hF0:Fresh M0 (S 0).h (S ops.size).h)(hi:i < ops.size)(hDi:D i=false)(hpre:∀ k,Nat.testBit (rr i).pm k=true->D k=true)
 (hD:∀ k,k ≠ i->D' k=D k) (hDi':D' i=true) {r:Option Nat} {K:Act->World->Prop} {Q:Exit->Act->World->Prop} (hK:∀ M' a' w',Inv ops.size rr S M0 w0 D' M' a' w'->K a' w'):wpOpIn (FW r) 0 P ops Q i K a w:=by
 obtain ⟨o,v,d⟩:=F.dig i hi
 obtain ⟨h1,st,he⟩:=d.st
 obtain ⟨r1,r2,r3,r4⟩:=F.rcd i hi
 have succ_un:∀ k,i < k->k < ops.size->D k=true->Nat.testBit (rr k).pm i=false:=λ k _ h2 hDk=>by
  cases hb:Nat.testBit (rr k).pm i with
  | false=>rfl
  | true=>have:=I.closed k h2 hDk i hb;rw [hDi] at this;cases this
 have pred_un:∀ k,D k=false->Nat.testBit (rr i).pm k=false:=λ k hDk=>by
  cases hb:Nat.testBit (rr i).pm k with
  | false=>rfl
  | true=>have:=hpre k hb;rw [hDk] at this;cases this
 have hread:∀ t,t ∈ (rr i).looks->(((S i).tm.get (t + 1)).getD undefA).R M (a.tmps.getD t undef):=λ t ht=>by
  have:=I.tm t
  rwa [cur_view (i:=i) (λ k hk hT=>by
      cases hDk:D k with
      | true=>rfl
      | false=>
        exfalso
        obtain ⟨_,hs,_⟩:=F.apart hk hi (pred_un k hDk)
        rw [sameT_iff.1 hT] at hs
        simp only [memT] at hs
        rw [memN_iff.2 ht] at hs;cases hs) ops.size (by omega) (λ k h2 h3 hT=>by
      by_cases e:k=i
      . rw [e];exact hDi
      . cases hDk:D k with
        | false=>rfl
        | true=>
          exfalso
          obtain ⟨_,_,_,hs⟩:=F.apart (by omega:i < k) h3 (succ_un k (by omega) h3 hDk)
          rw [sameT_iff.1 hT] at hs
          simp only [memT] at hs
          rw [memN_iff.2 ht] at hs;cases hs) (λ k hk hT=>by rw [F.tm_same k hk t hT])] at this
 have hwant:∀ b,wantA ops.toList (S i).tm o=some b->Region.wanted o (yielded ops a.tmps)=b:=λ b hb=>wantA_ok hb (λ g d' hg hd'=>by rw [evT_tmp];exact hread d' (by
  rw [st.looks]
  unfold looksA
  rw [hg]
  obtain ⟨g1,g2⟩:=g
  simp only at hd'
  rw [List.mem_append]
  right
  simp only [Array.getElem?_toList]
  cases hj:ops[g1]? with
  | none=>rw [hj] at hd';cases hd'
  | some oj=>rw [hj] at hd';simp at hd';simp [hd']))
 unfold wpOpIn
 simp only [st.op]
 rcases d.run with ⟨hw,⟨V,V',hv⟩,hn⟩ | ⟨hw,hv,hh,hwr,hfu,hld⟩
 . rw [hwant true hw]
   simp only [if_true]
   have hop:∀ x ∈ o.op.operands.toList,(evT (S i).tm x).R M (a.eval x):=λ x hx=>by
    cases x with
    | tmp t=>
      rw [evT_tmp];refine hread t ?_
      rw [st.looks]
      unfold looksA
      rw [List.mem_append]
      left
      exact List.mem_filterMap.2 ⟨.tmp t,hx,rfl⟩
    | const c=>exact ofV_R M 2 c
    | global g=>rfl
    | func f=>simp only [evT,AV.R,Act.eval];exact ⟨[],rfl,rfl⟩
   have hsub:∀ x ob,V.get x=some ob->cur D (λ j=>inDR x (rr j)) (λ j=>(S j).h.get x) ops.size=some ob:=λ x ob hx=>by
    have hx0:=hv.sub x ob hx
    have hVn:V.get x ≠ none:=by simp [hx]
    rw [cur_view (i:=i) (λ k hk hT=>by
     cases hDk:D k with
     | true=>rfl
     | false=>
       exfalso
       obtain ⟨hm,_⟩:=F.apart hk hi (pred_un k hDk)
       have:=hv.vis x hVn _ hm
       rw [show inDR x (rr k)=true from hT] at this;cases this) ops.size (by omega) (λ k h2 h3 hT=>by
     by_cases e:k=i
     . rw [e];exact hDi
     . cases hDk:D k with
       | false=>rfl
       | true=>
         exfalso
         obtain ⟨hm,_⟩:=F.apart (by omega:i < k) h3 (succ_un k (by omega) h3 hDk)
         obtain ⟨_,q2,q3,_⟩:=F.rcd k h3
         have hlt:=(F.base i (by omega)).wf x (by rw [hx0];simp)
         have hmono:=F.nx i k (by omega) (by omega)
         rcases inDR_iff.1 hT with h4 | h4
         . omega
         . obtain ⟨o2,v2,d2⟩:=F.dig k h3
           rcases d2.run with ⟨_,_,hn2⟩ | ⟨_,_,_,hw2,_⟩
           . obtain ⟨p1,p2,_⟩:=(noneW_ok hn2).2 _ hm (by intro e;rw [e] at h4;cases h4)
             rcases hv.kind with hk | ⟨_,hk⟩
             . rw [p1] at hk;cases hk
             . exact p2 x (hk x hVn) h4
           . rw [hw2] at h4;cases h4) (λ k hk hT=>by rw [F.heap_same k hk x hT])]
    exact hx0
   have rV:Rel M V w:=⟨λ x ob hx=>I.obj x ob (hsub x ob hx),λ x y b κ κ' ox hx hr hy=>by
    cases hy1:V.get y with
    | none=>exact absurd hy1 hy
    | some oy=>exact I.inj x y b κ κ' ox (hsub x ox hx) hr (by rw [hsub y oy hy1];simp),λ x hx=>by
    cases hx1:V.get x with
    | none=>exact absurd hx1 hx
    | some ox=>rw [hv.nx];exact (F.base i (by omega)).wf x (by rw [hv.sub x ox hx1];simp),I.gw,λ x b κ ox hx hr hM=>I.gf x b κ ox (hsub x ox hx) hr hM,I.fz,λ x b κ ox hx hr hM=>I.fo x b κ ox (hsub x ox hx) hr hM⟩
   have fV:Fresh M V V':=λ x q1 q2=>by
    rw [hv.nx] at q1
    rw [hv.nx'] at q2
    have h00:=F.nx 0 i (by omega) (by omega)
    have h01:=F.nx (i + 1) ops.size (Nat.le_refl _) (by omega)
    by_cases e:M x=M0 x
    . rw [e];exact hF0 x (by omega) (by omega)
    . exfalso
      obtain ⟨j,j1,j2,j3,j4⟩:=I.fresh x e
      obtain ⟨_,p2,p3,_⟩:=F.rcd j j1
      have hji:j ≠ i:=λ e=>by rw [e,hDi] at j2;cases j2
      by_cases hlt:j < i
      . have:=F.nx (j + 1) i (by omega) (by omega);omega
      . have:=F.nx (i + 1) j (by omega) (by omega);omega
   refine (opF_ok hG hv.run).2 M a w r K Q hop rV fV (λ M' u w' rv rh f _=>hK M' _ w' ?_)
   exact inv_upd F I hi hDi hpre hD hDi' st rv rh f (by rw [hv.nx,r2]) (by rw [hv.nx',r3]) hsub
    (λ x hx=>hv.new x (by rcases inDR_iff.1 hx with h | h;exact .inr (by rw [r2,r3] at h;exact h);exact .inl h))
    (λ x hx hd=>hv.keep x hx (λ e=>by rw [inDR_iff.2 (.inr e)] at hd;cases hd))
 . rw [hwant false hw]
   simp only [Bool.false_eq_true,if_false]
   refine ⟨λ _ _=>trivial,hK M _ w ?_⟩
   have hnone:∀ x,inDR x (rr i)=false:=λ x=>by
    cases hx:inDR x (rr i) with
    | false=>rfl
    | true=>
      rcases inDR_iff.1 hx with h | h
      . rw [r2,r3,hh] at h;omega
      . rw [hwr] at h;cases h
   exact inv_upd (V:=⟨.lf,(S i).h.nx,0,[]⟩) (V':=⟨.lf,(S i).h.nx,0,[]⟩) F I hi hDi hpre hD hDi' st (by rw [hv];simp [undefA,AV.R,AV.RL,undef]) ⟨λ x ob hx=>by simp [get_lf] at hx,λ x y b κ κ' o hx=>by simp [get_lf] at hx,λ x hx=>absurd (get_lf _ _ _ x) hx,I.gw,λ x b κ o hx=>(by simp [get_lf] at hx),I.fz,λ x b κ o hx=>by simp [get_lf] at hx⟩ (Fr.same _ M w) r2.symm (by rw [r3,hh]) (λ x ob hx=>by simp [get_lf] at hx) (λ x hx=>by rw [hnone x] at hx;cases hx) (λ x hx=>absurd (get_lf _ _ _ x) hx)
end
end Go.Proofs.Ytknfdbilpfblnaa.Ex
end
section
noncomputable section
namespace Go.Proofs.Ytknfdbilpfblnaa.Ex
open Go Go.RowKit
section
variable {P : Program} {rec : Rc}
theorem draw_ab (hG:Good P rec){ops:Array Oper}{rr:Nat->DR}{S:Nat->St}(hS:∀ j,j < ops.size->∃ o v h1,Step P rec ops rr j (S j) (S (j + 1)) o v h1):
 ∀ j,j<=ops.size->Ab (S 0).h (S j).h/\(S j).sz=(S 0).sz/\(S j).rd=(S 0).rd/\(∀ k,k < j->(rr k).hi<=(S j).h.nx/\∀ x ∈ (rr k).wr,x < (S j).h.nx)
 | 0,_=>⟨Ab.refl _,rfl,rfl,λ k hk=>by omega⟩
 | j + 1,hj=>by
   obtain ⟨b,bs,br,bf⟩:=draw_ab hG hS j (by omega)
   obtain ⟨o,v,h1,st⟩:=hS j (by omega)
   obtain ⟨p1,p2,p3,p4⟩:=putA_same st.put
   simp only at p1 p2 p3 p4
   have hun:∀ r ∈ unA (rr j).pm (recsOf rr j),r.hi<=(S j).h.nx/\∀ x ∈ r.wr,x < (S j).h.nx:=λ r hr=>by
    obtain ⟨k,hk,rfl⟩:=recsOf_mem.1 (List.mem_filter.1 hr).1
    exact bf k hk
   have ab:Ab (S j).h (S (j + 1)).h/\∀ x ∈ (rr j).wr,x < (S j).h.nx:=by
    rcases st.run with ⟨r1,r2,r3⟩ | ⟨r1,r2,r3,r4,r5,r6⟩
    . have:=viewRun_ab hG r2 hun r3
      rw [<- p1] at this
      exact ⟨this,(noneW_ok r3).1⟩
    . have e:(S (j + 1)).h=(S j).h:=by rw [p1,r3]
      exact ⟨by rw [e];exact Ab.refl _,by rw [r4];simp⟩
   obtain ⟨ab,hwr⟩:=ab
   have hnx:=ab.nx
   refine ⟨b.trans ab,by rw [p2,bs],by rw [p3,br],λ k hk=>?_⟩
   by_cases e:k=j
   . subst e
     exact ⟨by rw [st.hi,p1];exact Nat.le_refl _,λ x hx=>Nat.lt_of_lt_of_le (hwr x hx) hnx⟩
   . obtain ⟨q1,q2⟩:=bf k (by omega)
     exact ⟨Nat.le_trans q1 hnx,λ x hx=>Nat.lt_of_lt_of_le (q2 x hx) hnx⟩
def lst (L:Array Bool)(k:Nat):Bool:=L.getD k false
theorem draw_any (hG:Good P rec){ops:Array Oper}{rr:Nat->DR}{S:Nat->St}{M0:Mp}{w0:World}{r:Option Nat}{Q:Exit->Act->World->Prop}(F:Facts P rec ops rr S)(hF0:Fresh M0 (S 0).h (S ops.size).h)
 (hQ:∀ M a w,Inv ops.size rr S M0 w0 (λ _=>true) M a w->Q .normal a w) :
 ∀ (fuel:Nat) (L:Array Bool) (M:Mp) (a:Act) (w:World),L.size=ops.size->(List.range ops.size).countP (λ k=>!lst L k)<=fuel->Inv ops.size rr S M0 w0 (lst L) M a w->wpAnyIn (FW r) 0 P .any ops Q fuel L a w:=by
 have hgd:∀ (L:Array Bool) (k:Nat),L.size=ops.size->k < ops.size->L.getD k true=lst L k:=λ L k hL hk=>by
  unfold lst
  simp [Array.getD_eq_getD_getElem?,hL,hk]
 have hcg:∀ {D D':Nat->Bool} {M a w},(∀ k,k < ops.size->D' k=D k)->Inv ops.size rr S M0 w0 D M a w->Inv ops.size rr S M0 w0 D' M a w:=λ {D D' M a w} hD I=>by
  have hc:∀ {β:Type} (T:Nat->Bool) (val:Nat->β) (n:Nat),n<=ops.size->cur D' T val n=cur D T val n:=λ T val n=>by
   induction n with
   | zero=>intro _;rfl
   | succ n ih=>intro hn;simp only [cur,ih (by omega),hD n (by omega)]
  refine ⟨λ t=>?_,I.sz,I.df,λ x o hx=>?_,λ x y b κ κ' o hx hr hy=>?_,λ x hx=>?_,I.os,I.tape,I.output,I.size,I.ext,I.keep,λ x b κ o' hx=>?_,λ j hj hDj k hk=>?_,I.gw,λ x b κ o hx=>?_,I.fz,λ x b κ o hx=>?_,I.zx⟩
  . rw [hc _ _ _ (Nat.le_refl _)];exact I.tm t
  . rw [hc _ _ _ (Nat.le_refl _)] at hx;exact I.obj x o hx
  . rw [hc _ _ _ (Nat.le_refl _)] at hx hy;exact I.inj x y b κ κ' o hx hr hy
  . obtain ⟨j,q1,q2,q3⟩:=I.fresh x hx
    exact ⟨j,q1,by rw [hD j q1];exact q2,q3⟩
  . rw [hc _ _ _ (Nat.le_refl _)] at hx;exact I.range x b κ o' hx
  . rw [hD j hj] at hDj
    have hk2:=I.closed j hj hDj k hk
    have hkj:k < ops.size:=by
     obtain ⟨o,v,d⟩:=F.dig j hj
     obtain ⟨h1,st,_⟩:=d.st
     have:∀ (n m:Nat),n<=ops.size->(∀ i,i < n->∀ q,Nat.testBit (rr i).pm q=true->q < ops.size):=λ n m=>by
      induction n with
      | zero=>intro _ i hi;omega
      | succ n ih=>
        intro hn i hi q hq
        by_cases e:i=n
        . subst e
          obtain ⟨o2,v2,d2⟩:=F.dig i (by omega)
          obtain ⟨h2,st2,_⟩:=d2.st
          obtain ⟨e2,_,_,hh⟩:=(predsA_ok st2.pm).2 q hq
          rcases hh with hh | ⟨r2,hr2,e3,e4⟩
          . rename_i he2 hb2
            obtain ⟨r3,hr3,e5,_⟩:=(predsA_ok st2.pm).1 e2 he2 hb2
            obtain ⟨k3,hk3,rfl⟩:=recsOf_mem.1 hr3
            rw [(F.rcd k3 (by omega)).1] at e5
            omega
          . obtain ⟨k3,hk3,rfl⟩:=recsOf_mem.1 hr2
            exact ih (by omega) k3 hk3 q e4
        . exact ih (by omega) i (by omega) q hq
     exact this ops.size 0 (Nat.le_refl _) j hj k hk
    rw [hD k hkj];exact hk2
  . rw [hc _ _ _ (Nat.le_refl _)] at hx;exact I.gf x b κ o hx
  . rw [hc _ _ _ (Nat.le_refl _)] at hx;exact I.fo x b κ o hx
 have hall:∀ (L:Array Bool),L.size=ops.size->Region.ready .any ops L=[]->∀ i,i < ops.size->lst L i=true:=λ L hL hr i=>by
  induction i using Nat.strongRecOn with
  | _ i ih=>
    intro hi
    cases hl:lst L i with
    | true=>rfl
    | false=>
      exfalso
      obtain ⟨o,v,d⟩:=F.dig i hi
      obtain ⟨h1,st,_⟩:=d.st
      have hm:i ∈ Region.ready .any ops L:=by
       rw [mem_ready]
       refine ⟨by rw [hgd L i hL hi];exact hl,o,st.op,λ e he hb=>?_⟩
       obtain ⟨r3,hr3,e5,_⟩:=(predsA_ok st.pm).1 e (by simpa using he) hb
       obtain ⟨k3,hk3,rfl⟩:=recsOf_mem.1 hr3
       rw [(F.rcd k3 (by omega)).1] at e5
       have:=ih e.on (by omega) (by omega)
       exact this
      rw [hr] at hm;cases hm
 intro fuel
 induction fuel with
 | zero=>
   intro L M a w hL hc I
   have hall2:∀ i,i < ops.size->lst L i=true:=λ i hi=>by
    have:=List.countP_eq_zero.1 (Nat.le_zero.1 hc) i (List.mem_range.2 hi)
    simpa using this
   refine ⟨?_,hQ M a w (hcg (λ k hk=>(hall2 k hk).symm) I)⟩
   apply List.eq_nil_iff_forall_not_mem.2
   intro i hm
   obtain ⟨h1,o,h2,_⟩:=mem_ready.1 hm
   have hi:=(Array.getElem?_eq_some_iff.1 h2).1
   rw [hgd L i hL hi,hall2 i hi] at h1;cases h1
 | succ fuel ih=>
   intro L M a w hL hc I
   refine ⟨λ hr=>hQ M a w (hcg (λ k hk=>(hall L hL hr k hk).symm) I),λ i hm=>?_⟩
   obtain ⟨h1,o,h2,h3⟩:=mem_ready.1 hm
   have hi:=(Array.getElem?_eq_some_iff.1 h2).1
   rw [hgd L i hL hi] at h1
   obtain ⟨o2,v,d⟩:=F.dig i hi
   obtain ⟨hh1,st,_⟩:=d.st
   have ho:o2=o:=by have:=st.op;rw [h2] at this;simpa using this.symm
   subst ho
   have hpre:∀ k,Nat.testBit (rr i).pm k=true->lst L k=true:=λ k hk=>by
    obtain ⟨e,he,hb,hh⟩:=(predsA_ok st.pm).2 k hk
    have hon:=h3 e (by simpa using he) hb
    rcases hh with hh | ⟨r2,hr2,e3,e4⟩
    . rw [<- hh];exact hon
    . obtain ⟨k3,hk3,rfl⟩:=recsOf_mem.1 hr2
      rw [(F.rcd k3 (by omega)).1] at e3
      subst e3
      exact I.closed e.on (by omega) hon k e4
   have hset:∀ k,lst (L.setIfInBounds i true) k=if k=i then true else lst L k:=λ k=>by
    unfold lst
    by_cases e:k=i
    . subst e
      have:k < L.size:=by omega
      simp [Array.getD_eq_getD_getElem?,this]
    . simp [Array.getD_eq_getD_getElem?,Array.getElem?_setIfInBounds_ne (Ne.symm e),e]
   refine inv_step hG F I hF0 hi h1 hpre (D':=lst (L.setIfInBounds i true)) (λ k hk=>by rw [hset,if_neg hk]) (by rw [hset,if_pos rfl]) (λ M' a' w' I'=>ih _ M' a' w' (by simpa using hL) ?_ I')
   have hlt:(List.range ops.size).countP (λ k=>!lst (L.setIfInBounds i true) k) < (List.range ops.size).countP (λ k=>!lst L k):=by
    refine countP_dec (λ x _ hx=>?_) ⟨i,List.mem_range.2 hi,by simp [h1],by simp [hset]⟩
    rw [hset] at hx
    by_cases e:x=i
    . simp [e] at hx
    . simpa [e] using hx
   omega
theorem draw_okA (hG:Good P rec){ops:Array Oper}{s s':St}(h:drawA P rec ops.toList ops.toList 0 [] s=some s'):(s.h.nx<=s'.h.nx/\Ab s.h s'.h)/\s'.sz=s.sz/\s'.rd=s.rd ∧
 ∀ (M:Mp) (a:Act) (w:World) (r:Option Nat) (Q:Exit->Act->World->Prop),StR M s a w->Fresh M s.h s'.h →
   (∀ M' a' w',StR M' s' a' w'->Fr s.h s'.h M M' w w'->Ab s.h s'.h->Q .normal a' w')->wpAnyIn (FW r) 0 P .any ops Q ops.size (Array.replicate ops.size false) a { w with drawn:=w.drawn + 1 }:=by
 obtain ⟨S,rr,_,q2,q3,q4⟩:=draw_trace ops ops.toList 0 [] s s' h rfl (Nat.zero_le _) (λ _=>⟨0,0,none,[],0,0,[],false,none⟩) rfl
 have hS:∀ j,j < ops.size->∃ o v h1,Step P rec ops rr j (S j) (S (j + 1)) o v h1:=λ j hj=>q4 j (Nat.zero_le _) hj
 obtain ⟨a1,a2,a3,_⟩:=draw_ab hG hS ops.size (Nat.le_refl _)
 rw [q2,q3] at a1 a2 a3
 refine ⟨⟨a1.nx,a1⟩,a2,a3,λ M a w r Q st fr q=>?_⟩
 have hwf:WfH (S 0).h:=by rw [q2];exact st.h.wf
 have F:Facts P rec ops rr S:=⟨λ j hj=>(base_ok hG hwf hS j hj).1,λ j hj=>(base_ok hG hwf hS ops.size (Nat.le_refl _)).2 j hj⟩
 have hdf:s'.df=s.df:=by rw [<- q2,<- q3];exact (F.base ops.size (Nat.le_refl _)).df
 refine draw_any hG F (M0:=M) (w0:=w) (by rw [q2,q3];exact fr) (λ M' a' w' I=>?_) ops.size _ M a _ (by simp) (Nat.le_trans List.countP_le_length (by simp)) ?_
 . have hc:∀ {β:Type} (T:Nat->Bool) (val:Nat->β),(∀ k,k < ops.size->T k=false->val (k + 1)=val k)->cur (λ _=>true) T val ops.size=val ops.size:=λ T val hT=>cur_lo ops.size (λ _ _ _=>rfl) hT
   have ch:∀ x,cur (λ _=>true) (λ j=>inDR x (rr j)) (λ j=>(S j).h.get x) ops.size=s'.h.get x:=λ x=>by
    rw [hc _ _ (λ k hk hT=>F.heap_same k hk x hT),q3]
   refine q M' a' w' ⟨λ t=>?_,by rw [I.sz,q2,a2],by rw [hdf,<- q2];exact I.df,⟨λ x o hx=>I.obj x o (by rw [ch];exact hx),λ x y b κ κ' o hx hr hy=>I.inj x y b κ κ' o (by rw [ch];exact hx) hr (by rw [ch];exact hy),by rw [<- q3];exact (F.base ops.size (Nat.le_refl _)).wf,I.gw,λ x b κ o hx=>I.gf x b κ o (by rw [ch];exact hx),I.fz,λ x b κ o hx=>I.fo x b κ o (by rw [ch];exact hx)⟩⟩
    ⟨I.os,I.tape,I.output,I.size,I.ext,λ x hx=>?_,λ k hk hn=>I.keep k hk (λ id κ o hid=>hn id κ o (by rw [<- q2];exact hid)),λ x b κ o' hx hM=>?_,λ b cs e=>by rw [<- q2];exact I.zx b cs e⟩ a1
   . have:=I.tm t
     rw [hc _ _ (λ k hk hT=>by rw [F.tm_same k hk t hT]),q3] at this
     exact this
   . obtain ⟨j,j1,_,j2,j3⟩:=I.fresh x hx
     obtain ⟨_,p2,p3,_⟩:=F.rcd j j1
     have n1:=F.nx 0 j (by omega) (by omega)
     have n2:=F.nx (j + 1) ops.size (Nat.le_refl _) (by omega)
     rw [q2] at n1
     rw [q3] at n2
     omega
   . rcases I.range x b κ o' (by rw [ch];exact hx) hM with e | ⟨i,κ',oi,e1,e2,e3⟩
     . exact .inl e
     . exact .inr ⟨i,κ',oi,by rw [<- q2];exact e1,e2,e3⟩
 . have hno:∀ k,lst (Array.replicate ops.size false) k=false:=λ k=>by
    unfold lst
    by_cases hk:k < ops.size <;> simp [Array.getD_eq_getD_getElem?,hk]
   have c0:∀ {β:Type} (T:Nat->Bool) (val:Nat->β) (n:Nat),cur (lst (Array.replicate ops.size false)) T val n=val 0:=λ T val n=>by
    induction n with
    | zero=>rfl
    | succ n ih=>simp only [cur,hno,Bool.false_and,cond_false,ih]
   refine ⟨λ t=>?_,by rw [q2];exact st.sz,by rw [q2];exact st.df,λ x o hx=>?_,λ x y b κ κ' o hx hr hy=>?_,λ x hx=>absurd rfl hx,rfl,rfl,rfl,Nat.le_refl _,Le.refl M,λ _ _ _=>rfl,λ x b κ o' hx hM=>?_,λ j _ hDj=>(by rw [hno] at hDj;cases hDj),st.h.gw,λ x b κ o hx hro hM=>?_,st.h.fz,λ x b κ o hx=>?_,λ _ _ e=>.inl e⟩
   . rw [c0,q2];exact st.tm t
   . rw [c0,q2] at hx;exact st.h.obj x o hx
   . rw [c0,q2] at hx hy;exact st.h.inj x y b κ κ' o hx hr hy
   . rw [c0] at hx;exact .inr ⟨x,κ,o',hx,hM,λ e=>e⟩
   . rw [c0,q2] at hx;exact st.h.gf x b κ o hx hro hM
   . rw [c0,q2] at hx;exact st.h.fo x b κ o hx
theorem draw_ok (hm:P.follows .mixedOrders=true)(hG:Good P rec){id:Nat}{ops:Array Oper}{s s':St}(h:drawA P rec ops.toList ops.toList 0 [] s=some s'):(s.h.nx<=s'.h.nx/\Ab s.h s'.h)/\s'.sz=s.sz/\s'.rd=s.rd ∧
 ∀ (M:Mp) (a:Act) (w:World) (r:Option Nat) (Q:Exit->Act->World->Prop),StR M s a w->Fresh M s.h s'.h →
   (∀ M' a' w',StR M' s' a' w'->Fr s.h s'.h M M' w w'->Ab s.h s'.h->Q .normal a' w')->(Code.region id ops true).wpIn (FW r) 0 P Q a w:=by
 obtain ⟨h1,h2,h3,h4⟩:=draw_okA hG h
 exact ⟨h1,h2,h3,λ M a w r Q st fr q=>wpIn_region_any hm (h4 M a w r Q st fr q)⟩
def afterR (P:Program)(r:Option Nat)(Q:Exit->Act->World->Prop)(pe:Option Code)(a:Act)(w:World):Prop:=
 match pe with
 | none=>Q .normal a w
 | some c=>c.wpIn (FW r) 0 P Q a w
theorem afterR_post {r:Option Nat}{Q:Exit->Act->World->Prop}{pe:Option Code}{a:Act}{l:Nat}{v:Value}{w3 w4:World}(he:(Instr.endLoop l).run P w3=.ok pe w4)(h:afterR P r Q pe a w4):rangePost (FW r) 0 P l Q a (.returned v) w3:=by
 refine ⟨pe,w4,he,?_⟩
 cases pe with
 | none=>exact h
 | some c=>exact h
theorem rangeFunc_ok (hG:Good P rec){g:Operand}{ps:Array Tmp}{asg bo:Code}{s s':St}{x:AX}(h:rangeFuncA P rec g ps asg bo s=some (x,s')):(s.h.nx<=s'.h.nx/\Ab s.h s'.h)/\s'.sz=s.sz/\s'.rd=s.rd ∧
 ∀ (M:Mp) (a:Act) (w:World) (r:Option Nat) (Q:Exit->Act->World->Prop),StR M s a w->RdR M s.rd r->Fresh M s.h s'.h →
   (∀ M' a' w',StR M' s' a' w'->Fr s.h s'.h M M' w w'->Ab s.h s'.h->Q (exitOf x) a' w')->(Code.rangeFunc g ps asg bo).wpIn (FW r) 0 P Q a w:=by
 unfold rangeFuncA at h
 split at h
 . rename_i gf caps hgf
   split at h
   . rename_i D df hd0 hent
     split at h
     . rename_i h1 hn1
       split at h
       . rename_i v h2 hcall
         obtain ⟨⟨c1,ca⟩,c2⟩:=callA_ok hG hcall
         split at h
         . cases h
         . rename_i st pe tm2 sz2 ps2 asg2 bo2 D2 hnb hg2
           split at h
           . rename_i h3 hp3
             have hnx3:=(AH.put_nx hp3).1
             have hnx1:=(AH.new_nx hn1).1
             -- the way in
             have ent:(s.h.nx<=hd0.nx/\Ab s.h hd0)/\∀ (M:Mp) (a:Act) (w:World) (r:Option Nat),StR M s a w->RdR M s.rd r->Fresh M s.h hd0->∀ fn,∃ M1 w1 bD cD mark,M1 D=some (bD,cD)/\Rel M1 hd0 w1/\Fr s.h hd0 M M1 w w1/\DfR M1 df (mark ++ a.defers) ∧
              (Instr.enterLoop fn a.tmps ps asg bo r).run P w=.ok (w1.heap.size,mark) (w1.alloc (.loop { state:=.ready,pending:=none,fn,tmps:=a.tmps,params:=ps,assign:=asg,body:=bo,defers:=bD })):=by
              split at hent
              . rename_i hrd
                split at hent
                . rename_i hh hnn
                  simp only [sI,Prod.mk.injEq] at hent
                  obtain ⟨rfl,rfl,rfl⟩:=hent
                  have hnn1:=(AH.new_nx hnn).1
                  refine ⟨⟨by omega,new_ab hnn⟩,λ M a w r sr rr fr fn=>?_⟩
                  rw [hrd] at rr
                  simp only [RdR] at rr;subst rr
                  obtain ⟨q1,q2,q3⟩:=new_ok (ob:=.deferred (some [])) (κ:=0) sr.h hnn (fr s.h.nx (Nat.le_refl _) (by omega)) (by simp [ObR])
                  refine ⟨_,_,w.heap.size,0,[{ target:=.collected w.heap.size,args:=#[] }],by simp [updM],q1,q2,?_,?_⟩
                  . simp only [List.singleton_append,DfR]
                    exact ⟨w.heap.size,0,_,by simp [updM],sr.df.mono q2.ext,rfl⟩
                  . rw [run_enterLoop_outer,World.size_alloc]
                . cases hent
              . rename_i l hrd
                split at hent
                . rename_i st0 pe0 tm0 sz0 ps0 asg0 bo0 D0 hgl
                  simp only [sI,Prod.mk.injEq] at hent
                  obtain ⟨rfl,rfl,rfl⟩:=hent
                  refine ⟨⟨Nat.le_refl _,Ab.refl _⟩,λ M a w r sr rr fr fn=>?_⟩
                  rw [hrd] at rr
                  simp only [RdR] at rr
                  obtain ⟨b,κ,hM,rfl⟩:=rr
                  obtain ⟨ob,hb,fn0,tmps0,bD,cD,hD,rt0,hsz0,rfl⟩:=Ob_of sr.h hgl hM
                  refine ⟨M,w,bD,cD,[],hD,sr.h,Fr.same _ M w,sr.df,?_⟩
                  simp only [Instr.enterLoop,Sem.run_bind,run_getLoop hb,Result.andThen_ok,Sem.run_pure,run_newObj]
                  rfl
                . cases hent
             obtain ⟨⟨en,ea⟩,ent⟩:=ent
             have ab3:Ab s.h h3:=((ea.trans (new_ab hn1)).trans ca).trans (put_ab hg2 hp3)
             -- what is behind the call
             have main:∀ (M:Mp) (a:Act) (w:World) (r:Option Nat) (Q:Exit->Act->World->Prop),StR M s a w->RdR M s.rd r->Fresh M s.h h3 →
              (∀ M' a' w',StR M' { s with df:=df,h:=h3 } a' w'->Fr s.h h3 M M' w w'->afterR P r Q pe a' w')->(Code.rangeFunc g ps asg bo).wpIn (FW r) 0 P Q a w:=by
              intro M a w r Q sr rr fr k
              refine wpIn_rangeFunc (λ fn _=>?_)
              obtain ⟨M1,w1,bD,cD,mark,hD,rh1,f1,rdf,erun⟩:=ent M a w r sr rr (λ id e1 e2=>fr id e1 (by omega)) fn
              have fr1:Fresh M1 hd0 h3:=Fresh.right fr en f1
              obtain ⟨q1,q2,q3⟩:=new_ok (κ:=0) (ob:=.loop { state:=.ready,pending:=none,fn,tmps:=a.tmps,params:=ps,assign:=asg,body:=bo,defers:=bD }) rh1 hn1 (fr1 hd0.nx (Nat.le_refl _) (by omega)) ⟨fn,a.tmps,bD,cD,hD,sr.tm.mono f1.ext,sr.sz,rfl⟩
              have hev:=ev_ok sr.tm g
              rw [hgf] at hev
              simp only [AV.R] at hev
              obtain ⟨cvs,rcv,hev⟩:=hev
              have f12:=f1.trans en (by omega) q2
              have fr2:Fresh (updM M1 hd0.nx (w1.heap.size,0)) h1 h2:=by
               have:=Fresh.right fr1 (by omega) q2
               exact λ id e1 e2=>this id e1 (by omega)
              have ra:AV.RL (updM M1 hd0.nx (w1.heap.size,0)) (.yl hd0.nx :: caps) (.func (.yield w1.heap.size) #[] #[] :: cvs):=by
               simp only [AV.RL]
               exact ⟨_,_,by simp only [AV.R];exact ⟨w1.heap.size,0,by simp [updM],rfl⟩,AV.RL.mono f12.ext _ _ rcv,rfl⟩
              obtain ⟨cf,cc⟩:=c2 _ (.func (.yield w1.heap.size) #[] #[] :: cvs) _ r (rangePost (FW r) 0 P w1.heap.size Q { a with defers:=mark ++ a.defers }) ra q1 fr2 (λ M2 u w2 rv rh2 f2 ab2=>by
               have hM2:M2 hd0.nx=some (w1.heap.size,0):=f2.ext _ _ (by simp [updM])
               obtain ⟨ob,hb,fn2,tmps2,bD2,cD2,hD2,rt2,hsz2,rfl⟩:=Ob_of rh2 hg2 hM2
               obtain ⟨p1,p2,p3⟩:=put_ok (w':=w2.putObj w1.heap.size (.loop { state:=.exhausted,pending:=pe,fn:=fn2,tmps:=tmps2,params:=ps2,assign:=asg2,body:=bo2,defers:=bD2 })) rh2 hg2 hp3 hM2 (upd_setObj (heap_lt hb)) ⟨fn2,tmps2,bD2,cD2,hD2,rt2,hsz2,rfl⟩
               have hst:st ≠ .busy:=λ e=>hnb e
               have f13:=f12.trans (show s.h.nx<=h1.nx by omega) c1 f2
               have f14:=f13.trans (show s.h.nx<=h2.nx by omega) (by omega) p2
               have kk:=k M2 { a with defers:=mark ++ a.defers } _ ⟨sr.tm.mono f13.ext,sr.sz,rdf.mono ((q2.ext).trans f2.ext),p1⟩ f14
               exact afterR_post (run_endLoop hb hst) kk)
              refine ⟨w1.heap.size,mark,w1.alloc (.loop { state:=.ready,pending:=none,fn,tmps:=a.tmps,params:=ps,assign:=asg,body:=bo,defers:=bD }),{ target:=.fn (.func gf) cvs.toArray,args:=#[.func (.yield w1.heap.size) #[] #[]] },w1.alloc (.loop { state:=.ready,pending:=none,fn,tmps:=a.tmps,params:=ps,assign:=asg,body:=bo,defers:=bD }),gf,(.func (.yield w1.heap.size) #[] #[] :: cvs).toArray,w1.alloc (.loop { state:=.ready,pending:=none,fn,tmps:=a.tmps,params:=ps,assign:=asg,body:=bo,defers:=bD }),erun,?_,λ _ _=>trivial,?_,λ e=>by simp [FW] at e,cc⟩
              . have hcn:a.eval (.const (.func (.yield w1.heap.size) #[] #[]))=.func (.yield w1.heap.size) #[] #[]:=rfl
                simp [resolve,hev,hcn,Deferred.ofValue]
              . have e:(#[Value.func (.yield w1.heap.size) #[] #[]] ++ cvs.toArray)=(.func (.yield w1.heap.size) #[] #[] :: cvs).toArray:=by apply Array.ext';simp
                simp only [invoke,e]
                exact cf
             split at h
             . simp only [sI,Prod.mk.injEq] at h
               obtain ⟨rfl,rfl⟩:=h
               exact ⟨⟨by show s.h.nx<=h3.nx;omega,ab3⟩,rfl,rfl,λ M a w r Q sr rr fr k=>main M a w r Q sr rr fr (λ M' a' w' sr' f'=>k M' a' w' sr' f' ab3)⟩
             . obtain ⟨⟨g1,ga⟩,g2,g3,g4⟩:=hG.code _ _ _ _ h
               have hle:s.h.nx<=h3.nx:=by omega
               refine ⟨⟨Nat.le_trans hle g1,ab3.trans ga⟩,g2,g3,λ M a w r Q sr rr fr k=>main M a w r Q sr rr (λ id e1 e2=>fr id e1 (Nat.lt_of_lt_of_le e2 g1)) (λ M' a' w' sr' f'=>?_)⟩
               exact g4 M' a' w' r Q sr' (rr.mono f'.ext) (Fresh.right fr hle f') (λ M2 a2 w2 sr2 f2 ab2=>k M2 a2 w2 sr2 (f'.trans hle g1 f2) (ab3.trans ab2))
             . obtain ⟨⟨g1,ga⟩,g2,g3,g4⟩:=hG.code _ _ _ _ h
               have hle:s.h.nx<=h3.nx:=by omega
               refine ⟨⟨Nat.le_trans hle g1,ab3.trans ga⟩,g2,g3,λ M a w r Q sr rr fr k=>main M a w r Q sr rr (λ id e1 e2=>fr id e1 (Nat.lt_of_lt_of_le e2 g1)) (λ M' a' w' sr' f'=>?_)⟩
               exact g4 M' a' w' r Q sr' (rr.mono f'.ext) (Fresh.right fr hle f') (λ M2 a2 w2 sr2 f2 ab2=>k M2 a2 w2 sr2 (f'.trans hle g1 f2) (ab3.trans ab2))
             . cases h
           . cases h
         . cases h
       . cases h
     . cases h
   . cases h
 . cases h
theorem loop_ok (hG:Good P rec){c:Code}:∀ (m:Nat) {s s':St} {x:AX},loopA rec m c s=some (x,s')->(s.h.nx<=s'.h.nx/\Ab s.h s'.h)/\s'.sz=s.sz/\s'.rd=s.rd ∧
 ∀ (M:Mp) (a:Act) (w:World) (r:Option Nat) (Q:Exit->Act->World->Prop),StR M s a w->RdR M s.rd r->Fresh M s.h s'.h →
   (∀ M' a' w',StR M' s' a' w'->Fr s.h s'.h M M' w w'->Ab s.h s'.h->Q (exitOf x) a' w')->Code.roundsIn (FW r) 0 P c Q m a w
 | 0,s,s',x,h=>by simp [loopA] at h
 | m + 1,s,s',x,h=>by
   simp only [loopA] at h
   split at h
   . rename_i s1 h1
     obtain ⟨⟨g1,ga⟩,g2,g3,g4⟩:=hG.code _ _ _ _ h1
     obtain ⟨⟨k1,ka⟩,k2,k3,k4⟩:=loop_ok hG m h
     refine ⟨⟨Nat.le_trans g1 k1,ga.trans ka⟩,k2.trans g2,k3.trans g3,λ M a w r Q st rd fr k=>?_⟩
     rw [roundsIn_succ]
     refine g4 M a w r _ st rd (fr.left k1) (λ M' a' w' st' f' _=>?_)
     exact k4 M' a' w' r Q st' (by rw [g3];exact rd.mono f'.ext) (Fresh.right fr g1 f') (λ M2 a2 w2 st2 f2 ab2=>k M2 a2 w2 st2 (f'.trans g1 k1 f2) (ga.trans ab2))
   . rename_i hne
     obtain ⟨⟨g1,ga⟩,g2,g3,g4⟩:=hG.code _ _ _ _ h
     refine ⟨⟨g1,ga⟩,g2,g3,λ M a w r Q st rd fr k=>?_⟩
     rw [roundsIn_succ]
     refine g4 M a w r _ st rd fr (λ M' a' w' st' f' ab'=>?_)
     have:=k M' a' w' st' f' ab'
     cases x with
     | nm=>exact absurd h (hne _)
     | ex id=>exact this
     | rt=>exact this
theorem stepR_scope {b:Frame}{a:Act}{k:List Item}{cs:List Frame}{w:World}{c:Code}:step P (lone (b.atR a (.code (.scope c) :: k)) cs w)=.next (lone (b.atR a (.code c :: .inScope c :: k)) cs w):=
 step_lone_go (by simp [stepG,stepG.exec,Frame.atR])
theorem stepR_inScope {b:Frame}{a:Act}{k:List Item}{cs:List Frame}{w:World}{c:Code}:step P (lone (b.atR a (.inScope c :: k)) cs w)=.next (lone (b.atR a k) cs w):=
 step_lone_go (by simp [stepG,stepG.exec,Frame.atR])
def noGo (Q:Exit->Act->World->Prop):Exit->Act->World->Prop
 | .goto _,_,_=>False
 | e,a,w=>Q e a w
theorem wpIn_scope {F:Fence}{n:Nat}{Q:Exit->Act->World->Prop}{a:Act}{w:World}{c:Code}(h:c.wpIn F n P (noGo Q) a w):(Code.scope c).wpIn F n P Q a w:=by
 intro b k cs hro hb hr
 have h0:(lone (b.atR a (.code (.scope c) :: k)) cs w).fenced P F:=fenced_calm hb hr rfl
 obtain ⟨e,a₁,w₁,hq,harr⟩:=h b (.inScope c :: k) cs hro hb hr
 cases e with
 | normal=>exact ⟨.normal,a₁,w₁,hq,.head h0 stepR_scope (StepsIn.trans harr (.one (fenced_calm hb hr rfl) stepR_inScope))⟩
 | exit id=>
   have hx:exitTo id (.inScope c :: k)=exitTo id k:=by simp [exitTo]
   exact ⟨.exit id,a₁,w₁,hq,λ k' hk=>.head h0 stepR_scope (harr.1 k' (by rw [hx];exact hk)),
    λ hr' hk=>let ⟨k₁,h1,h2⟩:=harr.2 hr' (by rw [hx];exact hk);⟨k₁,h1,.head h0 stepR_scope h2⟩⟩
 | goto l=>exact hq.elim
 | ret=>exact ⟨_,a₁,w₁,hq,.of_steps (.one h0 stepR_scope) harr⟩
 | panic ch=>exact ⟨_,a₁,w₁,hq,.of_steps (.one h0 stepR_scope) harr⟩
 | outgrown=>exact ⟨_,a₁,w₁,hq,.of_steps (.one h0 stepR_scope) harr⟩
theorem step_ok (hm:P.follows .mixedOrders=true)(hG:Good P rec)(n:Nat){c:Code}{s s':St}{x:AX}(h:execStep P rec n c s=some (x,s')):(s.h.nx<=s'.h.nx/\Ab s.h s'.h)/\s'.sz=s.sz/\s'.rd=s.rd ∧
 ∀ (M:Mp) (a:Act) (w:World) (r:Option Nat) (Q:Exit->Act->World->Prop),StR M s a w->RdR M s.rd r->Fresh M s.h s'.h →
   (∀ M' a' w',StR M' s' a' w'->Fr s.h s'.h M M' w w'->Ab s.h s'.h->Q (exitOf x) a' w')->c.wpIn (FW r) 0 P Q a w:=by
 rw [execStep_eq] at h
 split at h
 . simp only [sI,Prod.mk.injEq] at h
   obtain ⟨rfl,rfl⟩:=h
   exact ⟨⟨Nat.le_refl _,Ab.refl _⟩,rfl,rfl,λ M a w r Q st _ _ k=>wpIn_skip (k M a w st (Fr.same _ M w) (Ab.refl _))⟩
 . simp only [sI,Prod.mk.injEq] at h
   obtain ⟨rfl,rfl⟩:=h
   exact ⟨⟨Nat.le_refl _,Ab.refl _⟩,rfl,rfl,λ M a w r Q st _ _ k=>wpIn_label (k M a w st (Fr.same _ M w) (Ab.refl _))⟩
 . rename_i c1 c2
   split at h
   . rename_i s1 h1
     obtain ⟨⟨g1,ga⟩,g2,g3,g4⟩:=hG.code _ _ _ _ h1
     obtain ⟨⟨k1,ka⟩,k2,k3,k4⟩:=hG.code _ _ _ _ h
     refine ⟨⟨Nat.le_trans g1 k1,ga.trans ka⟩,k2.trans g2,k3.trans g3,λ M a w r Q st rd fr k=>wpIn_seq ?_⟩
     refine g4 M a w r _ st rd (fr.left k1) (λ M' a' w' st' f' _=>?_)
     exact k4 M' a' w' r Q st' (by rw [g3];exact rd.mono f'.ext) (Fresh.right fr g1 f') (λ M2 a2 w2 st2 f2 ab2=>k M2 a2 w2 st2 (f'.trans g1 k1 f2) (ga.trans ab2))
   . rename_i hne
     obtain ⟨⟨g1,ga⟩,g2,g3,g4⟩:=hG.code _ _ _ _ h
     refine ⟨⟨g1,ga⟩,g2,g3,λ M a w r Q st rd fr k=>wpIn_seq ?_⟩
     refine g4 M a w r _ st rd fr (λ M' a' w' st' f' ab'=>?_)
     have:=k M' a' w' st' f' ab'
     cases x with
     | nm=>exact absurd h (hne _)
     | ex id=>exact this
     | rt=>exact this
 . rename_i c t e
   split at h
   . rename_i b hb
     have hc:∀ (M:Mp) (a:Act) (w:World),StR M s a w->a.eval c=.bool b:=λ M a w st=>by
      have:=ev_ok st.tm c
      rw [hb] at this
      simpa only [AV.R] using this
     cases b with
     | true=>
       obtain ⟨g1,g2,g3,g4⟩:=hG.code _ _ _ _ h
       exact ⟨g1,g2,g3,λ M a w r Q st rd fr k=>wpIn_cond_true (hc M a w st) (g4 M a w r Q st rd fr k)⟩
     | false=>
       obtain ⟨g1,g2,g3,g4⟩:=hG.code _ _ _ _ h
       exact ⟨g1,g2,g3,λ M a w r Q st rd fr k=>wpIn_cond_false (hc M a w st) (g4 M a w r Q st rd fr k)⟩
   . rename_i b hb
     have hc:∀ (M:Mp) (a:Act) (w:World),StR M s a w->a.eval c=.bool b:=λ M a w st=>by
      have:=ev_ok st.tm c
      rw [hb] at this
      simpa only [AV.R] using this
     cases b with
     | true=>
       obtain ⟨g1,g2,g3,g4⟩:=hG.code _ _ _ _ h
       exact ⟨g1,g2,g3,λ M a w r Q st rd fr k=>wpIn_cond_true (hc M a w st) (g4 M a w r Q st rd fr k)⟩
     | false=>
       obtain ⟨g1,g2,g3,g4⟩:=hG.code _ _ _ _ h
       exact ⟨g1,g2,g3,λ M a w r Q st rd fr k=>wpIn_cond_false (hc M a w st) (g4 M a w r Q st rd fr k)⟩
   . cases h
 . rename_i id c
   split at h
   . rename_i j s1 h1
     obtain ⟨g1,g2,g3,g4⟩:=hG.code _ _ _ _ h1
     simp only [nbeq,Bool.cond_decide] at h
     split at h
     . rename_i hj
       simp only [sI,Prod.mk.injEq] at h
       obtain ⟨rfl,rfl⟩:=h
       refine ⟨g1,g2,g3,λ M a w r Q st rd fr k=>wpIn_block (g4 M a w r _ st rd fr (λ M' a' w' st' f' ab'=>?_))⟩
       simp only [exitOf,Exit.inBlock,hj,if_true]
       exact k M' a' w' st' f' ab'
     . rename_i hj
       simp only [sI,Prod.mk.injEq] at h
       obtain ⟨rfl,rfl⟩:=h
       refine ⟨g1,g2,g3,λ M a w r Q st rd fr k=>wpIn_block (g4 M a w r _ st rd fr (λ M' a' w' st' f' ab'=>?_))⟩
       simp only [exitOf,Exit.inBlock,hj,if_false]
       exact k M' a' w' st' f' ab'
   . rename_i hne
     obtain ⟨g1,g2,g3,g4⟩:=hG.code _ _ _ _ h
     refine ⟨g1,g2,g3,λ M a w r Q st rd fr k=>wpIn_block (g4 M a w r _ st rd fr (λ M' a' w' st' f' ab'=>?_))⟩
     have:=k M' a' w' st' f' ab'
     cases x with
     | ex id=>exact absurd h (hne _ _)
     | nm=>exact this
     | rt=>exact this
 . rename_i c
   obtain ⟨g1,g2,g3,g4⟩:=loop_ok hG _ h
   exact ⟨g1,g2,g3,λ M a w r Q st rd fr k=>wpIn_loop_rounds _ (g4 M a w r Q st rd fr k)⟩
 . rename_i id
   simp only [sI,Prod.mk.injEq] at h
   obtain ⟨rfl,rfl⟩:=h
   exact ⟨⟨Nat.le_refl _,Ab.refl _⟩,rfl,rfl,λ M a w r Q st _ _ k=>wpIn_exit (k M a w st (Fr.same _ M w) (Ab.refl _))⟩
 . simp only [sI,Prod.mk.injEq] at h
   obtain ⟨rfl,rfl⟩:=h
   exact ⟨⟨Nat.le_refl _,Ab.refl _⟩,rfl,rfl,λ M a w r Q st _ _ k=>wpIn_ret (k M a w st (Fr.same _ M w) (Ab.refl _))⟩
 . rename_i id ops
   split at h
   . rename_i s1 h1
     simp only [sI,Prod.mk.injEq] at h
     obtain ⟨rfl,rfl⟩:=h
     obtain ⟨o1,o2,o3,o4⟩:=opsA_ok hG ops _ _ _ h1
     refine ⟨o1,o2,o3,λ M a w r Q st rd fr k=>wpIn_region ?_⟩
     have:=o4 0 rfl M a w r Q st fr k
     rw [List.range_eq_range']
     exact this
   . cases h
 . rename_i id ops
   split at h
   . rename_i s1 h1
     simp only [sI,Prod.mk.injEq] at h
     obtain ⟨rfl,rfl⟩:=h
     obtain ⟨o1,o2,o3,o4⟩:=draw_ok (id:=id) hm hG h1
     exact ⟨o1,o2,o3,λ M a w r Q st rd fr k=>o4 M a w r Q st fr k⟩
   . cases h
 . exact rangeFunc_ok hG h
 . rename_i c
   obtain ⟨g1,g2,g3,g4⟩:=hG.code _ _ _ _ h
   refine ⟨g1,g2,g3,λ M a w r Q st rd fr k=>wpIn_scope (g4 M a w r _ st rd fr (λ M' a' w' st' f' ab'=>?_))⟩
   have:=k M' a' w' st' f' ab'
   cases x <;> exact this
 . cases h
theorem exec_good (hm:P.follows .mixedOrders=true){sm:FuncId->Option Sm}(hs:SmOK P sm):∀ n,Good P ⟨exec P sm n,sm⟩
 | 0=>⟨λ c s x s' h=>by simp [exec] at h,hs⟩
 | n + 1=>⟨λ c s x s' h=>step_ok hm (exec_good hm hs n) n h,hs⟩
theorem noSm_ok:SmOK P noSm:=λ f=>⟨λ g e=>by simp [noSm] at e,λ g e=>by simp [noSm] at e,λ g e=>by simp [noSm] at e⟩
def callS (P:Program)(sm:FuncId->Option Sm)(n f:Nat)(args:List AV):Option (AV × AH):=callA P ⟨exec P sm n,sm⟩ f args ⟨.lf,0,0,[]⟩
def smB (b:Bool)(args:List AV)(h:AH):Option (AV × AH):=match args with | []=>some (.b b,h) | _=>none
theorem Rel.below {M:Mp}{h:AH}{w w':World}(r:Rel M h w)(hb:Below w.heap.size w w'):Rel M h w':=
 ⟨λ id o e=>by
  rcases r.obj id o e with hv | ⟨b,κ,ob,h1,h2,h3⟩
  . exact .inl hv
  exact .inr ⟨b,κ,ob,h1,by rw [hb.block b (heap_lt h2)];exact h2,h3⟩,r.inj,r.wf,λ g c hg=>by
  obtain ⟨vs,e,fr,h1,h2⟩:=r.gw g c hg
  exact ⟨vs,e,fr,by rw [hb.block g (heap_lt h1)];exact h1,h2⟩,r.gf,fz_kept r (λ b hb2 _=>hb.block b hb2),r.fo⟩
theorem smBool_ok {f:FuncId}{fn:Func}{b:Bool}(hf:P.funcs[f]?=some fn)(hok:okFn fn=true)(hb:fn.body.isSome=true)
 (hc:∀ w,GW w->Calls P f #[] w λ e w'=>e=.returned (.bool b)/\Below w.heap.size w w'):SmCall P f (smB b):=by
 intro args h v h' hg
 unfold smB at hg
 split at hg
 . simp only [sI,Prod.mk.injEq] at hg
   obtain ⟨rfl,rfl⟩:=hg
   refine ⟨⟨Nat.le_refl _,Ab.refl _⟩,λ M us w r R ra rr fr k=>⟨?_,?_⟩⟩
   · have hnn : ¬ (fn.name = "runtime.NumGoroutine") := by simpa [okFn] using hok
     cases hbb:fn.body with
     | none=>rw [hbb] at hb;cases hb
     | some c=>simp [callFunc,hf,hnn,hbb]
   . simp only [AV.RL] at ra;subst ra
     have:CallsIn (FW none) 0 P f #[] w R:=(callsIn_wide (n:=0)).2 ((hc w rr.gw).mono λ e w' ⟨he,hbl⟩=>by
      subst he
      exact k M (.bool b) w' rfl (rr.below hbl) ⟨hbl.os,hbl.tape,hbl.output,hbl.size,Le.refl M,λ _ e=>absurd rfl e,λ q hq _=>hbl.block q hq,λ id b2 κ o q1 q2=>.inr ⟨id,κ,o,q1,q2,λ e=>e⟩,λ _ _ e=>.inl e⟩ (Ab.refl _))
     exact this
 . cases hg
end
structure RcT where
 code:Code->St->T (AX × St)
 sm:FuncId->Option Sm
def RcT.rc (r:RcT):Rc:=⟨λ c s=>(r.code c s).sel,r.sm⟩
section
variable (P : Program) (rec : RcT)
def finA (fn:Func)(x:AX)(s:St):Option (AV × AH):=
 match x with
 | .ex _=>none
 | _=>match takeAll s.h s.df with
   | some h'=>match resA P s.tm h' fn.results.toList with
     | some v=>some (v,h')
     | none=>none
   | none=>none
def callT (f:FuncId)(args:List AV)(h:AH):T (AV × AH):=
 match rec.sm f with
 | some (.call g)=>.of (g args h)
 | some (.ct g)=>g args h
 | some (.val _)=>.no
 | none=>
 match P.funcs[f]? with
 | some fn=>bif okFn fn then match fn.body with
   | some c=>match initT .lf 0 args with
     | some tm=>(rec.code c ⟨tm,max fn.ntmps args.length,[],none,h⟩).bind λ p=>.of (finA P fn p.1 p.2)
     | none=>.no
   | none=>.no
   else .no
 | none=>.no
def roundT (l:Nat)(args:List AV)(h:AH):T (AV × AH):=
 match h.get l with
 | some (.loop .ready none tm0 sz ps asg bo D)=>match setPs tm0 sz ps.toList args with
   | some tm=>match hideRd h l with
     | some h1=>(rec.code asg ⟨tm,sz,[],some l,h1⟩).bind λ p=>match p.1 with
       | .nm=>match p.2.df with
         | []=>(rec.code bo ⟨p.2.tm,p.2.sz,[],some l,p.2.h⟩).bind λ q=>match q.1 with
           | .nm=>match endRd q.2.h l false (.loop .ready none tm0 sz ps asg bo D) with | some h3=>.ret (.b true,h3) | none=>.no
           | .rt=>match endRd q.2.h l true (.loop .done (some .ret) tm0 sz ps asg bo D) with | some h3=>.ret (.b false,h3) | none=>.no
           | .ex id=>match endRd q.2.h l true (.loop .done (some (.exit id)) tm0 sz ps asg bo D) with | some h3=>.ret (.b false,h3) | none=>.no
         | _=>.no
       | _=>.no
     | none=>.no
   | none=>.no
 | _=>.no
def opFT (tm:Tr AV)(o:Oper)(h:AH):T (AV × AH):=
 (opT P tm o h).bind λ out=>match out with
 | .val v h'=>bif Nat.ble h.nx h'.nx then .ret (v,h') else .no
 | .enter f args _=>match rec.sm f with
   | some (.val g)=>match g args with | some v=>.ret (v,h) | none=>.no
   | _=>callT P rec f args h
 | .yld l args _=>roundT rec l args h
def opsT (ops:List Oper):List Oper->St->T St
 | [],s=>.ret s
 | o :: rest,⟨tm,sz,df,rd,h⟩=>
   match wantA ops tm o with
   | some true=>(opFT P rec tm o h).bind λ p=>match putA ⟨tm,sz,df,rd,p.2⟩ o.dst p.1 with
      | some s'=>opsT ops rest s'
      | none=>.no
   | some false=>match putA ⟨tm,sz,df,rd,h⟩ o.dst undefA with
     | some s'=>opsT ops rest s'
     | none=>.no
   | none=>.no
theorem opsT_cons (ops:List Oper)(o:Oper)(rest:List Oper)(s:St):opsT P rec ops (o :: rest) s=(
 match wantA ops s.tm o with
 | some true=>(opFT P rec s.tm o s.h).bind λ p=>match putA { s with h:=p.2 } o.dst p.1 with
    | some s'=>opsT P rec ops rest s'
    | none=>.no
 | some false=>match putA s o.dst undefA with
   | some s'=>opsT P rec ops rest s'
   | none=>.no
 | none=>.no):=by cases s;rfl
def viewT (tm:Tr AV)(o:Oper)(h:AH)(un:List DR):T (AV × AH × List Nat × Bool × Option Nat):=
 match kindA tm o.op with
 | .pure=>(opFT P rec tm o ⟨.lf,h.nx,h.nx,[]⟩).bind λ p=>bif Nat.beq p.2.nx h.nx then .ret (p.1,h,[],false,none) else .no
 | .make=>(opFT P rec tm o ⟨.lf,h.nx,h.nx,[]⟩).bind λ p=>bif Nat.beq p.2.nx h.nx then .ret (p.1,h,[],false,none) else bif Nat.beq p.2.nx (Nat.succ h.nx) then
    (match p.2.get h.nx with
    | some o=>match h.new o with | some h2=>.ret (p.1,h2,[],false,none) | none=>.no
    | none=>.no)
    else .no
 | .read id=>match h.get id with
   | some ob=>bif un.any (inDR id) then .no else
     match Tr.set 64 .lf (Nat.succ id) (some ob) with
     | some t=>(opFT P rec tm o ⟨t,h.nx,h.nx,[]⟩).bind λ p=>bif Nat.beq p.2.nx h.nx then (match p.2.wl with | []=>.ret (p.1,h,[],false,some id) | _=>.no) else .no
     | none=>.no
   | none=>.no
 | .full=>match hideL un with
   | some l=>match hideA h l with
     | some (hv,sv)=>(opFT P rec tm o ⟨hv.t,hv.nx,hv.nx,[]⟩).bind λ p=>match showA ⟨p.2.t,p.2.nx,0,[]⟩ sv with
        | some h2=>.ret (p.1,⟨h2.t,h2.nx,h.bs,mergeW h.bs h.wl p.2.wl⟩,p.2.wl,true,none)
        | none=>.no
     | none=>.no
   | none=>.no
def drawT (ops:List Oper):List Oper->Nat->List DR->St->T St
 | [],_,_,s=>.ret s
 | o :: rest,i,recs,⟨tm,sz,df,rd,h⟩=>
   match predsA i recs o.after.toList with
   | none=>.no
   | some pm=>
     let un:=recs.filter λ r=>!Nat.testBit pm r.i
     let lk:=looksA ops o
     bif un.all (apartT o.dst lk) then
      match wantA ops tm o with
      | some true=>(viewT P rec tm o h un).bind λ p=>bif noneW h.nx p.2.2.1 un then
         (match putA ⟨tm,sz,df,rd,p.2.1⟩ o.dst p.1 with
         | some s'=>drawT ops rest (Nat.succ i) (⟨i,pm,o.dst,lk,h.nx,p.2.1.nx,p.2.2.1,p.2.2.2.1,p.2.2.2.2⟩ :: recs) s'
         | none=>.no) else .no
      | some false=>match putA ⟨tm,sz,df,rd,h⟩ o.dst undefA with
        | some s'=>drawT ops rest (Nat.succ i) (⟨i,pm,o.dst,lk,h.nx,h.nx,[],false,none⟩ :: recs) s'
        | none=>.no
      | none=>.no
     else .no
theorem drawT_cons (ops:List Oper)(o:Oper)(rest:List Oper)(i:Nat)(recs:List DR)(s:St):drawT P rec ops (o :: rest) i recs s=(
 match predsA i recs o.after.toList with
 | none=>.no
 | some pm=>
   let un:=recs.filter λ r=>!Nat.testBit pm r.i
   let lk:=looksA ops o
   bif un.all (apartT o.dst lk) then
    match wantA ops s.tm o with
    | some true=>(viewT P rec s.tm o s.h un).bind λ p=>bif noneW s.h.nx p.2.2.1 un then
       (match putA { s with h:=p.2.1 } o.dst p.1 with
       | some s'=>drawT P rec ops rest (Nat.succ i) (⟨i,pm,o.dst,lk,s.h.nx,p.2.1.nx,p.2.2.1,p.2.2.2.1,p.2.2.2.2⟩ :: recs) s'
       | none=>.no) else .no
    | some false=>match putA s o.dst undefA with
      | some s'=>drawT P rec ops rest (Nat.succ i) (⟨i,pm,o.dst,lk,s.h.nx,s.h.nx,[],false,none⟩ :: recs) s'
      | none=>.no
    | none=>.no
   else .no):=by cases s;rfl
def rangeT (f:Operand)(ps:Array Tmp)(asg bo:Code)(s:St):T (AX × St):=
 match evT s.tm f with
 | .fn gf caps=>
   match (match s.rd with
    | none=>match s.h.new (.dfr true) with | some h=>some (s.h.nx,s.h.nx :: s.df,h) | none=>none
    | some l=>match s.h.get l with | some (.loop _ _ _ _ _ _ _ D)=>some (D,s.df,s.h) | _=>none) with
   | some (D,df,h)=>match h.new (.loop .ready none s.tm s.sz ps asg bo D) with
     | some h1=>(callT P rec gf (.yl h.nx :: caps) h1).bind λ p=>match p.2.get h.nx with
        | some (.loop .busy _ _ _ _ _ _ _)=>.no
        | some (.loop _ pe tm sz ps' asg' bo' D')=>match p.2.put h.nx (some (.loop .exhausted pe tm sz ps' asg' bo' D')) with
          | some h3=>match pe with
            | none=>.ret (.nm,{ s with df:=df,h:=h3 })
            | some .ret=>rec.code .ret { s with df:=df,h:=h3 }
            | some (.exit id)=>rec.code (.exit id) { s with df:=df,h:=h3 }
            | some _=>.no
          | none=>.no
        | _=>.no
     | none=>.no
   | none=>.no
 | _=>.no
def loopT:Nat->Code->St->T (AX × St)
 | 0,_,_=>.no
 | m + 1,c,s=>(rec.code c s).bind λ p=>match p.1 with | .nm=>loopT m c p.2 | _=>.ret p
def stepT (n:Nat)(c:Code)(s:St):T (AX × St):=
 match c with
 | .skip | .label _=>.ret (.nm,s)
 | .seq a b=>(rec.code a s).bind λ p=>match p.1 with | .nm=>rec.code b p.2 | _=>.ret p
 | .cond c t e=>match evT s.tm c with | .b x=>bif x then rec.code t s else rec.code e s | .yb x=>.br x (rec.code t s) (rec.code e s) | _=>.no
 | .block id c=>(rec.code c s).bind λ p=>match p.1 with | .ex j=>bif Nat.beq j id then .ret (.nm,p.2) else .ret p | _=>.ret p
 | .loop c=>loopT rec n c s
 | .exit id=>.ret (.ex id,s)
 | .ret=>.ret (.rt,s)
 | .region _ ops false=>(opsT P rec ops.toList ops.toList s).bind λ s'=>.ret (.nm,s')
 | .region _ ops true=>(drawT P rec ops.toList ops.toList 0 [] s).bind λ s'=>.ret (.nm,s')
 | .rangeFunc f ps asg bo=>rangeT P rec f ps asg bo s
 | .scope c=>rec.code c s
 | _=>.no
end
def execT (P:Program)(sm:FuncId->Option Sm):Nat->Code->St->T (AX × St)
 | 0,_,_=>.no
 | n + 1,c,s=>stepT P ⟨execT P sm n,sm⟩ n c s
section
variable {P : Program} {rec : RcT}
theorem sel_cond {α:Type}(b:Bool)(t e:T α):(bif b then t else e).sel=bif b then t.sel else e.sel:=by cases b <;> rfl
theorem opT_sel {tm:Tr AV}{o:Oper}{h:AH}:(opT P tm o h).sel=opS P tm o h:=by
 rw [opS_eq];unfold opT
 cases mvA tm o with
 | some b=>cases b <;> rfl
 | none=>cases opA P tm o h <;> rfl
theorem callT_sel {f:FuncId}{args:List AV}{h:AH}:(callT P rec f args h).sel=callA P rec.rc f args h:=by
 unfold callT callA
 rw [show rec.rc.sm f=rec.sm f from rfl]
 cases hs:rec.sm f with
 | some g=>cases g with
   | call g=>simp only [T.sel_of]
   | ct g=>rfl
   | val g=>rfl
 | none=>
   simp only
   cases P.funcs[f]? with
   | none=>rfl
   | some fn=>
     simp only [sel_cond]
     congr 1
     cases fn.body with
     | none=>rfl
     | some c=>
       simp only
       cases initT .lf 0 args with
       | none=>rfl
       | some tm=>
         simp only [T.sel_bind,RcT.rc]
         cases (rec.code c ⟨tm,max fn.ntmps args.length,[],none,h⟩).sel with
         | none=>rfl
         | some p=>obtain ⟨x,s⟩:=p;cases x <;> (simp only [T.sel_of,finA];try rfl)
theorem roundT_sel {l:Nat}{args:List AV}{h:AH}:(roundT rec l args h).sel=roundA rec.rc l args h:=by
 unfold roundT roundA
 rw [show rec.rc.code=λ c s=>(rec.code c s).sel from rfl]
 cases h.get l with
 | none=>rfl
 | some ob=>
   cases ob <;> first | rfl | skip
   rename_i st pe tm sz ps asg bo D
   cases st <;> first | rfl | skip
   cases pe <;> first | rfl | skip
   simp only
   cases setPs tm sz ps.toList args with
   | none=>rfl
   | some tm2=>
     simp only
     cases hideRd h l with
     | none=>rfl
     | some h1=>
       simp only [T.sel_bind]
       cases (rec.code asg ⟨tm2,sz,[],some l,h1⟩).sel with
       | none=>rfl
       | some p=>
         obtain ⟨x,s⟩:=p
         cases x <;> first | rfl | skip
         simp only
         cases s.df with
         | cons d ds=>rfl
         | nil=>
           simp only [T.sel_bind]
           cases (rec.code bo ⟨s.tm,s.sz,[],some l,s.h⟩).sel with
           | none=>rfl
           | some q=>
             obtain ⟨y,s2⟩:=q
             cases y with
             | nm=>simp only;cases endRd s2.h l false (.loop .ready none tm sz ps asg bo D) <;> rfl
             | rt=>simp only;cases endRd s2.h l true (.loop .done (some .ret) tm sz ps asg bo D) <;> rfl
             | ex id=>simp only;cases endRd s2.h l true (.loop .done (some (.exit id)) tm sz ps asg bo D) <;> rfl
theorem opFT_sel {tm:Tr AV}{o:Oper}{h:AH}:(opFT P rec tm o h).sel=opF P rec.rc tm o h:=by
 rw [opF_eq];unfold opFT
 rw [T.sel_bind,opT_sel]
 rw [show rec.rc.sm=rec.sm from rfl]
 cases opS P tm o h with
 | none=>rfl
 | some out=>cases out with
   | val v h'=>simp only [sel_cond];rfl
   | enter f args h'=>
     simp only
     have hc:=callT_sel (P:=P) (rec:=rec) (f:=f) (args:=args) (h:=h)
     cases hs:rec.sm f with
     | none=>simpa only [hs] using hc
     | some g=>cases g with
       | call g=>simpa only [hs] using hc
       | ct g=>simpa only [hs] using hc
       | val g=>simp only;cases g args <;> rfl
   | yld l args h'=>exact roundT_sel
theorem opsT_sel {ops:List Oper}:∀ {l:List Oper} {s:St},(opsT P rec ops l s).sel=opsA P rec.rc ops l s
 | [],s=>rfl
 | o :: rest,s=>by
   rw [opsT_cons,opsA_cons]
   cases wantA ops s.tm o with
   | none=>rfl
   | some b=>cases b with
     | true=>
       simp only [T.sel_bind,opFT_sel]
       cases opF P rec.rc s.tm o s.h with
       | none=>rfl
       | some p=>
         obtain ⟨v,h⟩:=p
         simp only
         cases putA { s with h:=h } o.dst v with
         | none=>rfl
         | some s'=>exact opsT_sel
     | false=>
       simp only
       cases putA s o.dst undefA with
       | none=>rfl
       | some s'=>exact opsT_sel
theorem viewT_sel {tm:Tr AV}{o:Oper}{h:AH}{un:List DR}:(viewT P rec tm o h un).sel=viewRun P rec.rc tm o h un:=by
 unfold viewT viewRun
 cases kindA tm o.op with
 | pure=>
   simp only [T.sel_bind,opFT_sel]
   cases opF P rec.rc tm o ⟨.lf,h.nx,h.nx,[]⟩ with
   | none=>rfl
   | some p=>obtain ⟨v,h'⟩:=p;simp only [sel_cond];rfl
 | make=>
   simp only [T.sel_bind,opFT_sel]
   cases opF P rec.rc tm o ⟨.lf,h.nx,h.nx,[]⟩ with
   | none=>rfl
   | some p=>
     obtain ⟨v,h'⟩:=p
     simp only [sel_cond]
     congr 1
     congr 1
     cases h'.get h.nx with
     | none=>rfl
     | some ob=>simp only;cases h.new ob <;> rfl
 | read id=>
   simp only
   cases h.get id with
   | none=>rfl
   | some ob=>
     simp only [sel_cond]
     congr 1
     cases Tr.set 64 .lf (Nat.succ id) (some ob) with
     | none=>rfl
     | some t=>
       simp only [T.sel_bind,opFT_sel]
       cases opF P rec.rc tm o ⟨t,h.nx,h.nx,[]⟩ with
       | none=>rfl
       | some p=>
         obtain ⟨v,h'⟩:=p
         simp only [sel_cond]
         congr 1
         cases h'.wl <;> rfl
 | full=>
   simp only
   cases hideL un with
   | none=>rfl
   | some l=>
     simp only
     cases hideA h l with
     | none=>rfl
     | some q=>
       obtain ⟨hv,sv⟩:=q
       simp only [T.sel_bind,opFT_sel]
       cases opF P rec.rc tm o ⟨hv.t,hv.nx,hv.nx,[]⟩ with
       | none=>rfl
       | some p=>
         obtain ⟨v,h'⟩:=p
         simp only
         cases showA ⟨h'.t,h'.nx,0,[]⟩ sv <;> rfl
theorem drawT_sel {ops:List Oper}:∀ {l:List Oper} {i:Nat} {recs:List DR} {s:St},(drawT P rec ops l i recs s).sel=drawA P rec.rc ops l i recs s
 | [],i,recs,s=>rfl
 | o :: rest,i,recs,s=>by
   rw [drawT_cons,drawA_cons]
   cases predsA i recs o.after.toList with
   | none=>rfl
   | some pm=>
     simp only [sel_cond]
     congr 1
     cases wantA ops s.tm o with
     | none=>rfl
     | some b=>cases b with
       | true=>
         simp only [T.sel_bind,viewT_sel]
         cases viewRun P rec.rc s.tm o s.h (recs.filter λ r=>!Nat.testBit pm r.i) with
         | none=>rfl
         | some p=>
           obtain ⟨v,h,wr,full,ld⟩:=p
           simp only [sel_cond]
           congr 1
           cases putA { s with h:=h } o.dst v with
           | none=>rfl
           | some s'=>exact drawT_sel
       | false=>
         simp only
         cases putA s o.dst undefA with
         | none=>rfl
         | some s'=>exact drawT_sel
theorem rangeT_sel {f:Operand}{ps:Array Tmp}{asg bo:Code}{s:St}:(rangeT P rec f ps asg bo s).sel=rangeFuncA P rec.rc f ps asg bo s:=by
 unfold rangeT rangeFuncA
 cases evT s.tm f <;> first | rfl | skip
 rename_i gf caps
 simp only
 cases hrd:s.rd with
 | none=>
   simp only
   cases s.h.new (.dfr true) with
   | none=>rfl
   | some h=>
     simp only
     generalize s.h.nx=D
     cases h.new (.loop .ready none s.tm s.sz ps asg bo D) with
     | none=>rfl
     | some h1=>
       simp only [T.sel_bind,callT_sel]
       cases callA P rec.rc gf (.yl h.nx :: caps) h1 with
       | none=>rfl
       | some p=>
         obtain ⟨v,h2⟩:=p
         simp only
         cases h2.get h.nx with
         | none=>rfl
         | some ob=>
           cases ob <;> first | rfl | skip
           rename_i st2 pe2 tm3 sz3 ps3 asg3 bo3 D3
           cases st2 <;> first | rfl | skip
           all_goals
            simp only
            cases h2.put h.nx (some (.loop .exhausted pe2 tm3 sz3 ps3 asg3 bo3 D3)) with
            | none=>rfl
            | some h3=>cases pe2 with
           | none=>rfl
           | some c=>cases c <;> rfl
 | some l=>
   simp only
   cases s.h.get l with
   | none=>rfl
   | some ob0=>
     cases ob0 <;> first | rfl | skip
     rename_i st0 pe0 tm0 sz0 ps0 asg0 bo0 D
     simp only
     cases s.h.new (.loop .ready none s.tm s.sz ps asg bo D) with
     | none=>rfl
     | some h1=>
       simp only [T.sel_bind,callT_sel]
       cases callA P rec.rc gf (.yl s.h.nx :: caps) h1 with
       | none=>rfl
       | some p=>
         obtain ⟨v,h2⟩:=p
         simp only
         cases h2.get s.h.nx with
         | none=>rfl
         | some ob=>
           cases ob <;> first | rfl | skip
           rename_i st2 pe2 tm3 sz3 ps3 asg3 bo3 D3
           cases st2 <;> first | rfl | skip
           all_goals
            simp only
            cases h2.put s.h.nx (some (.loop .exhausted pe2 tm3 sz3 ps3 asg3 bo3 D3)) with
            | none=>rfl
            | some h3=>cases pe2 with
           | none=>rfl
           | some c=>cases c <;> rfl
theorem loopT_sel {c:Code}:∀ {m:Nat} {s:St},(loopT rec m c s).sel=loopA rec.rc m c s
 | 0,s=>rfl
 | m + 1,s=>by
   unfold loopT loopA
   rw [T.sel_bind]
   rw [show rec.rc.code c s=(rec.code c s).sel from rfl]
   cases (rec.code c s).sel with
   | none=>rfl
   | some p=>
     obtain ⟨x,s'⟩:=p
     cases x with
     | nm=>exact loopT_sel
     | ex id=>rfl
     | rt=>rfl
theorem stepT_sel {n:Nat}{c:Code}{s:St}:(stepT P rec n c s).sel=execStep P rec.rc n c s:=by
 rw [execStep_eq]
 unfold stepT
 cases c with
 | seq a b=>
   simp only [T.sel_bind]
   rw [show rec.rc.code a s=(rec.code a s).sel from rfl]
   cases (rec.code a s).sel with
   | none=>rfl
   | some p=>obtain ⟨x,s'⟩:=p;cases x <;> rfl
 | cond c t e=>
   simp only
   cases evT s.tm c <;> first | rfl | (simp only [sel_cond];rfl)
 | block id c=>
   simp only [T.sel_bind]
   rw [show rec.rc.code c s=(rec.code c s).sel from rfl]
   cases (rec.code c s).sel with
   | none=>rfl
   | some p=>obtain ⟨x,s'⟩:=p;cases x <;> first | rfl | (simp only [sel_cond];rfl)
 | loop c=>exact loopT_sel
 | region id ops d=>
   cases d with
   | false=>
     simp only [T.sel_bind,opsT_sel]
     cases opsA P rec.rc ops.toList ops.toList s <;> rfl
   | true=>
     simp only [T.sel_bind,drawT_sel]
     cases drawA P rec.rc ops.toList ops.toList 0 [] s <;> rfl
 | rangeFunc f ps asg bo=>exact rangeT_sel
 | _=>rfl
end
theorem execT_sel {P:Program}{sm:FuncId->Option Sm}:∀ {n:Nat} {c:Code} {s:St},(execT P sm n c s).sel=exec P sm n c s
 | 0,_,_=>rfl
 | n + 1,c,s=>by
   show (stepT P ⟨execT P sm n,sm⟩ n c s).sel=execStep P ⟨exec P sm n,sm⟩ n c s
   rw [stepT_sel]
   congr 1
   unfold RcT.rc
   congr 1
   funext c s
   exact execT_sel
structure OZ where
 own:Nat->Prop
 z:Nat->Option (Array Value)
instance:CoeFun OZ (λ _=>Nat->Prop):=⟨OZ.own⟩
def OwnP (M:Mp)(h:AH):OZ:=⟨λ b=>∃ i κ o,h.get i=some o/\o.ro=false/\M i=some (b,κ),M.z⟩
structure FrO (O:OZ)(w:World)(O':OZ)(w':World):Prop where
 os:w'.os=w.os
 tape:w'.tape=w.tape
 output:w'.output=w.output
 size:w.heap.size<=w'.heap.size
 keep:∀ k,k < w.heap.size->¬ O k->w'.heap[k]?=w.heap[k]?
 own:∀ k,O' k->O k ∨ w.heap.size<=k
 zm:∀ b cs,O.z b=some cs->O'.z b=some cs
 zx:∀ b cs,O'.z b=some cs->O.z b=some cs ∨ O b ∨ w.heap.size<=b
structure Wid (A' A:OZ):Prop where
 own:∀ b,A b->A' b
 zm:∀ b cs,A'.z b=some cs->A.z b=some cs
 zx:∀ b cs,A.z b=some cs->A'.z b=some cs ∨ A' b
theorem Wid.refl (A:OZ):Wid A A:=⟨λ _ h=>h,λ _ _ h=>h,λ _ _ h=>.inl h⟩
theorem FrO.refl (O:OZ)(w:World):FrO O w O w:=⟨rfl,rfl,rfl,Nat.le_refl _,λ _ _ _=>rfl,λ _ h=>.inl h,λ _ _ h=>h,λ _ _ h=>.inl h⟩
theorem FrO.trans {A B C:OZ}{u v w:World}(h:FrO A u B v)(k:FrO B v C w):FrO A u C w:=
 ⟨k.os.trans h.os,k.tape.trans h.tape,k.output.trans h.output,Nat.le_trans h.size k.size,λ i hi hn=>by
  rw [k.keep i (Nat.lt_of_lt_of_le hi h.size) (λ hb=>by
   rcases h.own i hb with q | q
   . exact hn q
   . omega),h.keep i hi hn],λ i hi=>by
  rcases k.own i hi with q | q
  . exact h.own i q
  . exact .inr (Nat.le_trans h.size q),λ b cs e=>k.zm b cs (h.zm b cs e),λ b cs e=>by
  rcases k.zx b cs e with q | q | q
  . exact h.zx b cs q
  . exact .inr (h.own b q)
  . exact .inr (.inr (Nat.le_trans h.size q))⟩
theorem FrO.more {A A' B:OZ}{u v:World}(h:FrO A u B v)(k:Wid A' A):FrO A' u B v:=⟨h.os,h.tape,h.output,h.size,λ i hi hn=>h.keep i hi (λ q=>hn (k.own i q)),λ i hi=>(h.own i hi).imp (k.own i) id,λ b cs e=>h.zm b cs (k.zm b cs e),λ b cs e=>by
 rcases h.zx b cs e with q | q | q
 . exact (k.zx b cs q).imp id .inl
 . exact .inr (.inl (k.own b q))
 . exact .inr (.inr q)⟩
theorem Fr.frO {h h':AH}{M M':Mp}{w w':World}(f:Fr h h' M M' w w'):FrO (OwnP M h) w (OwnP M' h') w':=
 ⟨f.os,f.tape,f.output,f.size,λ k hk hn=>f.keep k hk (λ id κ o h1 h2 h3=>hn ⟨id,κ,o,h1,h2,h3⟩),λ k ⟨i,κ,o,h1,h2,h3⟩=>by
  rcases f.range i k κ o h1 h3 with q | ⟨j,κ',o',q1,q2,q3⟩
  . exact .inr q
  . exact .inl ⟨j,κ',o',q1,q3 h2,q2⟩,f.ext.z,λ b cs e=>by
  rcases f.zx b cs e with q | q | q
  . exact .inl q
  . exact .inr (.inr q)
  . exact .inr (.inl q)⟩
def FreshA (M:Mp)(n:Nat):Prop:=∀ id,n<=id->M id=none
theorem FreshA.fresh {M:Mp}{h h':AH}(f:FreshA M h.nx):Fresh M h h':=λ id h1 _=>f id h1
theorem FreshA.next {M M':Mp}{h h':AH}{w w':World}(f:FreshA M h.nx)(a:h.nx<=h'.nx)(k:Fr h h' M M' w w'):FreshA M' h'.nx:=λ id hi=>by
 by_cases e:M' id=M id
 . rw [e];exact f id (by omega)
 . have:=k.only id e;omega
section
variable (P : Program)
def TriB (c:Code)(n0:Nat)(s:St)(K:AX->St->Prop):Prop:=∀ (M:Mp) (a:Act) (w:World) (r:Option Nat) (Q:Exit->Act->World->Prop),StR M s a w->RdR M s.rd r->FreshA M s.h.nx →
 (∀ x s' M' a' w',K x s'->StR M' s' a' w'->RdR M' s'.rd r->FreshA M' s'.h.nx->FrO (OwnP M s.h) w (OwnP M' s'.h) w'->(n0<=s'.h.nx/\∀ id,id < n0->M' id=M id)->Q (exitOf x) a' w')->c.wpIn (FW r) 0 P Q a w
def TriC (c:Code)(s:St)(K:AX->St->Prop):Prop:=TriB P c s.h.nx s K
end
section
variable {P : Program}
theorem TriC.mono {c:Code}{s:St}{K K':AX->St->Prop}(h:TriC P c s K)(k:∀ x s',K x s'->K' x s'):TriC P c s K':=
 λ M a w r Q h1 h2 h3 h4=>h M a w r Q h1 h2 h3 λ x s' M' a' w' hk=>h4 x s' M' a' w' (k x s' hk)
theorem tri_exec (hm:P.follows .mixedOrders=true){sm:FuncId->Option Sm}(hs:SmOK P sm){n:Nat}{c:Code}{s s':St}{x:AX}{K:AX->St->Prop}(h:exec P sm n c s=some (x,s'))(k:K x s'):TriC P c s K:=by
 intro M a w r Q st rd fr q
 obtain ⟨⟨g1,ga⟩,g2,g3,g4⟩:=(exec_good hm hs n).code _ _ _ _ h
 exact g4 M a w r Q st rd fr.fresh λ M' a' w' st' f' _=>q x s' M' a' w' k st' (by rw [g3];exact rd.mono f'.ext) (fr.next g1 f') f'.frO ⟨g1,λ id hid=>by
  rcases Classical.em (M' id=M id) with e | e
  . exact e
  . have:=f'.only id e;omega⟩
theorem tri_seq {a b:Code}{s:St}{K:AX->St->Prop}(h:TriC P a s λ x s'=>match x with | .nm=>TriC P b s' K | _=>K x s'):TriC P (.seq a b) s K:=by
 intro M act w r Q st rd fr q
 refine wpIn_seq (h M act w r _ st rd fr λ x s' M' a' w' hk st' rd' fr' f' k'=>?_)
 cases x with
 | nm=>exact hk M' a' w' r Q st' rd' fr' λ x s2 M2 a2 w2 hk2 st2 rd2 fr2 f2 k2=>q x s2 M2 a2 w2 hk2 st2 rd2 fr2 (f'.trans f2) ⟨Nat.le_trans k'.1 k2.1,λ id hid=>(k2.2 id (Nat.lt_of_lt_of_le hid k'.1)).trans (k'.2 id hid)⟩
 | ex id=>exact q _ s' M' a' w' hk st' rd' fr' f' k'
 | rt=>exact q _ s' M' a' w' hk st' rd' fr' f' k'
theorem tri_block {id:Nat}{c:Code}{s:St}{K:AX->St->Prop}(h:TriC P c s λ x s'=>match x with | .ex j=>bif Nat.beq j id then K .nm s' else K x s' | _=>K x s'):TriC P (.block id c) s K:=by
 intro M act w r Q st rd fr q
 refine wpIn_block (h M act w r _ st rd fr λ x s' M' a' w' hk st' rd' fr' f' k'=>?_)
 cases x with
 | nm=>exact q _ s' M' a' w' hk st' rd' fr' f' k'
 | rt=>exact q _ s' M' a' w' hk st' rd' fr' f' k'
 | ex j=>
   simp only [nbeq,Bool.cond_decide] at hk
   by_cases hj:j=id
   . simp only [hj,if_true] at hk
     simp only [exitOf,Exit.inBlock,hj,if_true]
     exact q .nm s' M' a' w' hk st' rd' fr' f' k'
   . simp only [hj,if_false] at hk
     simp only [exitOf,Exit.inBlock,hj,if_false]
     exact q (.ex j) s' M' a' w' hk st' rd' fr' f' k'
theorem tri_scope {c:Code}{s:St}{K:AX->St->Prop}(h:TriC P c s K):TriC P (.scope c) s K:=by
 intro M act w r Q st rd fr q
 refine wpIn_scope (h M act w r _ st rd fr λ x s' M' a' w' hk st' rd' fr' f' k'=>?_)
 have:=q x s' M' a' w' hk st' rd' fr' f' k'
 cases x <;> exact this
theorem tri_cond {c:Operand}{t e:Code}{b:Bool}{s:St}{K:AX->St->Prop}(hc:evT s.tm c=.b b ∨ evT s.tm c=.yb b)(h1:b=true->TriC P t s K)(h2:b=false->TriC P e s K):TriC P (.cond c t e) s K:=by
 intro M act w r Q st rd fr q
 have hv:act.eval c=.bool b:=by
  have:=ev_ok st.tm c
  rcases hc with hc | hc <;> (rw [hc] at this;simpa only [AV.R] using this)
 cases b with
 | true=>exact wpIn_cond_true hv (h1 rfl M act w r Q st rd fr q)
 | false=>exact wpIn_cond_false hv (h2 rfl M act w r Q st rd fr q)
theorem roundsIn_mono {F:Fence}{k:Nat}{c:Code}{Q:Exit->Act->World->Prop}:∀ {m n:Nat} {a:Act} {w:World},m<=n->Code.roundsIn F k P c Q m a w->Code.roundsIn F k P c Q n a w
 | 0,_,_,_,_,h=>h.elim
 | m + 1,0,_,_,hle,_=>by omega
 | m + 1,n + 1,a,w,hle,h=>by
   rw [roundsIn_succ] at h ⊢
   refine Go.wpIn_mono h λ e a w q=>?_
   cases e with
   | normal=>exact roundsIn_mono (by omega) q
   | _=>exact q
def SubE (n0:Nat)(s:St)(J:St->Prop):Prop:=∀ (M:Mp) (a:Act) (w:World),StR M s a w->FreshA M s.h.nx->∃ s1 M1,J s1/\StR M1 s1 a w/\FreshA M1 s1.h.nx/\(∀ r,RdR M s.rd r->RdR M1 s1.rd r)/\Wid (OwnP M s.h) (OwnP M1 s1.h)/\∀ id,id < n0->M1 id=M id
theorem tri_loop {c:Code}{K:AX->St->Prop}(n0:Nat)(I:Nat->St->Prop)(hn:∀ n s,I n s->n0<=s.h.nx)(hb:∀ n s,I n s->TriC P c s λ x s'=>match x with | .nm=>∃ m,m < n/\SubE n0 s' (I m) | _=>K x s'):∀ n s,I n s->TriB P (.loop c) n0 s K:=by
 intro n s hi M act w r Q st rd fr q
 refine wpIn_loop_rounds (n + 1) ?_
 induction n using Nat.strongRecOn generalizing s M act w with
 | _ n ih=>
   rw [roundsIn_succ]
   refine hb n s hi M act w r _ st rd fr λ x s' M' a' w' hk st' rd' fr' f' k'=>?_
   have h0:=hn n s hi
   have k0:n0<=s'.h.nx/\∀ id,id < n0->M' id=M id:=⟨Nat.le_trans h0 k'.1,λ id hid=>k'.2 id (Nat.lt_of_lt_of_le hid h0)⟩
   cases x with
   | nm=>
     obtain ⟨m,hmn,hsub⟩:=hk
     obtain ⟨s1,M1,hi1,q1,q2,q3,q4,q5⟩:=hsub M' a' w' st' fr'
     have:=ih m hmn s1 hi1 M1 a' w' q1 (q3 r rd') q2 (λ x s2 M2 a2 w2 hk2 st2 rd2 fr2 f2 k2=>q x s2 M2 a2 w2 hk2 st2 rd2 fr2 (f'.trans (f2.more q4)) ⟨k2.1,λ id hid=>(k2.2 id hid).trans ((q5 id hid).trans (k0.2 id hid))⟩)
     exact roundsIn_mono (by omega) this
   | ex id=>exact q _ s' M' a' w' hk st' rd' fr' f' k0
   | rt=>exact q _ s' M' a' w' hk st' rd' fr' f' k0
end
end Go.Proofs.Ytknfdbilpfblnaa.Ex
end
