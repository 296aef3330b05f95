/- The law LinearSound returns true for all events and all numbers, and its arguments read behind the call as they read before. Conditions: none. -/
import Derived.Test.YtknfdbilpfblnaaU8
set_option linter.all false
set_option maxRecDepth 100000
noncomputable section
namespace Go.Proofs.Ytknfdbilpfblnaa.LLinearSound
open Go Go.RowKit Go.WideShapes Go.ChangeShapes Go.Proofs.Ytknfdbilpfblnaa.Ex Go.Proofs.Ytknfdbilpfblnaa.Lw
theorem wf {w:World}{v:Value}(h:OkT w (.ls kEvT) v):wfE (evOf w v) (lenOf v)=true:=by
 refine decide_eq_true λ i hi=>?_
 have key:∃ u,cEv w v i 11=u/\OkT w (.ls [.sc (.int .u64),.sc (.int .u64)]) u:=by
  simp only [OkT] at h
  rcases h with rfl | ⟨a,n,c,rfl,_,_,h⟩
  . exact absurd hi (Nat.not_lt_zero _)
  . have hi:i < n:=hi
    rcases h with h0 | ⟨b,off,rfl,_,cs,e,fr,hb,h⟩
    . omega
    . obtain ⟨u,h1,h2⟩:=okTs_at (j:=11) (h i hi) rfl
      refine ⟨u,?_,h2⟩
      simp only [cEv,cellAt,hb]
      have h1:cs[off + i * 12 + 11]?=some u:=by rw [Nat.zero_add] at h1;exact h1
      rw [<- Nat.add_assoc,h1];rfl
 obtain ⟨u,hu,hk⟩:=key
 show nilOk (nilOf (cEv w v i 11)) (lenOf (cEv w v i 11))=true
 rw [hu]
 unfold nilOk
 rw [yOr_t,yNot_t,yNeq_t]
 cases hn:nilOf u with
 | false=>exact .inl rfl
 | true=>exact .inr (okT_nil hk hn)
theorem wv {w:World}{v:Value}(h:OkT w (.ls kEvT) v):wvE (evOf w v) (lenOf v)=true:=List.all_eq_true.2 λ i hi=>by
 have hi:i < lenOf v:=List.mem_range.1 hi
 have key:∃ u,cEv w v i 6=u/\OkT w (.sc (.int .u64)) u:=by
  simp only [OkT] at h
  rcases h with rfl | ⟨a,n,c,rfl,_,_,h⟩
  . exact absurd hi (Nat.not_lt_zero _)
  . have hi:i < n:=hi
    rcases h with h0 | ⟨b,off,rfl,_,cs,e,fr,hb,h⟩
    . omega
    . obtain ⟨u,h1,h2⟩:=okTs_at (j:=6) (h i hi) rfl
      refine ⟨u,?_,h2⟩
      simp only [cEv,cellAt,hb]
      have h1:cs[off + i * 12 + 6]?=some u:=by rw [Nat.zero_add] at h1;exact h1
      rw [<- Nat.add_assoc,h1];rfl
 obtain ⟨u,hu,hk⟩:=key
 show (Lit.int .u64 (Ex.intOf (cEv w v i 6))).wf=true
 rw [hu]
 simp only [OkT] at hk
 obtain ⟨n,rfl,hn⟩:=hk
 exact hn
theorem calls {w:World}(hg:GW w){v u:Value}(h:OkT w (.ls kEvT) v)(hu:OkT w (.ls kInT) u)(hwf:wfE (evOf w v) (lenOf v)=true)(hwv:wvE (evOf w v) (lenOf v)=true):
 Calls Try.prog 3 #[v,u] w λ e w'=>e=.returned (.bool true)/\Below w.heap.size w w':=
 law_callsP (by kernel_rfl) (okLLw (by kernel_rfl)) hg (args:=[.lst false (nilOf v) 12 (lenOf v) (colF (colsE (evOf w v))),.lst false (nilOf u) 1 (lenOf u) (colF [.int .i64 (inOf w u)])]) (us:=[v,u]) ⟨_,_,evOf_R (okT_R _ _ h).1,⟨_,_,inOf_R (okT_R _ _ hu).1,rfl,rfl⟩,rfl⟩ (by
  have h1:yNle (lenOf v) 9223372036854775807=true:=by rw [yNle_t];exact evOf_len h
  have h3:yNle (lenOf u) 9223372036854775807=true:=by rw [yNle_t];exact okT_len hu
  have h2:=@goalLw_ok
  unfold goalLw at h2
  exact @h2 (evOf w v) (nilOf v) (lenOf v) (nilOf u) (lenOf u) (inOf w u) h1 h3 hwf hwv plainLs plainLc fdN_le)
theorem lifted (os:Os)(started:os.Started)(H:Type)(enc:TypeId × Value->H):
 ReturnsInHanded {} Try.checked os 3 .any (Rows.linearSoundSpec.pre6 enc Try.prog Try.f3 Rows.linearSoundRow.domain false) (Rows.linearSoundSpec.post enc Try.prog Try.f3 false true false false):=by
 refine returnsInHanded_of_change (C:=Try.checked) own started (by kernel_rfl) Try.func3
  (ChangeSpec.witness6 (enc:=enc) (C:=Try.checked) false ⟨#[],#[.slice none 0 0,.slice none 0 0],[]⟩ 8 (by kernel_rfl) (by kernel_rfl) (by kernel_rfl) (by kernel_rfl)) ?_
 intro W base args ds gs before hval0 hW hcnd _
 have hval:∀ (j:Nat) t v,Try.f3.params[j]?=some t->args[j]?=some v->Value.okWide Try.prog W .any base t v:=hval0
 have hW':=hW
 obtain ⟨p,q,hA0,hV,rfl,hfz,hnd⟩:=hW
 have hA:DataW.TrodAll enc Try.prog W 0 (λ _=>true) true Try.f3.params.toList args.toList ds p:=hA0
 rw [Try.params3] at hA hval
 obtain ⟨v0,v1,d0,d1,p0,p1,rfl,rfl,rfl,h0,h1⟩:=trodAll_two hA
 obtain ⟨rfl,rfl⟩:=trodVars_none hV
 have hs:v0.cells=#[v0]:=by obtain ⟨a,n,c,rfl⟩:=okWide_slice Try.underlying22 (hval 0 22 v0 rfl rfl);rfl
 have hs1:v1.cells=#[v1]:=by obtain ⟨a,n,c,rfl⟩:=okWide_slice Try.underlying23 (hval 1 23 v1 rfl rfl);rfl
 have gw:GW W:=gw_none (λ _=>rfl)
 have kt:ktsOf Try.prog 10 22=some [.ls kEvT]:=by kernel_rfl
 have kt1:ktsOf Try.prog 10 23=some [.ls kInT]:=by kernel_rfl
 obtain ⟨fuel,h0'⟩:=h0
 obtain ⟨fuel1,h1'⟩:=h1
 rw [hs] at h0'
 rw [hs1] at h1'
 have hk:=trod_kts gw (by simp [GLos,GLo,GLT,kEvT,GL]) kt rfl h0'
 have hk1:=trod_kts gw (by simp [GLos,GLo,GLT,kInT,GL]) kt1 rfl h1'
 obtain ⟨u,hu,hk⟩:=okTs_at (j:=0) hk rfl
 obtain rfl:v0=u:=by simpa using hu
 obtain ⟨u1,hu1,hk1⟩:=okTs_at (j:=0) hk1 rfl
 obtain rfl:v1=u1:=by simpa using hu1
 refine (calls gw hk hk1 (wf hk) (wv hk)).mono λ e W' ⟨he,hb⟩=>?_
 subst he
 exact ⟨_,rfl,law_post hW' rfl rfl Try.underlying4 rfl laidOut (by
  rw [Try.params3]
  intro t ht
  simp only [List.mem_cons,List.not_mem_nil,or_false] at ht
  rcases ht with rfl | rfl <;> exact ⟨by kernel_rfl,of_decide_eq_true (by kernel_rfl)⟩) hb⟩
theorem holds:Rows.LinearSoundSaid:=
 OpenClaim.holds_of_wide 3 Try.f3 rfl rfl rfl rfl rfl rfl rfl ⟨rfl,rfl,rfl,rfl,rfl⟩ rfl rfl rfl rfl rfl (by kernel_rfl) Try.func3 (by kernel_rfl)
  (of_decide_eq_true (by kernel_rfl)) (by unfold Func.isWrapper;first | (rw [if_pos (by decide +kernel)];kernel_rfl) | (rw [if_neg (by decide +kernel)];exact ⟨rfl,rfl⟩))
  (λ os started H enc _=>lifted os started H enc)
#print axioms holds
end Go.Proofs.Ytknfdbilpfblnaa.LLinearSound
