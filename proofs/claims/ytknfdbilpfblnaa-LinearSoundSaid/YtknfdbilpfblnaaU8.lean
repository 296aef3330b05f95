/- The texts CmW, CKy, CFi, CFr, CLw, RunL, CLwS, PlF, CLr: slices.Compact of numbers: its walk, and as a contract. Contracts: slices.Sort of numbers, linear.Keys. Contract: linear.Find: which order is found, or which error. (*linear.search).from, from the .. -/
import Derived.Shelf.RegionOpenPlain
import Derived.WalkKit
import Derived.Deep.LoopGhost
import Derived.Deep.Draws
import Derived.Lib.Walk
import Derived.Sort.WalkB12
import Derived.Lib.SliceRun
import Derived.Lib.SlicesS
import Derived.Lib.SlicesCompact
import Derived.Test.YtknfdbilpfblnaaU7
set_option linter.all false
set_option maxRecDepth 100000
section
noncomputable section
namespace Go.Proofs.Ytknfdbilpfblnaa
open Go Go.RowKit Go.Lib Go.Sort
abbrev encU:Int->Value:=λ x=>Value.int .u64 x
theorem store_world_u64 {w wr:World}{n blk off:Nat}{dk:Array Int}{i:Nat}(hi:i < dk.size)(hwr:wr=putRow encU (Sort.ahead w n) blk off dk)(x:Int):
 (wr.setCell ⟨blk,off + i,none⟩ (encU x)).drew=putRow encU (Sort.ahead w (n + 1)) blk off (dk.setIfInBounds i x):=by
 subst hwr
 rw [putRow_set encU _ blk off dk i x hi,<- ahead_drew]
 rfl
set_option maxHeartbeats 4000000 in
set_option maxRecDepth 1000000 in
theorem compact_u64 (mixed:Try.prog.follows .mixedOrders=true)(blk off cap:Nat)(d:Array Int)(w:World)(hH:Holds encU w blk off d)(hsz:d.size<=9223372036854775807)(hcap:d.size<=cap):
 Calls Try.prog 35 #[.slice (some ⟨blk,off,none⟩) d.size cap] w λ e w'=>e=.returned (.slice (some ⟨blk,off,none⟩) (compactUpTo d d.size).length cap)/\∃ q,w'=putRow encU (Sort.ahead w q) blk off (compactUpTo d d.size ++ List.replicate (d.size - (compactUpTo d d.size).length) 0).toArray:=by
 have same:∀ q,(∀ j,j < d.size->keeps d j=true)->(compactUpTo d d.size).length=d.size/\w.drewN q=putRow encU (Sort.ahead w q) blk off (compactUpTo d d.size ++ List.replicate (d.size - (compactUpTo d d.size).length) 0).toArray:=by
  intro q hall
  have e:compactUpTo d d.size=d.toList:=by rw [compactUpTo_all d _ hall,range_map_get]
  rw [e]
  refine ⟨by simp,?_⟩
  simp only [Array.length_toList,Nat.sub_self,List.replicate_zero,List.append_nil,Array.toArray_toList]
  exact (putRow_self encU (Sort.ahead w q) blk off d (holds_ahead encU w q blk off d hH)).symm
 have HS:Aside (∀ q,(∀ j,j < d.size->keeps d j=true)->(compactUpTo d d.size).length=d.size/\w.drewN q=putRow encU (Sort.ahead w q) blk off (compactUpTo d d.size ++ List.replicate (d.size - (compactUpTo d d.size).length) 0).toArray):=same
 clear same
 by_cases h2:d.size < 2
 . have HH:Aside (Holds encU w blk off d):=hH
   clear hH
   go_enter Try.func35,Try.ntmps35
   go_wp2
   go_ret
   obtain ⟨e1,e2⟩:=HS.out 0 (λ j hj=>keeps_lt_one d j (by omega))
   exact ⟨by rw [e1];rfl,0,e2⟩
 . go_enter Try.func35,Try.ntmps35
   go_wp2
   go_loopg [3] d.size (λ g s3 wr=>∃ k q:Nat,1<=k/\k<=d.size/\d.size - k<=g/\s3=.int .i64 k/\wr=w.drewN q/\∀ j,j < k->keeps d j=true)
   case atStart=>exact ⟨1,0,Nat.le_refl _,by omega,by omega,rfl,rfl,keeps_lt_one d⟩
   case round=>
    obtain ⟨k,q,hk1,hk,hg,rfl,rfl,hall⟩:=hrel
    by_cases hlt:k < d.size
    . obtain ⟨c1,f1⟩:=hH k hlt
      obtain ⟨c0,f0⟩:=hH (k - 1) (by omega)
      have A:Aside (∀ j,j < k->keeps d j=true):=hall
      have HH:Aside (Holds encU w blk off d):=hH
      clear hall hH
      generalize hx:d[k]! = x at c1
      generalize hy:d[k - 1]! = y at c0
      have B:Aside (d[k]! = x/\d[k - 1]! = y):=⟨hx,hy⟩
      clear hx hy
      by_cases hdup:x=y
      . subst hdup
        go_wp2_with fail
        go_region_o
        go_wp2
        clear c0 c1 f0 f1
        go_loopg [3,5] d.size (λ g s3 s5 wr=>∃ (kk k2 q2:Nat) (dk:Array Int),s3=.int .i64 kk/\s5=.int .i64 k2/\1<=k2/\k + k2<=d.size/\d.size - (k + k2)<=g/\wr=putRow encU (Sort.ahead w q2) blk off dk/\CompInv d (k + k2) kk dk)
        case atStart=>exact ⟨k,1,q + 1,d,rfl,rfl,Nat.le_refl _,by omega,by omega,(putRow_self encU (Sort.ahead w (q + 1)) blk off d (holds_ahead encU w (q + 1) blk off d HH.out)).symm,CompInv.start A.out (keeps_neg (by omega) (by rw [B.out.1,B.out.2]))⟩
        case round=>
         obtain ⟨kk,k2,q2,dk,rfl,rfl,h1,hle,hg2,hwr,hI⟩:=hrel
         have hkk:=hI.lt
         have hds:=hI.size
         have hHk:Holds encU wr blk off dk:=by rw [hwr];exact holds_putRow encU _ blk off d dk (holds_ahead encU w q2 blk off d HH.out) hds
         have W2:Aside (wr=putRow encU (Sort.ahead w q2) blk off dk):=hwr
         have I2:Aside (CompInv d (k + k2) kk dk):=hI
         clear hwr
         by_cases hlt2:k + k2 < d.size
         . obtain ⟨cm,_⟩:=hHk (k + k2) (by omega)
           obtain ⟨cp,_⟩:=hHk (k + k2 - 1) (by omega)
           obtain ⟨ck,fk⟩:=hHk kk (by omega)
           rw [hI.high (k + k2) (by omega),show off + (k + k2)=off + k + k2 by omega] at cm
           rw [hI.high (k + k2 - 1) (by omega),show off + (k + k2 - 1)=off + k + (k2 - 1) by omega] at cp
           clear hHk hI
           generalize hu:d[k + k2]! = u at cm
           generalize hv:d[k + k2 - 1]! = v at cp
           generalize dk[kk]! = old at ck
           have C:Aside (d[k + k2]! = u/\d[k + k2 - 1]! = v):=⟨hu,hv⟩
           clear hu hv
           by_cases huv:u=v
           . subst huv
             go_wp2_with fail
             go_region_o
             go_wp2
             go_roundg (d.size - (k + (k2 + 1)))
             case measure=>omega
             case rel=>exact ⟨kk,k2 + 1,q2 + 1,dk,rfl,by go_num,by omega,by omega,Nat.le_refl _,by rw [W2.out];rfl,I2.out.skip (keeps_neg (by omega) (by rw [C.out.1,C.out.2]))⟩
           . go_wp2_with fail
             go_region_o
             go_wp2
             go_roundg (d.size - (k + (k2 + 1)))
             case measure=>omega
             case rel=>exact ⟨kk + 1,k2 + 1,q2 + 1,dk.setIfInBounds kk u,by go_num,by go_num,by omega,by omega,Nat.le_refl _,store_world_u64 (by omega) W2.out u,by have:=I2.out.keep hlt2 (keeps_pos (by rw [C.out.1,C.out.2];exact huv));rwa [C.out.1] at this⟩
         . have hend:k + k2=d.size:=by omega
           have hcl:∀ ty,(Builtin.clear_ #[52] ty #[.slice (some ⟨blk,off + kk,none⟩) (d.size - kk) (cap - kk)]).run Try.prog wr=.ok (.tuple #[]) (wr.setCells blk (off + kk) (List.replicate (d.size - kk) (encU 0))):=
            λ ty=>Lib.run_clear_slice wr _ _ ty _ Try.underlying52 (λ w=>by kernel_rfl) rfl rfl blk (off + kk) _ _ (by omega) (λ j hj=>by rw [show off + kk + j=off + (kk + j) by omega,(hHk (kk + j) (by omega)).1];rfl) (λ j hj=>by rw [show off + kk + j=off + (kk + j) by omega];exact (hHk (kk + j) (by omega)).2)
           clear hHk hI
           go_wp2
           go_ret
           have hI:=I2.out
           rw [hend] at hI
           refine ⟨by rw [hI.len];rfl,q2,?_⟩
           rw [hI.len,<- hI.done 0,<- putRow_setCells encU _ blk off _ dk kk (by simp;omega),<- W2.out,List.map_replicate]
      . go_wp2_with fail
        go_region_o
        go_wp2
        go_roundg (d.size - (k + 1))
        case measure=>omega
        case rel=>
         refine ⟨k + 1,q + 1,by omega,by omega,Nat.le_refl _,by go_num,rfl,λ j hj=>?_⟩
         by_cases e:j=k
         . subst e
           exact keeps_pos (by rw [B.out.1,B.out.2];exact hdup)
         . exact A.out j (by omega)
    . have:k=d.size:=by omega
      subst this
      have HH:Aside (Holds encU w blk off d):=hH
      clear hH
      go_wp2
      go_ret
      obtain ⟨e1,e2⟩:=HS.out q hall
      exact ⟨by rw [e1];rfl,q,e2⟩
set_option maxHeartbeats 1000000 in
theorem compact_none (a:Option Addr)(cap:Nat)(w:World):
 Calls Try.prog 35 #[.slice a 0 cap] w λ e w'=>e=.returned (.slice a 0 cap)/\w'=w:=by
 go_enter Try.func35,Try.ntmps35
 go_wp2
 go_ret
 exact ⟨rfl,rfl⟩
theorem putRow_heap (w:World)(b q:Nat)(d:Array Int)(cs:Array Value)(e:TypeId)(fr:Nat × Nat)(h:w.heap[b]?=some (.cells cs e fr)):(putRow encU (Sort.ahead w q) b 0 d).heap[b]?=some (.cells (putCells encU 0 d cs) e fr):=by
 simp [putRow,mapBlock,Sort.ahead,Array.getElem?_modify,h,onCells]
theorem putRow_kp (w:World)(b q:Nat)(d:Array Int):Kp (λ k=>k=b) w (putRow encU (Sort.ahead w q) b 0 d):=
 ⟨rfl,rfl,rfl,by simp,λ k _ hk=>by
  have hk:¬ b=k:=λ e=>hk e.symm
  simp [putRow,mapBlock,Sort.ahead,Array.getElem?_modify,hk]⟩
theorem putCells_size (d:Array Int)(cs:Array Value):(putCells encU 0 d cs).size=cs.size:=by simp [putCells]
theorem putCells_get (d:Array Int)(cs:Array Value){p:Nat}(hp:p < d.size)(hc:d.size<=cs.size):(putCells encU 0 d cs)[p]?=some (encU d[p]!):=by
 simp [putCells,hp,show p < cs.size by omega]
theorem compact_len (d:Array Int):(compactUpTo d d.size).length<=d.size/\(0 < d.size->0 < (compactUpTo d d.size).length):=by
 constructor
 . have:=List.length_filter_le (keeps d) (List.range d.size)
   simpa [compactUpTo] using this
 . intro h
   obtain ⟨m,hm⟩:∃ m,d.size=m + 1:=⟨d.size - 1,by omega⟩
   have h0:0 ∈ (List.range d.size).filter (keeps d):=List.mem_filter.2 ⟨List.mem_range.2 h,by simp [keeps]⟩
   have h1:=List.length_pos_of_mem h0
   simpa [compactUpTo] using h1
end Go.Proofs.Ytknfdbilpfblnaa
namespace Go.Proofs.Ytknfdbilpfblnaa.Ex
open Go Go.RowKit Go.Lib Go.Sort
theorem cmp_array (n:Nat)(d:Nat->Int):(Lib.compact ((List.range n).map d))=compactUpTo ((List.range n).map d).toArray ((List.range n).map d).toArray.size:=by simp [Lib.compact]
theorem smCmp (mixed:Try.prog.follows .mixedOrders=true):SmCall Try.prog 35 (λ args h=>(cmA args h).sel):=by
 intro args h v h' hg
 simp only [cmA] at hg
 split at hg
 case h_2=>cases hg
 rename_i nil id z n
 split at hg
 case h_2=>cases hg
 rename_i e z' n' f hgi
 simp only [Bool.cond_eq_ite] at hg
 split at hg
 case isFalse=>cases hg
 rename_i hc
 simp only [Bool.and_eq_true,nbeq,decide_eq_true_eq] at hc
 obtain ⟨⟨rfl,rfl⟩,rfl⟩:=hc
 obtain ⟨p1,g1⟩:=T.sel_must hg
 clear hg
 obtain rfl:n=n':=of_decide_eq_true p1
 obtain ⟨p3,g2⟩:=T.sel_must g1
 obtain ⟨p2,g3⟩:=T.sel_must g2
 clear g1 g2
 have p3:n<=1000000000:=of_decide_eq_true p3
 rcases T.sel_br g3 with ⟨hn,hg⟩ | ⟨hn,hg⟩ <;> clear g3
 rotate_left
 . have hn0:n=0:=by
    have:¬ 0 < n:=of_decide_eq_false hn
    omega
   subst hn0
   have hg:=T.sel_ret hg
   simp only [Prod.mk.injEq] at hg
   obtain ⟨rfl,rfl⟩:=hg
   refine ⟨⟨Nat.le_refl _,Ab.refl _⟩,λ M us w r R ra rr fr k'=>⟨enter_of Try.func35 (by kernel_rfl) (by kernel_rfl) _ _,?_⟩⟩
   simp only [AV.RL] at ra
   obtain ⟨S,_,rS,rfl,rfl⟩:=ra
   have hS:∃ a c,S=.slice a 0 c:=by
    have rS:=rS
    simp only [AV.R] at rS
    rcases rS with ⟨_,_,e⟩ | ⟨_,_,a,c,e,_⟩ | ⟨_,b,κ,c,_,_,_,h0,_⟩
    . exact ⟨_,_,e⟩
    . exact ⟨_,_,e⟩
    . omega
   obtain ⟨a,c,rfl⟩:=hS
   refine (callsIn_wide (n:=0)).2 ((compact_none a c w).mono λ e w' ⟨he,hw⟩=>?_)
   subst he hw
   exact k' M _ _ rS rr (Fr.same _ _ _) (Ab.refl _)
 have hn:0 < n:=of_decide_eq_true hn
 split at hg
 case h_2=>cases hg
 rename_i h1 hd
 split at hg
 case h_2=>cases hg
 rename_i h2 hnw
 have e3:=T.sel_ret hg
 simp only [Prod.mk.injEq] at e3
 obtain ⟨rfl,rfl⟩:=e3
 have hnx1:=(AH.put_nx hd).1
 have hnx2:=(AH.new_nx hnw).1
 have hab:Ab h h2:=(del_ab hd).trans (new_ab hnw)
 refine ⟨⟨by omega,hab⟩,λ M us w r R ra rr fr k'=>⟨enter_of Try.func35 (by kernel_rfl) (by kernel_rfl) _ _,?_⟩⟩
 simp only [AV.RL] at ra
 obtain ⟨S,_,rS,rfl,rfl⟩:=ra
 have hfr:M h1.nx=none:=fr h1.nx (by omega) (by omega)
 simp only [AV.R] at rS
 rcases rS with ⟨_,h0,_⟩ | ⟨_,h0,_⟩ | ⟨rfl,b,κ',κ,hM,rfl,hle,_,hκ⟩
 . omega
 . omega
 obtain ⟨hκ1,hκ2⟩:=hκ trivial
 obtain ⟨ob,hb,cs,rfl,hcs,hnκ,q⟩:=Ob_of rr hgi hM
 have hcell:∀ i,i < n->cs[i]?=some (.int .u64 (toI (f i 0))):=λ i hi=>by
  obtain ⟨u,u1,u2,u3⟩:=q i hi 0 (by omega)
  have hk:=yCol_ok.1 p2 i hi
  have hk:(match yI (f i 0) with | some (k',_)=>eqK .u64 k' | none=>false)=true:=hk
  cases hy:yI (f i 0) with
  | none=>rw [hy] at hk;cases hk
  | some y=>
    obtain ⟨k1,x⟩:=y
    rw [hy] at hk
    have hk1:k1=.u64:=(eqK_eq hk).symm
    subst hk1
    have e1:=yI_ok hy u3
    have e2:toI (f i 0)=x:=by unfold toI;rw [hy]
    rw [e2]
    rw [show i * 1 + 0=i by omega] at u1
    rw [u1,e1]
 obtain ⟨D,hD⟩:∃ D:Array Int,D=((List.range n).map λ i=>toI (f i 0)).toArray:=⟨_,rfl⟩
 have hDn:D.size=n:=by rw [hD];simp
 have hDg:∀ j,j < n->D[j]! = toI (f j 0):=λ j hj=>by rw [hD];simp [hj]
 have hH:Holds encU w b 0 D:=λ j hj=>by
  rw [hDn] at hj
  rw [hDg j hj]
  constructor
  . simp [World.cell?,hb,hcell j hj]
  . simp [World.frozen?,hb]
 have h9:=compact_u64 mixed b 0 κ D w hH (by omega) (by omega)
 rw [hDn] at h9
 have hl:=compact_len D
 rw [hDn] at hl
 obtain ⟨hl1,hl2⟩:=hl
 have hl2:=hl2 hn
 have hN:cmpuN n (λ i=>toI (f i 0))=(compactUpTo D n).length:=by
  unfold cmpuN cmpU
  rw [cmp_array,<- hD,hDn]
 have hF:∀ p,p < (compactUpTo D n).length->cmpuF n (λ i=>toI (f i 0)) p=(compactUpTo D n).getD p 0:=λ p _=>by
  unfold cmpuF cmpU
  rw [cmp_array,<- hD,hDn]
 have hE:∀ p,p < (compactUpTo D n).length->((compactUpTo D n ++ List.replicate (n - (compactUpTo D n).length) 0).toArray)[p]! = (compactUpTo D n).getD p 0:=λ p hp=>by
  rw [getElem!_pos _ p (by simp;omega)]
  simp [List.getElem_append_left hp,hp]
 have hEn:(compactUpTo D n ++ List.replicate (n - (compactUpTo D n).length) 0).toArray.size=n:=by simp;omega
 generalize hL:compactUpTo D n=L at *
 generalize (L ++ List.replicate (n - L.length) 0).toArray=E at *
 refine (callsIn_wide (n:=0)).2 ?_
 have e0:(Value.slice (some ⟨b,(if false=true then κ' else 0) + 0 * 1,none⟩) n κ)=.slice (some ⟨b,0,none⟩) n κ:=rfl
 rw [e0]
 refine h9.mono λ e w' ⟨he,qq,hw⟩=>?_
 subst he hw
 have hle2:Le M (updM M h1.nx (b,cs.size)):=Le_updM hfr
 have hkp:=putRow_kp w b qq E
 have hat:=putRow_heap w b qq E cs _ _ hb
 have hsz:=putCells_size E cs
 have hnc:n<=cs.size:=by omega
 obtain ⟨q1,q2,q3⟩:=turn_ok (κ:=cs.size) (d:=b) (S:=λ k=>k=b) rr hgi rfl (λ k hk=>⟨κ',by rw [hk];exact hM⟩) hd hnw hfr (ob:=.cells (putCells encU 0 E cs) 34 (0,0)) ⟨_,rfl,by omega,by rw [hN];omega,λ p hp j hj=>by
  rw [hN] at hp
  obtain rfl:j=0:=by omega
  refine ⟨_,by rw [show p * 1 + 0=p by omega];exact putCells_get E cs (by omega) (by omega),rfl,?_⟩
  show _=Value.int .u64 (cmpuF n (λ i=>toI (f i 0)) p)
  rw [hF p hp,hE p hp]⟩ (.inl rfl) hat hkp.os hkp.tape hkp.output hkp.size (λ b hb hs=>hkp.block b hb hs)
 exact k' _ _ _ (by
  simp only [AV.R]
  refine .inr (.inr ⟨trivial,b,cs.size,κ,by simp [updM],?_,by rw [hN];omega,by rw [hN];exact hl2,λ _=>⟨by omega,by rw [hN];omega⟩⟩)
  rw [hN];rfl) q1 q2 q3
def srD (n:Nat)(d:Nat->Int):Nat->Int:=pdC 201 0 (n:Int) (lnF (n:Int)) d
def preSr (n:Nat):Bool:=decide (n<=200)
def fSr (ds:List Dx):Option (Bool × Dx × List (List Dx)):=
 match ds with
 | [.rows nl n [.int .u64 d]]=>some (preSr n,.l [],[[.rows nl n [.int .u64 (srD n d)]]])
 | _=>none
def lSr:List (Nat × Sm):=[(66,.ct (ctX [.sc] .sc fLn6)),(65,.ct (ctX [mU,.sc,.sc,.sc] (.tup []) (fPd 201)))]
def goalSrt:Prop:=∀ (nl:Bool) (n:Nat) (d:Nat->Int),preSr n=true →
 wxH Try.prog (smL lSr) (λ _=>none) 34 [mU] [.rows nl n [.int .u64 d]] (.tup []) (.l []) [[.rows nl n [.int .u64 (srD n d)]]]
def goalSrtV:Prop:=(∀ (nl:Bool) (n:Nat) (d:Nat->Int),preSr n=true->mst (preLn (yWrap .u64 (yInt n))) (mst (yNeq 0 0) (mst (yNeq n n) (mst (yCol (CK.int .u64) n λ (i:Nat)=>AV.y .u64 (d i)) (mst (prePd 201 n 0 (yInt n) (lnF (yWrap .u64 (yInt n)))) (n=n/\(∀ (i:Nat),Nat.succ i<=n->srD n d i=pdC 201 0 (yInt n) (lnF (yWrap .u64 (yInt n))) d i/\True)/\true=true))))))
theorem goalSrt_eq:goalSrt=goalSrtV:=by kernel_rfl
set_option maxHeartbeats 8000000 in
theorem goalSrt_vc:goalSrtV:=by
 unfold goalSrtV
 intro nl n d hp
 have hp:n<=200:=of_decide_eq_true hp
 have l:=ln_at (x:=(n:Int)) (by omega) (by omega)
 have w:yWrap .u64 (yInt n)=(n:Int):=wrapUs (Int.natCast_nonneg _) (show (n:Int)<=9000000 by omega)
 rw [w]
 refine mstI (preLn_t (by omega) (by omega)) (mstI rfl (mstI (decide_eq_true rfl) (mstI yCol_int (mstI (prePd_t (N:=201) hp (Int.le_refl _) (Int.natCast_nonneg _) (Int.le_refl _) l.1 (by omega) (by show (n:Int) - 0 < (201:Nat);omega)) ⟨rfl,λ q _=>⟨rfl,trivial⟩,rfl⟩))))
theorem goalSrt_tt:(goalSrt)=True:=goalSrt_eq.trans (eq_true goalSrt_vc)
theorem goalSrt_ok:goalSrt:=@ft' goalSrt goalSrt_tt
theorem srD_small {n:Nat}(h:n<=12)(d:Nat->Int):srD n d=insS 0 d (n - 1):=by
 have e:pdW 200 0 (n:Int) (lnF (n:Int)) d=⟨0,n,lnF (n:Int),true,true,d⟩:=whP_out (decide_eq_false λ x=>by
  have x1:(12:Int) < (n:Int) - 0:=x.1
  omega) _
 show pdZ (pdW 200 0 (n:Int) (lnF (n:Int)) d)=_
 rw [e]
 exact if_pos (show (n:Int) - 0<=12 by omega)
theorem smSrt (hm:Try.prog.follows .mixedOrders=true):SmCall Try.prog 34 (λ args h=>(ctX [mU] (.tup []) fSr args h).sel):=
 ctX_ok hm (smL_ok (l:=lSr) ⟨smLn6 hm,smPd hm 201,trivial⟩) (λ ds r post h=>by
  unfold fSr at h
  split at h
  . rename_i nl n d
    simp only [sI,Prod.mk.injEq] at h
    obtain ⟨h1,rfl,rfl⟩:=h
    have g:=@goalSrt_ok
    unfold goalSrt at g
    exact ⟨λ _=>none,1000,@g nl n d h1⟩
  . cases h)
def nsC (E:EvS)(n i:Nat):List Nat:=(List.range i).filter λ j=>decide (eOk E (gEv E n j) ≠ 4)
def nsN (E:EvS)(n i:Nat):Nat:=(nsC E n i).length
def nsX (E:EvS)(n q:Nat):Nat:=(nsC E n (resN E n)).getD q 0
def kyD (E:EvS)(n q:Nat):Int:=eKey E (gEv E n (nsX E n q))
def kyN (E:EvS)(n:Nat):Nat:=cmpuN (nsN E n (resN E n)) (srD (nsN E n (resN E n)) (kyD E n))
def kyF (E:EvS)(n:Nat):Nat->Int:=cmpuF (nsN E n (resN E n)) (srD (nsN E n (resN E n)) (kyD E n))
theorem nsC_succ (E:EvS)(n i:Nat):nsC E n (i + 1)=nsC E n i ++ (if eOk E (gEv E n i) ≠ 4 then [i] else []):=by
 unfold nsC
 rw [List.range_succ,List.filter_append]
 congr 1
 by_cases h:eOk E (gEv E n i)=4 <;> simp [h]
theorem nsN_hit {E:EvS}{n i:Nat}(h:eOk E (gEv E n i) ≠ 4):nsN E n (i + 1)=nsN E n i + 1:=by
 unfold nsN;rw [nsC_succ,if_pos h];simp
theorem nsN_miss {E:EvS}{n i:Nat}(h:eOk E (gEv E n i)=4):nsN E n (i + 1)=nsN E n i:=by
 unfold nsN;rw [nsC_succ,if_neg (λ x=>x h)];simp
theorem nsC_pre (E:EvS)(n i:Nat):∀ k,∃ r,nsC E n (i + k)=nsC E n i ++ r
 | 0=>⟨[],by simp⟩
 | k + 1=>by
   obtain ⟨r,h⟩:=nsC_pre E n i k
   exact ⟨_,by rw [<- Nat.add_assoc,nsC_succ,h,List.append_assoc]⟩
theorem nsX_hit {E:EvS}{n i:Nat}(hi:i < resN E n)(h:eOk E (gEv E n i) ≠ 4):nsX E n (nsN E n i)=i:=by
 obtain ⟨r,hr⟩:=nsC_pre E n (i + 1) (resN E n - (i + 1))
 rw [show i + 1 + (resN E n - (i + 1))=resN E n by omega,nsC_succ,if_pos h] at hr
 unfold nsX nsN
 rw [hr]
 simp [List.getD_eq_getElem?_getD]
theorem nsN_le (E:EvS)(n i:Nat):nsN E n i<=i:=by
 have:=List.length_filter_le (λ j=>decide (eOk E (gEv E n j) ≠ 4)) (List.range i)
 simpa [nsN,nsC] using this
theorem resN_le {E:EvS}{n:Nat}(hpre:preE E n=true):resN E n<=200:=by
 have h1:=(gInv E n).le
 have h1:gN E n<=n:=h1
 have h2:=(of_decide_eq_true hpre).1
 unfold resN
 cases gOk E n <;> simp <;> omega
def prKy (E:EvS)(n i:Nat):Prop:=i<=resN E n
def mKy (E:EvS)(n i:Nat):Nat:=resN E n - i
def annKy (E:EvS)(n:Nat)(b:Nat):Option (St->LoopA):=
 match b with
 | 1000=>some λ z=>{ ι:=Nat,tms:=[7],tmU:=λ i=>[.y .i64 (yInt i)],ids:=[0,z.h.nx],hpU:=λ i=>[.cells [.ysl false (yNeq (nsN E n i) 0) z.h.nx 1 0 (nsN E n i)] 52 none,.arr false 34 1 (nsN E n i) (colF [.int .u64 (kyD E n)])],del:=[],ex:=1,pre:=prKy E n,ms:=mKy E n }
 | _=>none
def lKy:List (Nat × Sm):=[(36,.ct (ctX [sEv] rCl fCl)),(34,.ct (ctX [mU] (.tup []) fSr)),(35,.ct cmA)]
def goalKy:Prop:=∀ (E:EvS) (nil:Bool) (n:Nat),preE E n=true->wfE E n=true->wxH Try.prog (smL lKy) (annKy E n) 17 [sEv] [.rows nil n (colsE E)] (.own 34 [.int .u64]) (.rows (yNeq (nsN E n (resN E n)) 0) (kyN E n) [.int .u64 (kyF E n)]) []
def goalKyV:Prop:=(∀ (E:EvS) (nil:Bool) (n:Nat),preE E n=true->wfE E n=true->mst (yCol (CK.int .i64) n λ (i:Nat)=>AV.y .i64 (eKd E i)) (mst (yCol (CK.int .i64) n λ (i:Nat)=>AV.y .i64 (eTh E i)) (mst (yCol (CK.int .i64) n λ (i:Nat)=>AV.y .i64 (eId E i)) (mst (yCol (CK.int .i64) n λ (i:Nat)=>AV.y .i64 (eAt E i)) (mst (yCol (CK.int .i64) n λ (i:Nat)=>AV.y .i64 (eOk E i)) (mst (yCol (CK.int .u64) n λ (i:Nat)=>AV.y .u64 (eKey E i)) (mst (yCol (CK.int .u64) n λ (i:Nat)=>AV.y .u64 (eVal E i)) (mst (yCol (CK.int .u64) n λ (i:Nat)=>AV.y .u64 (eHi E i)) (mst (yCol (CK.int .i64) n λ (i:Nat)=>AV.y .i64 (eMost E i)) (mst (yCol (CK.int .i64) n λ (i:Nat)=>AV.y .i64 (eRk E i)) (mst (yCol (CK.int .u64) n λ (i:Nat)=>AV.y .u64 (eRv E i)) (mst (yCol (CK.ls [K1.int .u64,K1.int .u64]) n λ (i:Nat)=>AV.lst false (eNil E i) 2 (ePn E i) (cl2F [Cl2.int .u64 (ePk E),Cl2.int .u64 (ePv E)] i)) (mst (yAnd (preE E n) (wfE E n)) (true=true/\(∃ (i0:Nat),prKy E n i0/\true=true/\yInt i0=(0:Int)/\yNeq (nsN E n i0) (nat_lit 0)=true/\nsN E n i0=nat_lit 0/\nsN E n i0=nat_lit 0/\true=true/\true=true)/\∀ (g:Nat->AV) (i:Nat),prKy E n i->(yLt (yInt i) (yInt (resN E n))=true->mst (yIn (yInt i) (resN E n)) (mst (yNlt (yNadd 0 (yNat (yInt i))) (resN E n)) ((yNot (yEq (eOk E (gEv E n (yNadd 0 (yNat (yInt i))))) 4)=true->mst (yNeq (nsN E n i) (nsN E n i)) (mst (yGrow (yNadd (nsN E n i) 1) 8) (true=true/\∃ (i':Nat),prKy E n i'/\Nat.succ (mKy E n i')<=mKy E n i/\true=true/\yInt i'=yWrap .i64 (yAdd (yInt i) 1)/\yNeq (nsN E n i') (nat_lit 0)=yAnd (yNeq (nsN E n i) 0) (yNeq 1 0)/\nat_lit 0=nat_lit 0/\nsN E n i'=yNadd (nsN E n i) 1/\nsN E n i'=yNadd (nsN E n i) 1/\(∀ (i_1:Nat),Nat.succ i_1<=nsN E n i'->kyD E n i_1=ySel (yNlt i_1 (nsN E n i)) (kyD E n i_1) (eKey E (gEv E n (yNadd 0 (yNat (yInt i)))))/\True)/\true=true)))/\(yNot (yEq (eOk E (gEv E n (yNadd 0 (yNat (yInt i))))) 4)=false->true=true/\∃ (i':Nat),prKy E n i'/\Nat.succ (mKy E n i')<=mKy E n i/\true=true/\yInt i'=yWrap .i64 (yAdd (yInt i) 1)/\yNeq (nsN E n i') (nat_lit 0)=yNeq (nsN E n i) 0/\nat_lit 0=nat_lit 0/\nsN E n i'=nsN E n i/\nsN E n i'=nsN E n i/\(∀ (i:Nat),Nat.succ i<=nsN E n i'->kyD E n i=kyD E n i/\True)/\true=true))))/\(yLt (yInt i) (yInt (resN E n))=false->mst (yNeq 0 0) (mst (yNeq (nsN E n i) (nsN E n i)) (mst (yCol (CK.int .u64) (nsN E n i) λ (i:Nat)=>AV.y .u64 (kyD E n i)) (mst (preSr (nsN E n i)) (mst (yNeq (nsN E n i) (nsN E n i)) (mst (yNle (nsN E n i) 1000000000) (mst (yCol (CK.int .u64) (nsN E n i) λ (i_1:Nat)=>AV.y .u64 (srD (nsN E n i) (kyD E n) i_1)) ((yNlt 0 (nsN E n i)=true->yNeq (nsN E n (resN E n)) (nat_lit 0)=yNeq (nsN E n i) 0/\nat_lit 0=nat_lit 0/\(kyN E n=cmpuN (nsN E n i) (srD (nsN E n i) (kyD E n)))/\(kyN E n=cmpuN (nsN E n i) (srD (nsN E n i) (kyD E n)))/\(∀ (i_1:Nat),Nat.succ i_1<=kyN E n->kyF E n i_1=cmpuF (nsN E n i) (srD (nsN E n i) (kyD E n)) i_1/\True)/\true=true)/\(yNlt 0 (nsN E n i)=false->yNeq (nsN E n (resN E n)) (nat_lit 0)=yNeq (nsN E n i) 0/\nat_lit 0=nat_lit 0/\kyN E n=nsN E n i/\kyN E n=nsN E n i/\(∀ (i_1:Nat),Nat.succ i_1<=kyN E n->kyF E n i_1=srD (nsN E n i) (kyD E n) i_1/\True)/\true=true)))))))))))))))))))))))
theorem goalKy_eq:goalKy=goalKyV:=by kernel_rfl
set_option maxHeartbeats 8000000 in
theorem goalKy_vc:goalKyV:=by
 unfold goalKyV
 intro E nil n hpre hwf
 have hcol:∀ m,yCol (.ls [.int .u64,.int .u64]) m (λ i=>AV.lst false (eNil E i) 2 (ePn E i) (cl2F [Cl2.int .u64 (ePk E),Cl2.int .u64 (ePv E)] i))=true:=λ m=>yCol_ok.2 λ i _=>List.all_eq_true.2 λ p _=>rfl
 have hr:=resN_le hpre
 refine mstI yCol_int (mstI yCol_int (mstI yCol_int (mstI yCol_int (mstI yCol_int (mstI yCol_int (mstI yCol_int (mstI yCol_int (mstI yCol_int (mstI yCol_int (mstI yCol_int (mstI (hcol n) (mstI (by rw [hpre,hwf];rfl) ⟨rfl,⟨0,Nat.zero_le _,rfl,rfl,rfl,rfl,rfl,rfl,rfl⟩,λ g i hi=>⟨λ h=>?_,λ h=>?_⟩⟩))))))))))))
 . have h:i < resN E n:=by
    have h9:(i:Int) < (resN E n:Int):=of_decide_eq_true h
    omega
   have e0:yNadd 0 (yNat (yInt i))=i:=Nat.zero_add i
   have hw:yInt (i + 1)=yWrap .i64 (yAdd (yInt i) 1):=by
    show ((i + 1:Nat):Int)=yWrap .i64 ((i:Int) + 1)
    rw [wrap64 (by omega) (by omega)];omega
   have hm:(mKy E n (i + 1)).succ<=mKy E n i:=by unfold mKy;omega
   have hnl:=nsN_le E n i
   refine mstI (yInN h) (mstI (decide_eq_true (by rw [e0];exact h)) ⟨λ h4=>?_,λ h4=>?_⟩)
   . rw [e0] at h4 ⊢
     have h4:eOk E (gEv E n i) ≠ 4:=λ e=>by rw [e] at h4;cases h4
     refine mstI (decide_eq_true rfl) (mstI (yGrow_t.mpr (show 4 * (nsN E n i + 1) * 8<=140737488355328 by omega)) ⟨rfl,i + 1,h,hm,rfl,hw,?_,rfl,nsN_hit h4,nsN_hit h4,λ q hq=>⟨?_,trivial⟩,rfl⟩)
     . rw [nsN_hit h4];exact yN1 _
     . rw [nsN_hit h4] at hq
       show _=ySel _ _ _
       rw [sel2]
       by_cases c:q < nsN E n i
       . rw [if_pos c]
       . rw [if_neg c,show q=nsN E n i by omega]
         unfold kyD
         rw [nsX_hit h h4]
   . rw [e0] at h4
     have h4:eOk E (gEv E n i)=4:=by
      have h9:yEq (eOk E (gEv E n i)) 4=true:=by
       cases hh:yEq (eOk E (gEv E n i)) 4 with
       | true=>rfl
       | false=>rw [hh] at h4;cases h4
      exact of_decide_eq_true h9
     exact ⟨rfl,i + 1,h,hm,rfl,hw,by rw [nsN_miss h4],rfl,nsN_miss h4,nsN_miss h4,λ q _=>⟨rfl,trivial⟩,rfl⟩
 . have hi:i<=resN E n:=hi
   obtain rfl:i=resN E n:=by
    have h9:¬ (i:Int) < (resN E n:Int):=of_decide_eq_false h
    omega
   have hnl:=nsN_le E n (resN E n)
   refine mstI rfl (mstI (decide_eq_true rfl) (mstI yCol_int (mstI (decide_eq_true (by omega)) (mstI (decide_eq_true rfl) (mstI (decide_eq_true (show nsN E n (resN E n)<=1000000000 by omega)) (mstI yCol_int ⟨λ h0=>⟨rfl,rfl,rfl,rfl,λ q _=>⟨rfl,trivial⟩,rfl⟩,λ h0=>?_⟩))))))
   have h0:nsN E n (resN E n)=0:=by
    have h9:¬ 0 < nsN E n (resN E n):=of_decide_eq_false h0
    omega
   have hk:kyN E n=nsN E n (resN E n):=by
    unfold kyN
    rw [h0];rfl
   refine ⟨rfl,rfl,hk,hk,λ q hq=>?_,rfl⟩
   rw [hk,h0] at hq
   exact absurd hq (Nat.not_succ_le_zero _)
theorem goalKy_tt:(goalKy)=True:=goalKy_eq.trans (eq_true goalKy_vc)
theorem goalKy_ok:goalKy:=@ft' goalKy goalKy_tt
abbrev rKy:Sx:=.own 34 [.int .u64]
def fKy (ds:List Dx):Option (Bool × Dx × List (List Dx)):=
 match ds with
 | [.rows _ n [.int .i64 kd,.int .i64 th,.int .i64 id,.int .i64 at_,.int .i64 ok,.int .u64 key,.int .u64 val,.int .u64 hi,.int .i64 most,.int .i64 rk,.int .u64 rv,.ls nl pn [.int .u64 pk,.int .u64 pv]]]=>some (yAnd (preE ⟨kd,th,id,at_,ok,key,val,hi,most,rk,rv,nl,pn,pk,pv⟩ n) (wfE ⟨kd,th,id,at_,ok,key,val,hi,most,rk,rv,nl,pn,pk,pv⟩ n),.rows (yNeq (nsN ⟨kd,th,id,at_,ok,key,val,hi,most,rk,rv,nl,pn,pk,pv⟩ n (resN ⟨kd,th,id,at_,ok,key,val,hi,most,rk,rv,nl,pn,pk,pv⟩ n)) 0) (kyN ⟨kd,th,id,at_,ok,key,val,hi,most,rk,rv,nl,pn,pk,pv⟩ n) [.int .u64 (kyF ⟨kd,th,id,at_,ok,key,val,hi,most,rk,rv,nl,pn,pk,pv⟩ n)],[])
 | _=>none
theorem smKy (hm:Try.prog.follows .mixedOrders=true)(hs:SmOK Try.prog (smL lKy)):SmCall Try.prog 17 (λ args h=>(ctX [sEv] rKy fKy args h).sel):=
 ctX_ok hm hs (λ ds r post h=>by
  unfold fKy at h
  split at h
  . rename_i nil n kd th id at_ ok key val hi most rk rv nl pn pk pv
    simp only [sI,Prod.mk.injEq] at h
    obtain ⟨h1,rfl,rfl⟩:=h
    obtain ⟨h1,h3⟩:=yAnd_t.mp h1
    have h2:=@goalKy_ok
    unfold goalKy at h2
    exact ⟨annKy ⟨kd,th,id,at_,ok,key,val,hi,most,rk,rv,nl,pn,pk,pv⟩ n,1000,@h2 ⟨kd,th,id,at_,ok,key,val,hi,most,rk,rv,nl,pn,pk,pv⟩ nil n h1 h3⟩
  . cases h)
def fiL (C:CaS)(n:Nat)(K:Nat->Int)(m:Nat):Option (List Nat):=srX C n K m n (λ _=>false) (λ _=>false) (λ _=>0)
def fiB (C:CaS)(n:Nat)(K:Nat->Int)(m:Nat):Bool:=(fiL C n K m).isSome
def fiN (C:CaS)(n:Nat)(K:Nat->Int)(m:Nat):Nat:=((fiL C n K m).getD []).length
def fiI (C:CaS)(n:Nat)(K:Nat->Int)(m:Nat)(q:Nat):Int:=cqId C (((fiL C n K m).getD []).getD q 0)
def caC (f:Nat->Nat->AV):CaS:=⟨λ i=>toI (f i 0),λ i=>toI (f i 1),λ i=>toI (f i 2),λ i=>toI (f i 3),λ i=>toI (f i 4),λ i=>toI (f i 5),λ i=>toI (f i 6),λ i=>toI (f i 7),λ i=>toI (f i 8),λ i=>toB (f i 9),λ i=>toI (f i 10),λ i=>toI (f i 11),λ i=>lsNil 2 (f i 12),λ i=>lsN 2 (f i 12),λ i p=>toI (lsF 2 (f i 12) p 0),λ i p=>toI (lsF 2 (f i 12) p 1)⟩
theorem caC_cols (f:Nat->Nat->AV):colsOf f kCl 0=colsLq (caC f):=rfl
def wfQ (C:CaS)(n:Nat):Bool:=(List.range n).all λ i=>(Lit.int .u64 (cqVal C i)).wf
def isB0 (a:AV):Bool:=match a with | .b false=>true | _=>false
def isI0 (a:AV):Bool:=match a with | .i .u64 (.ofNat 0)=>true | _=>false
def zOk:List Bool->List AV->Bool
 | [],l=>match l with | []=>true | _ :: _=>false
 | b :: p,l=>match l with | []=>false | a :: l=>(bif b then isI0 a else isB0 a) && zOk p l
abbrev zPat:List Bool:=[false,false,false,false,false,false,false,false,false,false,false,false,false,true,false,true,false,true,false,true,false,true,false,true]
abbrev frC1 (nil:Bool)(id n:Nat):List AV:=[.jk,.jk,.jk,.ysl false nil id 1 0 n]
def frA (args:List AV)(h:AH):T (AV × AH):=
 match args with
 | [.ptr sid 0,.agg st]=>match h.get sid with
   | some (.cells [.ysl false nc idc zc 0 n,.ysl false nk idk zk 0 m,.mp idm,.ns] t none)=>match h.get idc,h.get idk,h.get idm with
     | some (.arr false ec zc' n' f),some (.arr false ek zk' m' g),some (.map [] ck)=>
       bif Nat.beq t 57 && Nat.beq zc 13 && Nat.beq zc' 13 && Nat.beq zk 1 && Nat.beq zk' 1 && nodupB [idc,idk,idm,sid] && allLt h.nx [idc,idk,idm,sid] && Nat.blt (h.nx + 1) 4294967296 && zOk zPat st then
        .must (yNeq n n') (.must (yNeq m m') (mustCols n f kCl 0 (mustCols m g [.int .u64] 0 (.must (smQ (caC f) n) (.must (smK (caC f) n (λ i=>toI (g i 0)) m) (.must (wfQ (caC f) n)
         (.br (fiB (caC f) n (λ i=>toI (g i 0)) m)
           (.ret (.b true,heapX h [idc,idk,idm] [sid] [.cells (frC1 (yNeq (fiN (caC f) n (λ i=>toI (g i 0)) m) 0) h.nx (fiN (caC f) n (λ i=>toI (g i 0)) m)) t none] [.arr false 3 1 (fiN (caC f) n (λ i=>toI (g i 0)) m) (λ q _=>.y .i64 (fiI (caC f) n (λ i=>toI (g i 0)) m q))]))
           (.ret (.b false,heapX h [idc,idk,idm] [sid] [.cells [.jk,.jk,.jk,.jk] t none] [.arr false 3 1 0 (λ _ _=>.np)])))))))))
       else .no
     | _,_,_=>.no
   | _=>.no
 | _=>.no
def caE (E:EvS)(n:Nat):CaS:=caC λ q=>colF (colsG E n) (nsX E n q)
def fdE (E:EvS)(n:Nat):Int:=if gOk E n=false then 4 else if 12 < nsN E n (resN E n) ∨ 6 < kyN E n then 9 else if fiB (caE E n) (nsN E n (resN E n)) (kyF E n) (kyN E n)=true then 0 else 7
def fdN (E:EvS)(n:Nat):Nat:=if fdE E n=0 then fiN (caE E n) (nsN E n (resN E n)) (kyF E n) (kyN E n) else 0
def fdI (E:EvS)(n:Nat):Nat->Int:=fiI (caE E n) (nsN E n (resN E n)) (kyF E n) (kyN E n)
def wvE (E:EvS)(n:Nat):Bool:=(List.range n).all λ i=>(Lit.int .u64 (eVal E i)).wf
def prFi (E:EvS)(n i:Nat):Prop:=i<=resN E n
def mFi (E:EvS)(n i:Nat):Nat:=resN E n - i
def annFi (E:EvS)(n:Nat)(b:Nat):Option (St->LoopA):=
 match b with
 | 1000=>some λ z=>{ ι:=Nat,tms:=[7],tmU:=λ i=>[.y .i64 (yInt i)],ids:=[3,z.h.nx],hpU:=λ i=>[.cells [.ysl false (yNeq (nsN E n i) 0) z.h.nx 13 0 (nsN E n i),.ysl false (yNeq (nsN E n (resN E n)) 0) 1 1 0 (kyN E n),.mp 2,.ns] 57 none,.arr false 62 13 (nsN E n i) (λ q=>colF (colsG E n) (nsX E n q))],del:=[],ex:=1,pre:=prFi E n,ms:=mFi E n }
 | _=>none
def lFi:List (Nat × Sm):=[(33,.ct (ctX [sEv] rGn fGn)),(36,.ct (ctX [sEv] rCl fCl)),(17,.ct (ctX [sEv] rKy fKy)),(19,.ct frA)]
abbrev rFi:Sx:=.tup [.own 3 [.int .i64],.sc]
def goalFi:Prop:=∀ (E:EvS) (nil:Bool) (n:Nat),preE E n=true->wfE E n=true->wvE E n=true->wxH Try.prog (smL lFi) (annFi E n) 7 [sEv] [.rows nil n (colsE E)] rFi (.l [.rows (yNeq (fdN E n) 0) (fdN E n) [.int .i64 (fdI E n)],.v (.y .i64 (fdE E n))]) []
theorem compact_has (d:Array Int):∀ m,m<=d.size->∀ j,j < m->d[j]! ∈ Lib.compactUpTo d m
 | 0,_,j,hj=>absurd hj (Nat.not_lt_zero _)
 | m + 1,hm,j,hj=>by
   rw [Lib.compactUpTo_succ]
   by_cases h:j < m
   . exact List.mem_append_left _ (compact_has d m (by omega) j h)
   . obtain rfl:j=m:=by omega
     cases hk:Lib.keeps d j with
     | true=>exact List.mem_append_right _ (by simp)
     | false=>
       have h0:¬ (j=0 ∨ d[j]! ≠ d[j - 1]!):=of_decide_eq_false hk
       have h1:d[j]! = d[j - 1]! := Classical.byContradiction λ c=>h0 (.inr c)
       have h2:j ≠ 0:=λ c=>h0 (.inl c)
       refine List.mem_append_left _ ?_
       rw [h1]
       exact compact_has d j (by omega) (j - 1) (by omega)
theorem cmpu_has {n:Nat}{d:Nat->Int}{q:Nat}(hq:q < n):∃ r,r < cmpuN n d/\cmpuF n d r=d q:=by
 have h:=compact_has ((List.range n).map d).toArray n (by simp) q hq
 have e:((List.range n).map d).toArray[q]! = d q:=by simp [hq]
 rw [e] at h
 have h:d q ∈ cmpU n d:=by
  unfold cmpU Lib.compact
  simpa using h
 obtain ⟨r,h1⟩:=List.mem_iff_getElem?.1 h
 exact ⟨r,(List.getElem?_eq_some_iff.1 h1).1,by unfold cmpuF;rw [List.getD_eq_getElem?_getD,h1];rfl⟩
theorem fxI_nn {m:Nat}{p:Nat->Bool}{r:Nat}(h:r < m)(hp:p r=true):0<=fxI m p:=by
 unfold fxI
 split
 . omega
 . rename_i hn
   have:=List.find?_eq_none.1 hn r (List.mem_range.2 h)
   exact absurd hp this
theorem ky_has {E:EvS}{n q:Nat}(h12:nsN E n (resN E n)<=12)(hq:q < nsN E n (resN E n)):0<=fxI (kyN E n) (keB (kyF E n) (kyD E n q)):=by
 have h1:∃ r,r < nsN E n (resN E n)/\srD (nsN E n (resN E n)) (kyD E n) r=kyD E n q:=by
  rw [srD_small h12]
  exact insS_mem (by omega) hq
 obtain ⟨r,h2,h3⟩:=h1
 obtain ⟨r',h4,h5⟩:=cmpu_has (d:=srD (nsN E n (resN E n)) (kyD E n)) h2
 exact fxI_nn h4 (decide_eq_true (h5.trans h3))
theorem nsX_lt {E:EvS}{n q:Nat}(hq:q < nsN E n (resN E n)):nsX E n q < resN E n/\eOk E (gEv E n (nsX E n q)) ≠ 4:=by
 have h1:nsX E n q ∈ nsC E n (resN E n):=by
  unfold nsX
  rw [List.getD_eq_getElem?_getD,List.getElem?_eq_getElem hq]
  exact List.getElem_mem hq
 unfold nsC at h1
 obtain ⟨h2,h3⟩:=List.mem_filter.1 h1
 exact ⟨List.mem_range.1 h2,of_decide_eq_true h3⟩
theorem gEv_lt (E:EvS):∀ i j,j < (gS E i).n->(gS E i).ev j < i
 | 0,j,hj=>absurd hj (Nat.not_lt_zero _)
 | i + 1,j,hj=>by
   have ih:=gEv_lt E i j
   revert hj
   show j < (bif (gS E i).ok then gs1 E i (gS E i) else gS E i).n->(bif (gS E i).ok then gs1 E i (gS E i) else gS E i).ev j < i + 1
   cases hok:(gS E i).ok with
   | false=>intro hj;have:=ih hj;show (gS E i).ev j < i + 1;omega
   | true=>
     rw [cond_true]
     rcases gs1_cases E i (gS E i) with h | ⟨h2,h1,h3⟩ | ⟨h3,h1,h4⟩
     . rw [h];intro hj;have:=ih hj;show (gS E i).ev j < i + 1;omega
     . rw [gs1_t2 h1 h2 h3]
       intro hj
       show (if j=(gS E i).n then i else (gS E i).ev j) < i + 1
       by_cases hjn:j=(gS E i).n
       . rw [if_pos hjn];omega
       . rw [if_neg hjn]
         have hj:j < (gS E i).n + 1:=hj
         have:=ih (by omega);omega
     . rw [gs1_t3 h1 (by omega) h3 h4];intro hj;have:=ih hj;show (gS E i).ev j < i + 1;omega
theorem resN_gN {E:EvS}{n j:Nat}(h:j < resN E n):gOk E n=true/\j < gN E n:=by
 unfold resN at h
 cases hg:gOk E n with
 | false=>rw [hg] at h;exact absurd h (Nat.not_lt_zero _)
 | true=>rw [hg] at h;exact ⟨rfl,h⟩
theorem caE_ok {E:EvS}{n:Nat}(hpre:preE E n=true)(hwv:wvE E n=true)(h12:nsN E n (resN E n)<=12)(h6:kyN E n<=6):
 smQ (caE E n) (nsN E n (resN E n))=true/\smK (caE E n) (nsN E n (resN E n)) (kyF E n) (kyN E n)=true/\wfQ (caE E n) (nsN E n (resN E n))=true:=by
 refine ⟨decide_eq_true ⟨h12,λ i _=>?_⟩,decide_eq_true ⟨h6,λ i hi=>ky_has h12 hi⟩,List.all_eq_true.2 λ i hi=>?_⟩
 . have:cPn E (gEn E n (nsX E n i))<=50:=cPn_le hpre _
   show cPn E (gEn E n (nsX E n i))<=1000000
   omega
 . have hi:i < nsN E n (resN E n):=List.mem_range.1 hi
   have h1:=resN_gN (nsX_lt hi).1
   exact List.all_eq_true.1 hwv _ (List.mem_range.2 (gEv_lt E n _ h1.2))
def goalFi_0 (n:Nat)(E:EvS):=yCol (CK.ls [K1.int .u64,K1.int .u64]) n λ (i:Nat)=>AV.lst false (eNil E i) 2 (ePn E i) (cl2F [Cl2.int .u64 (ePk E),Cl2.int .u64 (ePv E)] i)
def goalFiV:Prop:=(∀ (E:EvS) (nil:Bool) (n:Nat),preE E n=true->wfE E n=true->wvE E n=true->mst (yCol (CK.int .i64) n λ (i:Nat)=>AV.y .i64 (eKd E i)) (mst (yCol (CK.int .i64) n λ (i:Nat)=>AV.y .i64 (eTh E i)) (mst (yCol (CK.int .i64) n λ (i:Nat)=>AV.y .i64 (eId E i)) (mst (yCol (CK.int .i64) n λ (i:Nat)=>AV.y .i64 (eAt E i)) (mst (yCol (CK.int .i64) n λ (i:Nat)=>AV.y .i64 (eOk E i)) (mst (yCol (CK.int .u64) n λ (i:Nat)=>AV.y .u64 (eKey E i)) (mst (yCol (CK.int .u64) n λ (i:Nat)=>AV.y .u64 (eVal E i)) (mst (yCol (CK.int .u64) n λ (i:Nat)=>AV.y .u64 (eHi E i)) (mst (yCol (CK.int .i64) n λ (i:Nat)=>AV.y .i64 (eMost E i)) (mst (yCol (CK.int .i64) n λ (i:Nat)=>AV.y .i64 (eRk E i)) (mst (yCol (CK.int .u64) n λ (i:Nat)=>AV.y .u64 (eRv E i)) (mst (goalFi_0 n E) (mst (preE E n) ((gOk E n=true->mst (yCol (CK.int .i64) n λ (i:Nat)=>AV.y .i64 (eKd E i)) (mst (yCol (CK.int .i64) n λ (i:Nat)=>AV.y .i64 (eTh E i)) (mst (yCol (CK.int .i64) n λ (i:Nat)=>AV.y .i64 (eId E i)) (mst (yCol (CK.int .i64) n λ (i:Nat)=>AV.y .i64 (eAt E i)) (mst (yCol (CK.int .i64) n λ (i:Nat)=>AV.y .i64 (eOk E i)) (mst (yCol (CK.int .u64) n λ (i:Nat)=>AV.y .u64 (eKey E i)) (mst (yCol (CK.int .u64) n λ (i:Nat)=>AV.y .u64 (eVal E i)) (mst (yCol (CK.int .u64) n λ (i:Nat)=>AV.y .u64 (eHi E i)) (mst (yCol (CK.int .i64) n λ (i:Nat)=>AV.y .i64 (eMost E i)) (mst (yCol (CK.int .i64) n λ (i:Nat)=>AV.y .i64 (eRk E i)) (mst (yCol (CK.int .u64) n λ (i:Nat)=>AV.y .u64 (eRv E i)) (mst (goalFi_0 n E) (mst (yAnd (preE E n) (wfE E n)) (mst (yCol (CK.int .i64) n λ (i:Nat)=>AV.y .i64 (eKd E i)) (mst (yCol (CK.int .i64) n λ (i:Nat)=>AV.y .i64 (eTh E i)) (mst (yCol (CK.int .i64) n λ (i:Nat)=>AV.y .i64 (eId E i)) (mst (yCol (CK.int .i64) n λ (i:Nat)=>AV.y .i64 (eAt E i)) (mst (yCol (CK.int .i64) n λ (i:Nat)=>AV.y .i64 (eOk E i)) (mst (yCol (CK.int .u64) n λ (i:Nat)=>AV.y .u64 (eKey E i)) (mst (yCol (CK.int .u64) n λ (i:Nat)=>AV.y .u64 (eVal E i)) (mst (yCol (CK.int .u64) n λ (i:Nat)=>AV.y .u64 (eHi E i)) (mst (yCol (CK.int .i64) n λ (i:Nat)=>AV.y .i64 (eMost E i)) (mst (yCol (CK.int .i64) n λ (i:Nat)=>AV.y .i64 (eRk E i)) (mst (yCol (CK.int .u64) n λ (i:Nat)=>AV.y .u64 (eRv E i)) (mst (goalFi_0 n E) (mst (yAnd (preE E n) (wfE E n)) (true=true/\(∃ (i0:Nat),prFi E n i0/\true=true/\yInt i0=(0:Int)/\yNeq (nsN E n i0) (nat_lit 0)=true/\nsN E n i0=nat_lit 0/\yNeq (nsN E n (resN E n)) (nat_lit 0)=yNeq (nsN E n (resN E n)) 0/\nat_lit 0=nat_lit 0/\kyN E n=kyN E n/\nsN E n i0=nat_lit 0/\true=true/\true=true)/\∀ (g:Nat->AV) (i:Nat),prFi E n i->(yLt (yInt i) (yInt (resN E n))=true->mst (yIn (yInt i) (resN E n)) (mst (yNlt (yNadd 0 (yNat (yInt i))) (resN E n)) ((yNot (yEq (eOk E (gEv E n (yNadd 0 (yNat (yInt i))))) 4)=true->mst (yNeq (nsN E n i) (nsN E n i)) (mst (yGrow (yNadd (nsN E n i) 1) 120) (true=true/\∃ (i':Nat),prFi E n i'/\Nat.succ (mFi E n i')<=mFi E n i/\true=true/\yInt i'=yWrap .i64 (yAdd (yInt i) 1)/\yNeq (nsN E n i') (nat_lit 0)=yAnd (yNeq (nsN E n i) 0) (yNeq 1 0)/\nat_lit 0=nat_lit 0/\nsN E n i'=yNadd (nsN E n i) 1/\yNeq (nsN E n (resN E n)) (nat_lit 0)=yNeq (nsN E n (resN E n)) 0/\nat_lit 0=nat_lit 0/\kyN E n=kyN E n/\nsN E n i'=yNadd (nsN E n i) 1/\(∀ (i_1:Nat),Nat.succ i_1<=nsN E n i'->eId E (gEv E n (nsX E n i_1))=ySel (yNlt i_1 (nsN E n i)) (eId E (gEv E n (nsX E n i_1))) (eId E (gEv E n (yNadd 0 (yNat (yInt i)))))/\eTh E (gEv E n (nsX E n i_1))=ySel (yNlt i_1 (nsN E n i)) (eTh E (gEv E n (nsX E n i_1))) (eTh E (gEv E n (yNadd 0 (yNat (yInt i)))))/\eOk E (gEv E n (nsX E n i_1))=ySel (yNlt i_1 (nsN E n i)) (eOk E (gEv E n (nsX E n i_1))) (eOk E (gEv E n (yNadd 0 (yNat (yInt i)))))/\eKey E (gEv E n (nsX E n i_1))=ySel (yNlt i_1 (nsN E n i)) (eKey E (gEv E n (nsX E n i_1))) (eKey E (gEv E n (yNadd 0 (yNat (yInt i)))))/\eVal E (gEv E n (nsX E n i_1))=ySel (yNlt i_1 (nsN E n i)) (eVal E (gEv E n (nsX E n i_1))) (eVal E (gEv E n (yNadd 0 (yNat (yInt i)))))/\eHi E (gEv E n (nsX E n i_1))=ySel (yNlt i_1 (nsN E n i)) (eHi E (gEv E n (nsX E n i_1))) (eHi E (gEv E n (yNadd 0 (yNat (yInt i)))))/\eMost E (gEv E n (nsX E n i_1))=ySel (yNlt i_1 (nsN E n i)) (eMost E (gEv E n (nsX E n i_1))) (eMost E (gEv E n (yNadd 0 (yNat (yInt i)))))/\eAt E (gEv E n (nsX E n i_1))=ySel (yNlt i_1 (nsN E n i)) (eAt E (gEv E n (nsX E n i_1))) (eAt E (gEv E n (yNadd 0 (yNat (yInt i)))))/\cTo E (gEn E n (nsX E n i_1))=ySel (yNlt i_1 (nsN E n i)) (cTo E (gEn E n (nsX E n i_1))) (cTo E (gEn E n (yNadd 0 (yNat (yInt i)))))/\cOv (gEn E n (nsX E n i_1))=ySelB (yNlt i_1 (nsN E n i)) (cOv (gEn E n (nsX E n i_1))) (cOv (gEn E n (yNadd 0 (yNat (yInt i)))))/\cRk E (gEn E n (nsX E n i_1))=ySel (yNlt i_1 (nsN E n i)) (cRk E (gEn E n (nsX E n i_1))) (cRk E (gEn E n (yNadd 0 (yNat (yInt i)))))/\cRv E (gEn E n (nsX E n i_1))=ySel (yNlt i_1 (nsN E n i)) (cRv E (gEn E n (nsX E n i_1))) (cRv E (gEn E n (yNadd 0 (yNat (yInt i)))))/\(cNil E (gEn E n (nsX E n i_1))=ySelB (yNlt i_1 (nsN E n i)) (cNil E (gEn E n (nsX E n i_1))) (cNil E (gEn E n (yNadd 0 (yNat (yInt i)))))/\cPn E (gEn E n (nsX E n i_1))=ySelN (yNlt i_1 (nsN E n i)) (cPn E (gEn E n (nsX E n i_1))) (cPn E (gEn E n (yNadd 0 (yNat (yInt i)))))/\∀ (i_2:Nat),Nat.succ i_2<=cPn E (gEn E n (nsX E n i_1))->cPk E (gEn E n (nsX E n i_1)) i_2=ySel (yNlt i_1 (nsN E n i)) (cPk E (gEn E n (nsX E n i_1)) i_2) (cPk E (gEn E n (yNadd 0 (yNat (yInt i)))) i_2)/\cPv E (gEn E n (nsX E n i_1)) i_2=ySel (yNlt i_1 (nsN E n i)) (cPv E (gEn E n (nsX E n i_1)) i_2) (cPv E (gEn E n (yNadd 0 (yNat (yInt i)))) i_2)/\True)/\True)/\true=true)))/\(yNot (yEq (eOk E (gEv E n (yNadd 0 (yNat (yInt i))))) 4)=false->true=true/\∃ (i':Nat),prFi E n i'/\Nat.succ (mFi E n i')<=mFi E n i/\true=true/\yInt i'=yWrap .i64 (yAdd (yInt i) 1)/\yNeq (nsN E n i') (nat_lit 0)=yNeq (nsN E n i) 0/\nat_lit 0=nat_lit 0/\nsN E n i'=nsN E n i/\yNeq (nsN E n (resN E n)) (nat_lit 0)=yNeq (nsN E n (resN E n)) 0/\nat_lit 0=nat_lit 0/\kyN E n=kyN E n/\nsN E n i'=nsN E n i/\(∀ (i:Nat),Nat.succ i<=nsN E n i'->eId E (gEv E n (nsX E n i))=eId E (gEv E n (nsX E n i))/\eTh E (gEv E n (nsX E n i))=eTh E (gEv E n (nsX E n i))/\eOk E (gEv E n (nsX E n i))=eOk E (gEv E n (nsX E n i))/\eKey E (gEv E n (nsX E n i))=eKey E (gEv E n (nsX E n i))/\eVal E (gEv E n (nsX E n i))=eVal E (gEv E n (nsX E n i))/\eHi E (gEv E n (nsX E n i))=eHi E (gEv E n (nsX E n i))/\eMost E (gEv E n (nsX E n i))=eMost E (gEv E n (nsX E n i))/\eAt E (gEv E n (nsX E n i))=eAt E (gEv E n (nsX E n i))/\cTo E (gEn E n (nsX E n i))=cTo E (gEn E n (nsX E n i))/\cOv (gEn E n (nsX E n i))=cOv (gEn E n (nsX E n i))/\cRk E (gEn E n (nsX E n i))=cRk E (gEn E n (nsX E n i))/\cRv E (gEn E n (nsX E n i))=cRv E (gEn E n (nsX E n i))/\(cNil E (gEn E n (nsX E n i))=cNil E (gEn E n (nsX E n i))/\cPn E (gEn E n (nsX E n i))=cPn E (gEn E n (nsX E n i))/\∀ (i_1:Nat),Nat.succ i_1<=cPn E (gEn E n (nsX E n i))->cPk E (gEn E n (nsX E n i)) i_1=cPk E (gEn E n (nsX E n i)) i_1/\cPv E (gEn E n (nsX E n i)) i_1=cPv E (gEn E n (nsX E n i)) i_1/\True)/\True)/\true=true))))/\(yLt (yInt i) (yInt (resN E n))=false->(yLt 12 (yInt (nsN E n i))=true->yNeq (fdN E n) (nat_lit 0)=true/\fdN E n=nat_lit 0/\fdE E n=(9:Int)/\fdN E n=nat_lit 0/\true=true/\true=true)/\(yLt 12 (yInt (nsN E n i))=false->(yLt 6 (yInt (kyN E n))=true->yNeq (fdN E n) (nat_lit 0)=true/\fdN E n=nat_lit 0/\fdE E n=(9:Int)/\fdN E n=nat_lit 0/\true=true/\true=true)/\(yLt 6 (yInt (kyN E n))=false->mst (yNeq (nsN E n i) (nsN E n i)) (mst (yNeq (kyN E n) (kyN E n)) (mst (yCol (CK.int .i64) (nsN E n i) λ (i:Nat)=>AV.y .i64 (eId E (gEv E n (nsX E n i)))) (mst (yCol (CK.int .i64) (nsN E n i) λ (i:Nat)=>AV.y .i64 (eTh E (gEv E n (nsX E n i)))) (mst (yCol (CK.int .i64) (nsN E n i) λ (i:Nat)=>AV.y .i64 (eOk E (gEv E n (nsX E n i)))) (mst (yCol (CK.int .u64) (nsN E n i) λ (i:Nat)=>AV.y .u64 (eKey E (gEv E n (nsX E n i)))) (mst (yCol (CK.int .u64) (nsN E n i) λ (i:Nat)=>AV.y .u64 (eVal E (gEv E n (nsX E n i)))) (mst (yCol (CK.int .u64) (nsN E n i) λ (i:Nat)=>AV.y .u64 (eHi E (gEv E n (nsX E n i)))) (mst (yCol (CK.int .i64) (nsN E n i) λ (i:Nat)=>AV.y .i64 (eMost E (gEv E n (nsX E n i)))) (mst (yCol (CK.int .i64) (nsN E n i) λ (i:Nat)=>AV.y .i64 (eAt E (gEv E n (nsX E n i)))) (mst (yCol (CK.int .i64) (nsN E n i) λ (i:Nat)=>AV.y .i64 (cTo E (gEn E n (nsX E n i)))) (mst (yCol CK.bool (nsN E n i) λ (i:Nat)=>AV.yb (cOv (gEn E n (nsX E n i)))) (mst (yCol (CK.int .i64) (nsN E n i) λ (i:Nat)=>AV.y .i64 (cRk E (gEn E n (nsX E n i)))) (mst (yCol (CK.int .u64) (nsN E n i) λ (i:Nat)=>AV.y .u64 (cRv E (gEn E n (nsX E n i)))) (mst (yCol (CK.ls [K1.int .u64,K1.int .u64]) (nsN E n i) λ (i:Nat)=>AV.lst false (cNil E (gEn E n (nsX E n i))) 2 (cPn E (gEn E n (nsX E n i))) (cl2F [Cl2.int .u64 λ (j:Nat)=>cPk E (gEn E n j),Cl2.int .u64 λ (j:Nat)=>cPv E (gEn E n j)] (nsX E n i))) (mst (yCol (CK.int .u64) (kyN E n) λ (i:Nat)=>AV.y .u64 (kyF E n i)) (mst (smQ (caE E n) (nsN E n i)) (mst (smK (caE E n) (nsN E n i) (kyF E n) (kyN E n)) (mst (wfQ (caE E n) (nsN E n i)) ((fiB (caE E n) (nsN E n i) (kyF E n) (kyN E n)=true->yNeq (fdN E n) (nat_lit 0)=yNeq (fiN (caE E n) (nsN E n i) (kyF E n) (kyN E n)) 0/\nat_lit 0=nat_lit 0/\fdN E n=fiN (caE E n) (nsN E n i) (kyF E n) (kyN E n)/\fdE E n=(0:Int)/\fdN E n=fiN (caE E n) (nsN E n i) (kyF E n) (kyN E n)/\(∀ (i_1:Nat),Nat.succ i_1<=fdN E n->fdI E n i_1=fiI (caE E n) (nsN E n i) (kyF E n) (kyN E n) i_1/\True)/\true=true)/\(fiB (caE E n) (nsN E n i) (kyF E n) (kyN E n)=false->yNeq (fdN E n) (nat_lit 0)=true/\fdN E n=nat_lit 0/\fdE E n=(7:Int)/\fdN E n=nat_lit 0/\true=true/\true=true))))))))))))))))))))))))))))))))))))))))))))))))))/\(gOk E n=false->yNeq (fdN E n) (nat_lit 0)=true/\fdN E n=nat_lit 0/\fdE E n=(4:Int)/\fdN E n=nat_lit 0/\true=true/\true=true)))))))))))))))
theorem goalFi_eq:goalFi=goalFiV:=by kernel_rfl
set_option maxHeartbeats 8000000 in
theorem goalFi_vc:goalFiV:=by
 delta goalFiV
 intro E nil n hpre hwf hwv
 have hcol:∀ m,yCol (.ls [.int .u64,.int .u64]) m (λ i=>AV.lst false (eNil E i) 2 (ePn E i) (cl2F [Cl2.int .u64 (ePk E),Cl2.int .u64 (ePv E)] i))=true:=λ m=>yCol_ok.2 λ i _=>List.all_eq_true.2 λ p _=>rfl
 have hpw:yAnd (preE E n) (wfE E n)=true:=by rw [hpre,hwf];rfl
 have hr:=resN_le hpre
 have none_:fdE E n ≠ 0->fdN E n=0:=λ h=>if_neg h
 refine mstI yCol_int (mstI yCol_int (mstI yCol_int (mstI yCol_int (mstI yCol_int (mstI yCol_int (mstI yCol_int (mstI yCol_int (mstI yCol_int (mstI yCol_int (mstI yCol_int (mstI (hcol n) (mstI hpre ⟨λ hg=>?_,λ hg=>?_⟩))))))))))))
 rotate_left
 . have e:fdE E n=4:=if_pos hg
   have e0:fdN E n=0:=none_ (by rw [e];decide)
   rw [e0]
   exact ⟨rfl,rfl,e,rfl,rfl,rfl⟩
 have hg':¬ gOk E n=false:=by rw [hg];exact λ h=>by cases h
 refine mstI yCol_int (mstI yCol_int (mstI yCol_int (mstI yCol_int (mstI yCol_int (mstI yCol_int (mstI yCol_int (mstI yCol_int (mstI yCol_int (mstI yCol_int (mstI yCol_int (mstI (hcol n) (mstI hpw (mstI yCol_int (mstI yCol_int (mstI yCol_int (mstI yCol_int (mstI yCol_int (mstI yCol_int (mstI yCol_int (mstI yCol_int (mstI yCol_int (mstI yCol_int (mstI yCol_int (mstI (hcol n) (mstI hpw ⟨rfl,⟨0,Nat.zero_le _,rfl,rfl,rfl,rfl,rfl,rfl,rfl,rfl,rfl,rfl⟩,λ g i hi=>⟨λ h=>?_,λ h=>?_⟩⟩)))))))))))))))))))))))))
 . have h:i < resN E n:=by
    have h9:(i:Int) < (resN E n:Int):=of_decide_eq_true h
    omega
   have e0:yNadd 0 (yNat (yInt i))=i:=Nat.zero_add i
   have hw:yInt (i + 1)=yWrap .i64 (yAdd (yInt i) 1):=by
    show ((i + 1:Nat):Int)=yWrap .i64 ((i:Int) + 1)
    rw [wrap64 (by omega) (by omega)];omega
   have hm:(mFi E n (i + 1)).succ<=mFi E n i:=by unfold mFi;omega
   have hnl:=nsN_le E n i
   refine mstI (yInN h) (mstI (decide_eq_true (by rw [e0];exact h)) ⟨λ h4=>?_,λ h4=>?_⟩)
   . rw [e0] at h4 ⊢
     have h4:eOk E (gEv E n i) ≠ 4:=λ e=>by rw [e] at h4;cases h4
     refine mstI (decide_eq_true rfl) (mstI (yGrow_t.mpr (show 4 * (nsN E n i + 1) * 120<=140737488355328 by omega)) ⟨rfl,i + 1,h,hm,rfl,hw,?_,rfl,nsN_hit h4,rfl,rfl,rfl,nsN_hit h4,λ q hq=>?_,rfl⟩)
     . rw [nsN_hit h4];exact yN1 _
     . rw [nsN_hit h4] at hq
       by_cases c:q < nsN E n i
       . have c':yNlt q (nsN E n i)=true:=decide_eq_true c
         rw [c']
         exact ⟨rfl,rfl,rfl,rfl,rfl,rfl,rfl,rfl,rfl,rfl,rfl,rfl,⟨rfl,rfl,λ _ _=>⟨rfl,rfl,trivial⟩⟩,trivial⟩
       . have c':yNlt q (nsN E n i)=false:=decide_eq_false c
         have hq2:nsX E n q=i:=by rw [show q=nsN E n i by omega];exact nsX_hit h h4
         rw [c',hq2]
         exact ⟨rfl,rfl,rfl,rfl,rfl,rfl,rfl,rfl,rfl,rfl,rfl,rfl,⟨rfl,rfl,λ _ _=>⟨rfl,rfl,trivial⟩⟩,trivial⟩
   . rw [e0] at h4
     have h4:eOk E (gEv E n i)=4:=by
      have h9:yEq (eOk E (gEv E n i)) 4=true:=by
       cases hh:yEq (eOk E (gEv E n i)) 4 with
       | true=>rfl
       | false=>rw [hh] at h4;cases h4
      exact of_decide_eq_true h9
     exact ⟨rfl,i + 1,h,hm,rfl,hw,by rw [nsN_miss h4],rfl,nsN_miss h4,rfl,rfl,rfl,nsN_miss h4,λ q _=>⟨rfl,rfl,rfl,rfl,rfl,rfl,rfl,rfl,rfl,rfl,rfl,rfl,⟨rfl,rfl,λ _ _=>⟨rfl,rfl,trivial⟩⟩,trivial⟩,rfl⟩
 . have hi:i<=resN E n:=hi
   obtain rfl:i=resN E n:=by
    have h9:¬ (i:Int) < (resN E n:Int):=of_decide_eq_false h
    omega
   have bound:(12 < nsN E n (resN E n) ∨ 6 < kyN E n)->yNeq (fdN E n) 0=true/\fdN E n=0/\fdE E n=9/\fdN E n=0/\true=true/\true=true:=λ h9=>by
    have e:fdE E n=9:=(if_neg hg').trans (if_pos h9)
    have e0:fdN E n=0:=none_ (by rw [e];decide)
    rw [e0]
    exact ⟨rfl,rfl,e,rfl,rfl,rfl⟩
   refine ⟨λ h12=>bound (.inl ?_),λ h12=>⟨λ h6=>bound (.inr ?_),λ h6=>?_⟩⟩
   . have h9:(12:Int) < (nsN E n (resN E n):Int):=of_decide_eq_true h12
     omega
   . have h9:(6:Int) < (kyN E n:Int):=of_decide_eq_true h6
     omega
   have h12:nsN E n (resN E n)<=12:=by
    have h9:¬ (12:Int) < (nsN E n (resN E n):Int):=of_decide_eq_false h12
    omega
   have h6:kyN E n<=6:=by
    have h9:¬ (6:Int) < (kyN E n:Int):=of_decide_eq_false h6
    omega
   obtain ⟨q1,q2,q3⟩:=caE_ok hpre hwv h12 h6
   have hnb:¬ (12 < nsN E n (resN E n) ∨ 6 < kyN E n):=by omega
   refine mstI (decide_eq_true rfl) (mstI (decide_eq_true rfl) (mstI yCol_int (mstI yCol_int (mstI yCol_int (mstI yCol_int (mstI yCol_int (mstI yCol_int (mstI yCol_int (mstI yCol_int (mstI yCol_int (mstI (yCol_ok.2 λ _ _=>rfl) (mstI yCol_int (mstI yCol_int (mstI (yCol_ok.2 λ i _=>List.all_eq_true.2 λ p _=>rfl) (mstI yCol_int (mstI q1 (mstI q2 (mstI q3 ⟨λ hb=>?_,λ hb=>?_⟩))))))))))))))))))
   . have e:fdE E n=0:=(if_neg hg').trans ((if_neg hnb).trans (if_pos hb))
     have e0:fdN E n=fiN (caE E n) (nsN E n (resN E n)) (kyF E n) (kyN E n):=if_pos e
     rw [e0]
     exact ⟨rfl,rfl,rfl,e,rfl,λ q _=>⟨rfl,trivial⟩,rfl⟩
   . have e:fdE E n=7:=(if_neg hg').trans ((if_neg hnb).trans (if_neg (by rw [hb];exact Bool.false_ne_true)))
     have e0:fdN E n=0:=none_ (by rw [e];decide)
     rw [e0]
     exact ⟨rfl,rfl,e,rfl,rfl,rfl⟩
theorem goalFi_tt:(goalFi)=True:=goalFi_eq.trans (eq_true goalFi_vc)
theorem goalFi_ok:goalFi:=@ft' goalFi goalFi_tt
end Go.Proofs.Ytknfdbilpfblnaa.Ex
end
section
noncomputable section
namespace Go.Proofs.Ytknfdbilpfblnaa.Ex
open Go Go.RowKit
theorem frA_heap {M:Mp}{h h':AH}{w w':World}{Z:Nat->Option (Array Value)}{sid idm bs bm κs κm:Nat}{L:List Nat}{so0 so:AO}{es:List (AV × AV × Nat)}{ck:Nat}{nbo:Option AO}{p:Option (Nat × Nat)}{obs:Obj}
 (r:Rel M h w) (hfr:M h.nx=none) (hnx:h.nx<=h'.nx) (hnx1:p ≠ none ∨ nbo ≠ none->h.nx < h'.nx) (hZ:Z=zL M w L)
 (hs0:h.get sid=some so0) (hso:so0.ro=false) (hMs:M sid=some (bs,κs)) (hm0:h.get idm=some (.map es ck)) (hMm:M idm=some (bm,κm))
 (hL:∀ id ∈ L,id ≠ sid/\id ≠ idm/\∃ o,h.get id=some o/\o.ro=false)
 (hget:∀ q,h'.get q=if q=h.nx then nbo else if q=sid then some so else if q ∈ L ∨ q=idm then none else h.get q) (hsm:sid ≠ idm)
 (hkp:Kp (λ g=>g=bs ∨ g=bm) w w') (hsat:w'.heap[bs]?=some obs)
 (hobs:ObR ⟨λ i=>if i=h.nx then p else M i,Z⟩ κs so obs) (hsro:so.ro=false)
 (hnb:∀ o,nbo=some o->o.ro=false/\((o.Vac/\p=none) ∨ ∃ g κ ob,p=some (g,κ)/\w.heap.size<=g/\w'.heap[g]?=some ob/\ObR ⟨λ i=>if i=h.nx then p else M i,Z⟩ κ o ob))
 (hp:∀ g κ,p=some (g,κ)->w.heap.size<=g) :
 Rel ⟨λ i=>if i=h.nx then p else M i,Z⟩ h' w'/\Fr h h' M ⟨λ i=>if i=h.nx then p else M i,Z⟩ w w':=by
 have hsl:sid < h.nx:=r.wf sid (by rw [hs0];simp)
 have hml:idm < h.nx:=r.wf idm (by rw [hm0];simp)
 have hle:Le M ⟨λ i=>if i=h.nx then p else M i,Z⟩:=⟨λ i q e=>by
  show (if i=h.nx then p else M i)=some q
  by_cases hi:i=h.nx
  . subst hi;rw [hfr] at e;cases e
  . rw [if_neg hi];exact e,λ b cs e=>by show Z b=some cs;rw [hZ];exact zL_le e⟩
 have hM':∀ i,i ≠ h.nx->(⟨λ i=>if i=h.nx then p else M i,Z⟩:Mp) i=M i:=λ i hi=>if_neg hi
 have hMn:(⟨λ i=>if i=h.nx then p else M i,Z⟩:Mp) h.nx=p:=if_pos rfl
 have old:∀ q o,q ≠ h.nx->q ≠ sid->h'.get q=some o->h.get q=some o/\q ∉ L/\q ≠ idm:=λ q o h1 h2 e=>by
  rw [hget,if_neg h1,if_neg h2] at e
  by_cases h3:q ∈ L ∨ q=idm
  . rw [if_pos h3] at e;cases e
  . rw [if_neg h3] at e
    exact ⟨e,λ x=>h3 (.inl x),λ x=>h3 (.inr x)⟩
 have nes:∀ q b κ,h.get q ≠ none->q ≠ sid->q ≠ idm->M q=some (b,κ)->b ≠ bs/\b ≠ bm:=λ q b κ h1 h2 h3 h4=>
  ⟨λ e=>h2 (r.inj sid q bs κs κ so0 hs0 hso h1 hMs (by rw [h4,e])).symm,λ e=>h3 (r.inj idm q bm κm κ _ hm0 rfl h1 hMm (by rw [h4,e])).symm⟩
 have keep:∀ b,b < w.heap.size->b ≠ bs->b ≠ bm->w'.heap[b]?=w.heap[b]?:=λ b hb h1 h2=>hkp.block b hb λ x=>x.elim h1 h2
 have zinv:∀ b cs,Z b=some cs->M.z b=some cs ∨ ∃ id κ e fr o,id ∈ L/\M id=some (b,κ)/\w.heap[b]?=some (.cells cs e fr)/\h.get id=some o/\o.ro=false:=λ b cs e=>by
  rw [hZ] at e
  rcases zL_inv e with e1 | ⟨id,κ,e,fr,h1,h2,h3⟩
  . exact .inl e1
  . obtain ⟨_,_,o,h4,h5⟩:=hL id h1
    exact .inr ⟨id,κ,e,fr,o,h1,h2,h3,h4,h5⟩
 refine ⟨⟨λ q o e=>?_,λ i j b κ1 κ2 oi h0 hro h2 e1 e2=>?_,λ x hx=>?_,λ g c hgl=>?_,λ x b κ o hx hro hM=>?_,λ b cs e=>?_,λ i b κ o e1 hro e2=>?_⟩,⟨hkp.os,hkp.tape,hkp.output,hkp.size,hle,λ q e=>?_,λ k hk hno=>?_,λ q b κ o e1 e2=>?_,λ b cs e=>?_⟩⟩
 . by_cases h1:q=h.nx
   . subst h1
     rw [hget,if_pos rfl] at e
     obtain ⟨_,h2 | ⟨g,κ,ob,h2,_,h3,h4⟩⟩:=hnb o e
     . exact .inl ⟨h2.1,by rw [hMn];exact h2.2⟩
     . exact .inr ⟨g,κ,ob,by rw [hMn];exact h2,h3,h4⟩
   . by_cases h2:q=sid
     . subst h2
       rw [hget,if_neg h1,if_pos rfl] at e
       simp only [sI] at e
       subst e
       exact .inr ⟨bs,κs,obs,by rw [hM' _ h1];exact hMs,hsat,hobs⟩
     . obtain ⟨h3,h4,h5⟩:=old q o h1 h2 e
       rcases r.obj q o h3 with ⟨hv,q1⟩ | ⟨b,κ,ob,q1,q2,q3⟩
       . exact .inl ⟨hv,by rw [hM' _ h1];exact q1⟩
       . obtain ⟨n1,n2⟩:=nes q b κ (by rw [h3];simp) h2 h5 q1
         exact .inr ⟨b,κ,ob,by rw [hM' _ h1];exact q1,by rw [keep b (heap_lt q2) n1 n2];exact q2,ObR.mono hle _ _ q3⟩
 . by_cases hi:i=h.nx <;> by_cases hj:j=h.nx
   . omega
   . subst hi
     rw [hMn] at e1
     rw [hM' _ hj] at e2
     have hjg:h.get j ≠ none:=by
      rw [hget,if_neg hj] at h2
      by_cases h3:j=sid
      . subst h3;rw [hs0];simp
      . rw [if_neg h3] at h2
        by_cases h4:j ∈ L ∨ j=idm
        . rw [if_pos h4] at h2;exact absurd rfl h2
        . rw [if_neg h4] at h2;exact h2
     have:=r.lt hjg e2
     have:=hp b κ1 e1
     omega
   . subst hj
     rw [hMn] at e2
     rw [hM' _ hi] at e1
     have hig:h.get i ≠ none:=by
      by_cases h3:i=sid
      . subst h3;rw [hs0];simp
      . rw [(old i oi hi h3 h0).1];simp
     have:=r.lt hig e1
     have:=hp b κ2 e2
     omega
   . rw [hM' _ hi] at e1
     rw [hM' _ hj] at e2
     have hjg:h.get j ≠ none:=by
      rw [hget,if_neg hj] at h2
      by_cases h3:j=sid
      . subst h3;rw [hs0];simp
      . rw [if_neg h3] at h2
        by_cases h4:j ∈ L ∨ j=idm
        . rw [if_pos h4] at h2;exact absurd rfl h2
        . rw [if_neg h4] at h2;exact h2
     by_cases h3:i=sid
     . subst h3;exact r.inj i j b κ1 κ2 so0 hs0 hso hjg e1 e2
     . exact r.inj i j b κ1 κ2 oi (old i oi hi h3 h0).1 hro hjg e1 e2
 . by_cases h1:x=h.nx
   . subst h1
     refine hnx1 (.inr λ e=>hx ?_)
     rw [hget,if_pos rfl];exact e
   . by_cases h2:x=sid
     . omega
     . cases hh:h'.get x with
       | none=>exact absurd hh hx
       | some o=>have:=r.wf x (by rw [(old x o h1 h2 hh).1];simp);omega
 . obtain ⟨vs,e,fr,q1,q2⟩:=r.gw g c hgl
   refine ⟨vs,e,fr,?_,q2⟩
   rw [keep g (heap_lt q1) (λ x=>by rw [x,r.gf sid bs κs so0 hs0 hso hMs] at hgl;cases hgl) (λ x=>by rw [x,r.gf idm bm κm _ hm0 rfl hMm] at hgl;cases hgl)]
   exact q1
 . by_cases h1:x=h.nx
   . subst h1
     rw [hMn] at hM
     cases hg:GL b with
     | none=>rfl
     | some c=>
       obtain ⟨vs,e,fr,q1,q2⟩:=r.gw b c hg
       have:=heap_lt q1
       have:=hp b κ hM
       omega
   . rw [hM' _ h1] at hM
     by_cases h2:x=sid
     . subst h2;exact r.gf x b κ so0 hs0 hso hM
     . exact r.gf x b κ o (old x o h1 h2 hx).1 hro hM
 . rcases zinv b cs e with e1 | ⟨id,κ,t,fr,o,h1,h2,h3,h4,h5⟩
   . obtain ⟨t,fr,h3⟩:=r.fz b cs e1
     refine ⟨t,fr,?_⟩
     rw [keep b (heap_lt h3) (λ x=>by rw [x,r.fo sid bs κs so0 hs0 hso hMs] at e1;cases e1) (λ x=>by rw [x,r.fo idm bm κm _ hm0 rfl hMm] at e1;cases e1)]
     exact h3
   . obtain ⟨n0,n1,_⟩:=hL id h1
     obtain ⟨n2,n3⟩:=nes id b κ (by rw [h4];simp) n0 n1 h2
     exact ⟨t,fr,by rw [keep b (heap_lt h3) n2 n3];exact h3⟩
 . show Z b=none
   cases hz:Z b with
   | none=>rfl
   | some cs=>
     exfalso
     by_cases h1:i=h.nx
     . subst h1
       rw [hMn] at e2
       have hb:=hp b κ e2
       rcases zinv b cs hz with e3 | ⟨id,κ',t,fr,o',h1,h2,h3,h4,h5⟩
       . obtain ⟨t,fr,h3⟩:=r.fz b cs e3
         have:=heap_lt h3;omega
       . have:=heap_lt h3;omega
     . rw [hM' _ h1] at e2
       have ho:∃ oo,h.get i=some oo/\oo.ro=false/\i ∉ L:=by
        by_cases h2:i=sid
        . subst h2;exact ⟨so0,hs0,hso,λ x=>(hL i x).1 rfl⟩
        . obtain ⟨h3,h4,_⟩:=old i o h1 h2 e1
          exact ⟨o,h3,hro,h4⟩
       obtain ⟨oo,ho1,ho2,ho3⟩:=ho
       rcases zinv b cs hz with e3 | ⟨id,κ',t,fr,o',h1,h2,h3,h4,h5⟩
       . rw [r.fo i b κ oo ho1 ho2 e2] at e3;cases e3
       . have:=r.inj i id b κ κ' oo ho1 ho2 (by rw [h4];simp) e2 h2
         exact ho3 (by rw [this];exact h1)
 . by_cases h1:q=h.nx
   . subst h1
     exact ⟨Nat.le_refl _,hnx1 (.inl λ x=>e (by rw [hMn,x,hfr]))⟩
   . exact absurd (hM' q h1) e
 . refine keep k hk (λ x=>hno sid κs so0 hs0 hso (by rw [x];exact hMs)) (λ x=>hno idm κm _ hm0 rfl (by rw [x];exact hMm))
 . by_cases h1:q=h.nx
   . subst h1
     rw [hMn] at e2
     exact .inl (hp b κ e2)
   . rw [hM' _ h1] at e2
     by_cases h2:q=sid
     . subst h2;exact .inr ⟨q,κ,so0,hs0,e2,λ _=>hso⟩
     . exact .inr ⟨q,κ,o,(old q o h1 h2 e1).1,e2,id⟩
 . rcases zinv b cs e with e1 | ⟨id,κ,t,fr,o,h1,h2,h3,h4,h5⟩
   . exact .inl e1
   . exact .inr (.inr ⟨id,κ,o,h4,h5,h2⟩)
theorem zOk_V {M:Mp}:∀ {p:List Bool} {l:List AV} {vs:List Value},zOk p l=true->AV.RL M l vs->vs=p.map λ b=>bif b then .int .u64 0 else .bool false
 | [],[],vs,_,r=>r
 | [],_ :: _,vs,h,_=>by cases h
 | b :: p,[],vs,h,_=>by cases h
 | b :: p,a :: l,vs,h,r=>by
   have h:((bif b then isI0 a else isB0 a) && zOk p l)=true:=h
   obtain ⟨h1,h2⟩:=(Bool.and_eq_true _ _).mp h
   simp only [AV.RL] at r
   obtain ⟨v,vs',r1,r2,rfl⟩:=r
   have ih:=zOk_V h2 r2
   rw [ih,List.map_cons]
   congr 1
   cases b with
   | true=>
     have h1:isI0 a=true:=h1
     unfold isI0 at h1
     split at h1
     . simpa [AV.R] using r1
     . cases h1
   | false=>
     have h1:isB0 a=true:=h1
     unfold isB0 at h1
     split at h1
     . simpa [AV.R] using r1
     . cases h1
theorem ysl_lst {M M':Mp}{h:AH}{w:World}{nil:Bool}{id z n:Nat}{e:TypeId}{f:Nat->Nat->AV}{ks:List CK}{v:Value}(r:Rel M h w)(hg:h.get id=some (.arr false e z n f))(hk:ks.length=z)(hz:ZLe M M')
 (hM:∀ b κ cs t fr,M id=some (b,κ)->w.heap[b]?=some (.cells cs t fr)->M'.z b=some cs) (hrow:∀ i,i < n->rowOk (f i) ks 0=true) (rv:(AV.ysl false nil id z 0 n).R M v):(AV.lst false nil z n (colF (colsOf f ks 0))).R M' v/\v.oneCell'=true:=by
 simp only [AV.R] at rv ⊢
 rcases rv with ⟨h1,h2,rfl⟩ | ⟨h1,h2,a,c,rfl,_⟩ | ⟨h1,b,κ,c,h2,rfl,h3,h4,h5⟩
 . exact ⟨.inl ⟨h1,h2,rfl⟩,rfl⟩
 . exact ⟨.inr (.inl ⟨h1,h2,a,c,rfl,λ x=>by cases x⟩),rfl⟩
 . obtain ⟨ob,hb,cs,rfl,hcs,hnκ,q⟩:=Ob_of r hg h2
   refine ⟨.inr (.inr ⟨h1,h4,b,0,c,cs,by simp,h3,λ x=>(by cases x),hM b κ cs _ _ h2 hb,λ i hi j hj=>?_⟩),rfl⟩
   obtain ⟨u,u1,u2,u3⟩:=q i hi j hj
   refine ⟨u,by rw [Nat.zero_add];exact u1,u2,?_⟩
   exact (colsOf_R (.inr hz) (hrow i hi) (by rw [hk];exact hj) (by rw [Nat.zero_add];exact u3)).1
theorem un_all (n:Nat):un n (λ _=>false)=n:=by
 unfold un
 have e:(List.range n).filter (λ i=>!(λ _=>false) i)=List.range n:=List.filter_eq_self.2 λ _ _=>rfl
 rw [e,List.length_range]
set_option maxHeartbeats 4000000 in
theorem smFr (mixed:Try.prog.follows .mixedOrders=true):SmCall Try.prog 19 (λ args h=>(frA args h).sel):=by
 intro args h v h' hg
 simp only [frA] at hg
 split at hg
 case h_2=>cases hg
 rename_i sid st
 split at hg
 case h_2=>cases hg
 rename_i nc idc zc n nk idk zk m idm t hgs
 split at hg
 case h_2=>cases hg
 rename_i ec zc' n' f ek zk' m' g ck hgc hgk hgm
 simp only [Bool.cond_eq_ite] at hg
 split at hg
 case isFalse=>cases hg
 rename_i hc
 simp only [Bool.and_eq_true,nbeq,nblt,decide_eq_true_eq] at hc
 obtain ⟨⟨⟨⟨⟨⟨⟨⟨rfl,rfl⟩,rfl⟩,rfl⟩,rfl⟩,hnd⟩,hlt⟩,hbig⟩,hzo⟩:=hc
 obtain ⟨p1,g1⟩:=T.sel_must hg
 clear hg
 obtain rfl:n=n':=of_decide_eq_true p1
 obtain ⟨p2,g2⟩:=T.sel_must g1
 clear g1
 obtain rfl:m=m':=of_decide_eq_true p2
 obtain ⟨hrc,g3⟩:=mustCols_ok g2
 clear g2
 obtain ⟨hrk,g4⟩:=mustCols_ok g3
 clear g3
 obtain ⟨hQ,g5⟩:=T.sel_must g4
 clear g4
 obtain ⟨hK,g6⟩:=T.sel_must g5
 clear g5
 obtain ⟨hW,g7⟩:=T.sel_must g6
 clear g6
 have hnd:=nodupB_ok hnd
 have hlt:=allLt_ok hlt
 simp only [List.nodup_cons,List.mem_cons,List.not_mem_nil,or_false,not_or,List.nodup_nil,and_true,not_false_eq_true] at hnd
 obtain ⟨⟨d1,d2,d3⟩,⟨d4,d5⟩,d6⟩:=hnd
 have lc:idc < h.nx:=hlt idc (by simp)
 have lk:idk < h.nx:=hlt idk (by simp)
 have lm:idm < h.nx:=hlt idm (by simp)
 have ls:sid < h.nx:=hlt sid (by simp)
 have hrem:∀ x ∈ [idc,idk,idm],x < h.nx:=λ x hx=>by
  simp only [List.mem_cons,List.not_mem_nil,or_false] at hx
  rcases hx with rfl | rfl | rfl <;> assumption
 have hpid:∀ x ∈ [sid],x < h.nx:=λ x hx=>by
  simp only [List.mem_cons,List.not_mem_nil,or_false] at hx
  rw [hx];exact ls
 have spec0:∀ (so:AO) (nb:List AO),nb.length<=1->(∀ (j:Nat) (c:AO),nb[j]?=some c->(heapX h [idc,idk,idm] [sid] [so] nb).get (h.nx + j)=some c)/\(heapX h [idc,idk,idm] [sid] [so] nb).get sid=some so ∧
  (∀ q,q ∈ [idc,idk,idm]->q ≠ sid->(heapX h [idc,idk,idm] [sid] [so] nb).get q=none)/\(∀ q,¬ (h.nx<=q/\q < h.nx + nb.length)->q ≠ sid->q ∉ [idc,idk,idm]->(heapX h [idc,idk,idm] [sid] [so] nb).get q=h.get q):=λ so nb hnb=>by
  obtain ⟨e1,e2,e3,e4⟩:=heapX_get (h:=h) (rem:=[idc,idk,idm]) (pids:=[sid]) (cs:=[so]) (nb:=nb) hrem hpid (by simp) rfl (by omega)
  exact ⟨e1,e2 sid so (by simp),λ q h1 h2=>e3 q h1 (by simpa using h2),λ q h1 h2 h3=>e4 q h1 (by simpa using h2) h3⟩
 have spec:h.get h.nx=none->∀ (so:AO) (nb:List AO),nb.length<=1->∀ q,(heapX h [idc,idk,idm] [sid] [so] nb).get q=if q=h.nx then nb[0]? else if q=sid then some so else if q ∈ [idc,idk] ∨ q=idm then none else h.get q:=λ hnn so nb hnb q=>by
  obtain ⟨e1,e2,e3,e4⟩:=spec0 so nb hnb
  by_cases h1:q=h.nx
  . subst h1
    rw [if_pos rfl]
    cases nb with
    | nil=>rw [e4 _ (by simp) (by omega) (by simp only [List.mem_cons,List.not_mem_nil,or_false];omega),hnn];rfl
    | cons o l=>exact e1 0 o rfl
  . rw [if_neg h1]
    by_cases h2:q=sid
    . subst h2;rw [if_pos rfl];exact e2
    . rw [if_neg h2]
      by_cases h3:q ∈ [idc,idk] ∨ q=idm
      . rw [if_pos h3]
        exact e3 q (by simp only [List.mem_cons,List.not_mem_nil,or_false] at h3 ⊢;omega) h2
      . rw [if_neg h3]
        exact e4 q (by omega) h2 (by simp only [List.mem_cons,List.not_mem_nil,or_false] at h3 ⊢;omega)
 have hab:∀ (so:AO) (nb:List AO),nb.length<=1->Ab h (heapX h [idc,idk,idm] [sid] [so] nb):=λ so nb hnb=>by
  obtain ⟨e1,e2,e3,e4⟩:=spec0 so nb hnb
  refine ⟨Nat.le_add_right _ _,rfl,λ x hx=>List.mem_append_right _ hx,λ x b1 b2 hx=>?_,λ x hx=>?_⟩
  . have hn:x ∉ filtLt h.bs ([idc,idk,idm] ++ [sid]):=λ q=>hx (List.mem_append_left _ q)
    exact e4 x (by omega) (λ q=>hn (filtLt_mem (List.mem_append_right _ (by rw [q];simp)) b1)) (λ q=>hn (filtLt_mem (List.mem_append_left _ q) b1))
  . by_cases hnew:h.nx<=x/\x < h.nx + nb.length
    . exact .inr hnew
    . left
      by_cases hp:x=sid
      . rw [hp,hgs];simp
      . by_cases hr:x ∈ [idc,idk,idm]
        . exact absurd (e3 x hr hp) hx
        . rw [<- e4 x hnew hp hr];exact hx
 /- the call -/
 have key:∀ (so:AO) (nb:List AO) (u:AV),nb.length<=1->(∃ b,u=.b b/\fiB (caC f) n (λ i=>toI (g i 0)) m=b/\((b=true/\so=.cells (frC1 (yNeq (fiN (caC f) n (λ i=>toI (g i 0)) m) 0) h.nx (fiN (caC f) n (λ i=>toI (g i 0)) m)) 57 none/\nb=[.arr false 3 1 (fiN (caC f) n (λ i=>toI (g i 0)) m) (λ q _=>.y .i64 (fiI (caC f) n (λ i=>toI (g i 0)) m q))]) ∨ (b=false/\so=.cells [.jk,.jk,.jk,.jk] 57 none/\nb=[.arr false 3 1 0 (λ _ _=>.np)]))) →
  (h.nx<=(heapX h [idc,idk,idm] [sid] [so] nb).nx/\Ab h (heapX h [idc,idk,idm] [sid] [so] nb))/\∀ (M:Mp) (us:List Value) (w:World) (r:Option Nat) (R:Ending->World->Prop),AV.RL M [.ptr sid 0,.agg st] us->Rel M h w->Fresh M h (heapX h [idc,idk,idm] [sid] [so] nb) →
    (∀ M' u' w',u.R M' u'->Rel M' (heapX h [idc,idk,idm] [sid] [so] nb) w'->Fr h (heapX h [idc,idk,idm] [sid] [so] nb) M M' w w'->Ab h (heapX h [idc,idk,idm] [sid] [so] nb)->R (.returned u') w') →
    (callFunc 19 us.toArray).run Try.prog w=.ok (.enter 19 us.toArray) w/\CallsIn (FW r) 0 Try.prog 19 us.toArray w R:=by
  intro so nb u hnb hcase
  refine ⟨⟨Nat.le_add_right _ _,hab so nb hnb⟩,λ M us w r R ra rr fr k'=>⟨enter_of Try.func19 (by kernel_rfl) (by kernel_rfl) _ _,?_⟩⟩
  have hnn:h.get h.nx=none:=by
   cases hh:h.get h.nx with
   | none=>rfl
   | some o=>have:=rr.wf h.nx (by rw [hh];simp);omega
  simp only [AV.RL] at ra
  obtain ⟨S,_,rS,⟨T,_,rT,rfl,rfl⟩,rfl⟩:=ra
  simp only [AV.R] at rS rT
  obtain ⟨bs,κs,hMs,rfl⟩:=rS
  obtain ⟨vs,rvs,rfl⟩:=rT
  have hst:vs=stV (λ _=>false) (λ _=>false) (λ _=>0):=zOk_V hzo rvs
  subst hst
  obtain ⟨ob,hbs,cl,rest,rl,rfl,hrest⟩:=Ob_of rr hgs hMs
  have hrest:rest=[]:=hrest
  subst hrest
  simp only [AV.RL] at rl
  obtain ⟨vc,_,rc,⟨vk,_,rk,⟨vm,_,rm,⟨vo,_,ro,rfl,rfl⟩,rfl⟩,rfl⟩,rfl⟩:=rl
  have rm:∃ b c,M idm=some (b,c)/\vm=.map (some b):=rm
  obtain ⟨bm,κm,hMm,rfl⟩:=rm
  have ro:vo=.slice none 0 0:=ro
  subst ro
  obtain ⟨obm,hbm,lm',el,rfl⟩:=Ob_of rr hgm hMm
  have el:lm'=[]:=by simpa [EL] using el
  subst el
  obtain ⟨Z,hZ⟩:∃ Z,Z=zL M w [idc,idk]:=⟨_,rfl⟩
  have hzl:ZLe M ⟨λ _=>none,Z⟩:=λ b cs e=>by show Z b=some cs;rw [hZ];exact zL_le e
  obtain ⟨rc1,rc2⟩:=ysl_lst (M':=⟨λ _=>none,Z⟩) (ks:=kCl) rr hgc rfl hzl (λ b κ cs t fr h1 h2=>by show Z b=some cs;rw [hZ];exact zL_at rr (by simp) hgc rfl h1 h2) hrc rc
  obtain ⟨rk1,rk2⟩:=ysl_lst (M':=⟨λ _=>none,Z⟩) (ks:=[.int .u64]) rr hgk rfl hzl (λ b κ cs t fr h1 h2=>by show Z b=some cs;rw [hZ];exact zL_at rr (by simp) hgk rfl h1 h2) hrk rk
  rw [caC_cols] at rc1
  have hno:∀ b κ id o,h.get id=some o->o.ro=false->M id=some (b,κ)->id ∉ [idc,idk]->Z b=none:=λ b κ id o h1 h2 h3 h4=>by
   cases hz:Z b with
   | none=>rfl
   | some cs=>
     exfalso
     rw [hZ] at hz
     rcases zL_inv hz with e1 | ⟨id',κ',e,fr,q1,q2,q3⟩
     . rw [rr.fo id b κ o h1 h2 h3] at e1;cases e1
     . have hg':h.get id' ≠ none:=by
        simp only [List.mem_cons,List.not_mem_nil,or_false] at q1
        rcases q1 with rfl | rfl
        . rw [hgc];simp
        . rw [hgk];simp
       have:=rr.inj id id' b κ κ' o h1 h2 hg' h3 q2
       exact h4 (by rw [this];exact q1)
  have zs:Z bs=none:=hno bs κs sid _ hgs rfl hMs (by simp only [List.mem_cons,List.not_mem_nil,or_false];omega)
  have zm:Z bm=none:=hno bm κm idm _ hgm rfl hMm (by simp only [List.mem_cons,List.not_mem_nil,or_false];omega)
  have hbms:bm ≠ bs:=λ e=>d6 (rr.inj idm sid bm κm κs _ hgm rfl (by rw [hgs];simp) hMm (by rw [e];exact hMs))
  have hSr:SrW nc n (caC f) nk m (λ i=>toI (g i 0)) Z bs vc vk (.map (some bm)) (.slice none 0 0) w:=⟨by simpa using hbs,λ b cs e=>by
   rw [hZ] at e
   rcases zL_inv e with e1 | ⟨id',κ',t,fr,q1,q2,q3⟩
   . exact rr.fz b cs e1
   . exact ⟨t,fr,q3⟩,rc1,rk1,rc2,rk2,rfl,rfl⟩
  have hWf:smW (caC f) n:=λ i hi=>List.all_eq_true.1 hW i (List.mem_range.2 hi)
  have hfrom:=from_c (nc:=nc) (nk:=nk) (Z:=Z) (bs:=bs) (bm:=bm) (vc:=vc) (vk:=vk) mixed hQ hK hWf hbms zm zs n (λ _=>false) (λ _=>false) (λ _=>0) w (.slice none 0 0) [] #[] ck (λ _=>False) hSr (un_all n)
   ⟨λ _ _=>by decide,λ _ _ _=>rfl⟩ (by simpa using hbm) ⟨MapKept.stamped_empty ck,λ x hx=>by simp at hx⟩ (λ s hs=>hs.elim) ⟨rfl,.inl ⟨rfl,rfl⟩⟩ (λ g hg=>by simp [Value.ownBlock] at hg) (by have:=(of_decide_eq_true hQ).1;simp;omega)
  refine (callsIn_wide (n:=0)).2 (hfrom.mono λ e w' ⟨he,vo',es',clock',hsb,hmb,hkp,hown,hrow,_,hnil⟩=>?_)
  subst he
  obtain ⟨b,rfl,hb,hcase⟩:=hcase
  have hkp2:Kp (λ g=>g=bs ∨ g=bm) w w':=⟨hkp.os,hkp.tape,hkp.output,hkp.size,λ k hk hs=>hkp.block k hk λ x=>by
   rcases x with x | x | x
   . exact hs (.inl x)
   . exact hs (.inr x)
   . simp [Value.ownBlock] at x⟩
  have hbb:(srX (caC f) n (λ i=>toI (g i 0)) m n (λ _=>false) (λ _=>false) (λ _=>0)).isSome=b:=hb
  rw [hbb]
  have hLs:∀ id ∈ [idc,idk],id ≠ sid/\id ≠ idm/\∃ o,h.get id=some o/\o.ro=false:=λ id hi=>by
   simp only [List.mem_cons,List.not_mem_nil,or_false] at hi
   rcases hi with rfl | rfl
   . exact ⟨d3,d2,_,hgc,rfl⟩
   . exact ⟨d5,d4,_,hgk,rfl⟩
  have hfrn:∀ hh:h.nx < (heapX h [idc,idk,idm] [sid] [so] nb).nx,M h.nx=none:=λ hh=>fr h.nx (Nat.le_refl _) hh
  rcases hcase with ⟨rfl,rfl,rfl⟩ | ⟨rfl,rfl,rfl⟩
  . have hMn:M h.nx=none:=hfrn (Nat.lt_succ_self _)
    rw [List.nil_append] at hrow
    have hN:fiN (caC f) n (λ i=>toI (g i 0)) m=((srX (caC f) n (λ i=>toI (g i 0)) m n (λ _=>false) (λ _=>false) (λ _=>0)).getD []).length:=rfl
    have hI:∀ q,fiI (caC f) n (λ i=>toI (g i 0)) m q=cqId (caC f) (((srX (caC f) n (λ i=>toI (g i 0)) m n (λ _=>false) (λ _=>false) (λ _=>0)).getD []).getD q 0):=λ _=>rfl
    generalize hr:srX (caC f) n (λ i=>toI (g i 0)) m n (λ _=>false) (λ _=>false) (λ _=>0)=ro at *
    obtain ⟨L,rfl⟩:=Option.isSome_iff_exists.1 hbb
    rw [Option.getD_some] at hrow hN hI
    rw [hN] at k'
    cases L with
    | nil=>
      have hv:vo'=.slice none 0 0:=hnil rfl
      subst hv
      obtain ⟨q1,q2⟩:=frA_heap (p:=none) (so:=.cells (frC1 (yNeq ([]:List Nat).length 0) h.nx ([]:List Nat).length) 57 none) (nbo:=some (.arr false 3 1 ([]:List Nat).length (λ q _=>.y .i64 (fiI (caC f) n (λ i=>toI (g i 0)) m q)))) (obs:=.cells #[vc,vk,.map (some bm),.slice none 0 0] 57 (0,0)) rr hMn (Nat.le_add_right _ 1) (λ _=>Nat.lt_succ_self _) hZ hgs rfl hMs hgm hMm hLs (spec hnn (.cells (frC1 (yNeq ([]:List Nat).length 0) h.nx ([]:List Nat).length) 57 none) [.arr false 3 1 ([]:List Nat).length (λ q _=>.y .i64 (fiI (caC f) n (λ i=>toI (g i 0)) m q))] (Nat.le_refl 1)) (Ne.symm d6) hkp2 hsb
       ⟨[vc,vk,.map (some bm),.slice none 0 0],[],by
         simp only [AV.RL,AV.R]
         exact ⟨vc,_,rc2,⟨vk,_,rk2,⟨.map (some bm),_,rfl,⟨.slice none 0 0,_,.inl ⟨rfl,rfl,rfl⟩,rfl,rfl⟩,rfl⟩,rfl⟩,rfl⟩,rfl,rfl⟩ rfl
       (λ o ho=>by
         simp only [sI] at ho
         subst ho
         exact ⟨rfl,.inl ⟨rfl,rfl⟩⟩) (λ _ _ e=>by cases e)
      exact k' _ _ _ (by simp only [AV.R]) q1 q2 (hab _ _ (by simp))
    | cons i L=>
      obtain ⟨hr1,hr2⟩:=hrow
      rcases hr2 with ⟨_,h0⟩ | ⟨gb,cap,cur,rfl,_,hgb,hncap,_,hsz,htk⟩
      . simp at h0
      . have hge:w.heap.size<=gb:=by
         rcases hown gb rfl with h0 | h0
         . simp [Value.ownBlock] at h0
         . exact h0
        obtain ⟨q1,q2⟩:=frA_heap (p:=some (gb,cap)) (so:=.cells (frC1 (yNeq (i :: L).length 0) h.nx (i :: L).length) 57 none) (nbo:=some (.arr false 3 1 (i :: L).length (λ q _=>.y .i64 (fiI (caC f) n (λ i=>toI (g i 0)) m q)))) (obs:=.cells #[vc,vk,.map (some bm),.slice (some ⟨gb,0,none⟩) (i :: L).length cap] 57 (0,0)) rr hMn (Nat.le_add_right _ 1) (λ _=>Nat.lt_succ_self _) hZ hgs rfl hMs hgm hMm hLs (spec hnn (.cells (frC1 (yNeq (i :: L).length 0) h.nx (i :: L).length) 57 none) [.arr false 3 1 (i :: L).length (λ q _=>.y .i64 (fiI (caC f) n (λ i=>toI (g i 0)) m q))] (Nat.le_refl 1)) (Ne.symm d6) hkp2 hsb
         ⟨[vc,vk,.map (some bm),.slice (some ⟨gb,0,none⟩) (i :: L).length cap],[],by
           simp only [AV.RL,AV.R]
           exact ⟨vc,_,rc2,⟨vk,_,rk2,⟨.map (some bm),_,rfl,⟨_,_,.inr (.inr ⟨rfl,gb,cap,cap,by simp,rfl,hncap,Nat.succ_pos _,λ _=>⟨Nat.le_refl _,by rw [Nat.zero_add];exact hncap⟩⟩),rfl,rfl⟩,rfl⟩,rfl⟩,rfl⟩,rfl,rfl⟩ rfl
         (λ o ho=>by
           simp only [sI] at ho
           subst ho
           refine ⟨rfl,.inr ⟨gb,cap,_,rfl,hge,hgb,⟨cur,rfl,hsz,hncap,λ q hq j hj=>?_⟩⟩⟩
           obtain rfl:j=0:=by omega
           have e1:cur.toList[q]?=(idsO (caC f) (i :: L))[q]?:=by
            rw [<- htk,List.getElem?_take,if_pos (by omega)]
           refine ⟨.int .i64 (cqId (caC f) ((i :: L).getD q 0)),?_,rfl,?_⟩
           . rw [show q * 1 + 0=q by omega,<- Array.getElem?_toList,e1,List.getElem?_map,List.getElem?_eq_getElem hq]
             rw [List.getD_eq_getElem?_getD,List.getElem?_eq_getElem hq]
             rfl
           . simp only [AV.R]
             rw [hI]) (λ g' κ' e=>by
           simp only [sI,Prod.mk.injEq] at e
           rw [<- e.1];exact hge)
        exact k' _ _ _ (by simp only [AV.R]) q1 q2 (hab _ _ (by simp))
  . have hMn:M h.nx=none:=hfrn (Nat.lt_succ_self _)
    obtain ⟨q1,q2⟩:=frA_heap (p:=none) (so:=.cells [.jk,.jk,.jk,.jk] 57 none) (nbo:=some (.arr false 3 1 0 (λ _ _=>.np))) (obs:=.cells #[vc,vk,.map (some bm),vo'] 57 (0,0)) rr hMn (Nat.le_add_right _ 1) (λ _=>Nat.lt_succ_self _) hZ hgs rfl hMs hgm hMm hLs (spec hnn (.cells [.jk,.jk,.jk,.jk] 57 none) [.arr false 3 1 0 (λ _ _=>.np)] (Nat.le_refl 1)) (Ne.symm d6) hkp2 hsb
     ⟨[vc,vk,.map (some bm),vo'],[],by
       simp only [AV.RL,AV.R]
       refine ⟨vc,_,rc2,⟨vk,_,rk2,⟨.map (some bm),_,rfl,⟨vo',_,?_,rfl,rfl⟩,rfl⟩,rfl⟩,rfl⟩
       rcases hrow.2 with ⟨h0,_⟩ | ⟨gb,cap,cur,h0,_⟩ <;> rw [h0] <;> rfl,rfl,rfl⟩ rfl
     (λ o ho=>by
       simp only [sI] at ho
       subst ho
       exact ⟨rfl,.inl ⟨rfl,rfl⟩⟩) (λ _ _ e=>by cases e)
    exact k' _ _ _ (by simp only [AV.R]) q1 q2 (hab _ _ (by simp))
 rcases T.sel_br g7 with ⟨hb,hg⟩ | ⟨hb,hg⟩
 . have hg:=T.sel_ret hg
   simp only [Prod.mk.injEq] at hg
   obtain ⟨rfl,rfl⟩:=hg
   exact key _ _ _ (by simp) ⟨true,rfl,hb,.inl ⟨rfl,rfl,rfl⟩⟩
 . have hg:=T.sel_ret hg
   simp only [Prod.mk.injEq] at hg
   obtain ⟨rfl,rfl⟩:=hg
   exact key _ _ _ (by simp) ⟨false,rfl,hb,.inr ⟨rfl,rfl,rfl⟩⟩
def fFi (ds:List Dx):Option (Bool × Dx × List (List Dx)):=
 match ds with
 | [.rows _ n [.int .i64 kd,.int .i64 th,.int .i64 id,.int .i64 at_,.int .i64 ok,.int .u64 key,.int .u64 val,.int .u64 hi,.int .i64 most,.int .i64 rk,.int .u64 rv,.ls nl pn [.int .u64 pk,.int .u64 pv]]]=>some (yAnd (preE ⟨kd,th,id,at_,ok,key,val,hi,most,rk,rv,nl,pn,pk,pv⟩ n) (yAnd (wfE ⟨kd,th,id,at_,ok,key,val,hi,most,rk,rv,nl,pn,pk,pv⟩ n) (wvE ⟨kd,th,id,at_,ok,key,val,hi,most,rk,rv,nl,pn,pk,pv⟩ n)),.l [.rows (yNeq (fdN ⟨kd,th,id,at_,ok,key,val,hi,most,rk,rv,nl,pn,pk,pv⟩ n) 0) (fdN ⟨kd,th,id,at_,ok,key,val,hi,most,rk,rv,nl,pn,pk,pv⟩ n) [.int .i64 (fdI ⟨kd,th,id,at_,ok,key,val,hi,most,rk,rv,nl,pn,pk,pv⟩ n)],.v (.y .i64 (fdE ⟨kd,th,id,at_,ok,key,val,hi,most,rk,rv,nl,pn,pk,pv⟩ n))],[])
 | _=>none
def cntLs (E:EvS)(i:Nat):Nat:=((List.range i).filter λ j=>decide (eKd E j=1/\eOk E j ≠ 4)).length
def smQs (E:EvS)(n:Nat)(x:Int):Bool:=decide (n<=60/\(cntLs E n:Int)<=x/\∀ j,j < n->ePn E j<=50)
def prSl2 (E:EvS)(n i:Nat):Prop:=i<=n/\∀ j,j < i->ePn E j<=50
def mSl2 (n i:Nat):Nat:=n - i
def annSl2 (E:EvS)(n:Nat)(b:Nat):Option (St->LoopA):=
 match b with
 | 0=>some λ _=>{ ι:=Nat,tms:=[5,6],tmU:=λ i=>[.y .i64 (yInt (cntLs E i)),.y .i64 (yInt i)],ids:=[],hpU:=λ _=>[],del:=[],ex:=0,pre:=prSl2 E n,ms:=mSl2 n }
 | _=>none
def goalSml:Prop:=∀ (E:EvS) (nil:Bool) (n:Nat) (x:Int),yNle n 9223372036854775807=true →
 wxH Try.prog noSm (annSl2 E n) 5 [sEv,.sc] [.rows nil n (colsE E),.v (.y .i64 x)] .sc (.v (.yb (smQs E n x))) []
def goalSmlV:Prop:=(∀ (E:EvS) (nil:Bool) (n:Nat) (x:Int),yNle n (nat_lit 9223372036854775807)=true->true=true/\(∃ (i0:Nat),prSl2 E n i0/\true=true/\yInt (cntLs E i0)=(0:Int)/\yInt i0=(0:Int)/\true=true)/\∀ (g:Nat->AV) (i:Nat),prSl2 E n i->(yLt (yInt i) (yInt n)=true->mst (yIn (yInt i) n) ((yLt 50 (yInt (ePn E (yNat (yInt i))))=true->smQs E n x=false/\true=true)/\(yLt 50 (yInt (ePn E (yNat (yInt i))))=false->mst (yIn (yInt i) n) ((yEq (eKd E (yNat (yInt i))) (1:Int)=true->mst (yIn (yInt i) n) ((yNot (yEq (eOk E (yNat (yInt i))) 4)=true->true=true/\∃ (i':Nat),prSl2 E n i'/\Nat.succ (mSl2 n i')<=mSl2 n i/\true=true/\yInt (cntLs E i')=yWrap .i64 (yAdd (yInt (cntLs E i)) 1)/\yInt i'=yWrap .i64 (yAdd (yInt i) 1)/\true=true)/\(yNot (yEq (eOk E (yNat (yInt i))) 4)=false->true=true/\∃ (i':Nat),prSl2 E n i'/\Nat.succ (mSl2 n i')<=mSl2 n i/\true=true/\yInt (cntLs E i')=yInt (cntLs E i)/\yInt i'=yWrap .i64 (yAdd (yInt i) 1)/\true=true)))/\(yEq (eKd E (yNat (yInt i))) (1:Int)=false->true=true/\∃ (i':Nat),prSl2 E n i'/\Nat.succ (mSl2 n i')<=mSl2 n i/\true=true/\yInt (cntLs E i')=yInt (cntLs E i)/\yInt i'=yWrap .i64 (yAdd (yInt i) 1)/\true=true)))))/\(yLt (yInt i) (yInt n)=false->(yLe (yInt n) (60:Int)=true->smQs E n x=yLe (yInt (cntLs E i)) x/\true=true)/\(yLe (yInt n) (60:Int)=false->smQs E n x=false/\true=true)))
theorem goalSml_eq:goalSml=goalSmlV:=by kernel_rfl
set_option maxHeartbeats 8000000 in
theorem goalSml_vc:goalSmlV:=by
 unfold goalSmlV
 intro E nil n x hn
 have hn:n<=9223372036854775807:=of_decide_eq_true hn
 have hw:∀ i N:Nat,i < N->N<=9223372036854775807->yInt (i + 1)=yWrap .i64 (yAdd (yInt i) 1):=λ i N h1 h2=>by
  show ((i + 1:Nat):Int)=yWrap .i64 ((i:Int) + 1)
  rw [wrap64 (by omega) (by omega)];omega
 have cs:∀ i,cntLs E (i + 1)=cntLs E i + (if eKd E i=1/\eOk E i ≠ 4 then 1 else 0):=λ i=>by
  unfold cntLs
  rw [List.range_succ,List.filter_append,List.length_append]
  by_cases h:eKd E i=1/\eOk E i ≠ 4 <;> simp [h]
 have cl:∀ i,cntLs E i<=i:=λ i=>by
  have:=List.length_filter_le (λ j=>decide (eKd E j=1/\eOk E j ≠ 4)) (List.range i)
  simpa [cntLs] using this
 refine ⟨rfl,⟨0,⟨Nat.zero_le _,λ j hj=>absurd hj (Nat.not_lt_zero _)⟩,rfl,rfl,rfl,rfl⟩,λ g i hi=>⟨λ h=>?_,λ h=>?_⟩⟩
 . have hl:=yLtN h
   have hc:=cl i
   refine mstI (yInN hl) ⟨λ e=>⟨decide_eq_false λ d=>?_,rfl⟩,λ e=>?_⟩
   . have e:(50:Int) < (ePn E i:Int):=of_decide_eq_true e
     have:=d.2.2 i hl
     omega
   have hp:prSl2 E n (i + 1):=⟨hl,λ j hj=>by
    have e:¬ (50:Int) < (ePn E i:Int):=of_decide_eq_false e
    rcases Nat.lt_succ_iff_lt_or_eq.1 hj with h1 | rfl
    . exact hi.2 j h1
    . omega⟩
   have hm:Nat.succ (mSl2 n (i + 1))<=mSl2 n i:=by unfold mSl2;omega
   refine mstI (yInN hl) ⟨λ e1=>mstI (yInN hl) ⟨λ e2=>⟨rfl,i + 1,hp,hm,rfl,?_,hw i n hl hn,rfl⟩,λ e2=>⟨rfl,i + 1,hp,hm,rfl,?_,hw i n hl hn,rfl⟩⟩,λ e1=>⟨rfl,i + 1,hp,hm,rfl,?_,hw i n hl hn,rfl⟩⟩
   . have e1:eKd E i=1:=of_decide_eq_true e1
     have e2:eOk E i ≠ 4:=λ x=>by
      have e3:yNot (yEq (eOk E i) 4)=true:=e2
      rw [x] at e3;cases e3
     rw [cs,if_pos ⟨e1,e2⟩]
     exact hw _ n (by omega) hn
   . have e2:eOk E i=4:=Classical.byContradiction λ x=>by
      have e3:yNot (yEq (eOk E i) 4)=false:=e2
      rw [show yEq (eOk E i) 4=false from decide_eq_false x] at e3;cases e3
     rw [cs,if_neg (λ x=>x.2 e2),Nat.add_zero]
   . have e1:¬ eKd E i=1:=of_decide_eq_false e1
     rw [cs,if_neg (λ x=>e1 x.1),Nat.add_zero]
 . have hge:=yLtF h
   have hi1:i<=n:=hi.1
   obtain rfl:i=n:=by omega
   refine ⟨λ e=>⟨?_,rfl⟩,λ e=>⟨decide_eq_false λ d=>?_,rfl⟩⟩
   . have e:(i:Int)<=60:=of_decide_eq_true e
     show decide (i<=60/\(cntLs E i:Int)<=x/\∀ j,j < i->ePn E j<=50)=decide ((cntLs E i:Int)<=x)
     rw [decide_eq_decide]
     exact ⟨λ d=>d.2.1,λ d=>⟨by omega,d,hi.2⟩⟩
   . have e:¬ (i:Int)<=60:=of_decide_eq_false e
     have:=d.1
     omega
theorem goalSml_tt:(goalSml)=True:=goalSml_eq.trans (eq_true goalSml_vc)
theorem goalSml_ok:goalSml:=@ft' goalSml goalSml_tt
def fSml (ds:List Dx):Option (Bool × Dx × List (List Dx)):=
 match ds with
 | [.rows _ n [.int .i64 kd,.int .i64 th,.int .i64 id,.int .i64 at_,.int .i64 ok,.int .u64 key,.int .u64 val,.int .u64 hi,.int .i64 most,.int .i64 rk,.int .u64 rv,.ls nl pn [.int .u64 pk,.int .u64 pv]],.v (.y .i64 x)]=>some (yNle n 9223372036854775807,.v (.yb (smQs ⟨kd,th,id,at_,ok,key,val,hi,most,rk,rv,nl,pn,pk,pv⟩ n x)),[])
 | _=>none
def lAw:List (Nat × Sm):=[(7,.ct (ctX [sEv] rFi fFi))]
def lLw:List (Nat × Sm):=[(5,.ct (ctX [sEv,.sc] .sc fSml)),(6,.call (smB true)),(7,.ct (ctX [sEv] rFi fFi)),(8,.ct (ctX [sEv,sPi] (.tup [.sc,.sc]) fLc))]
def goalLw:Prop:=∀ (E:EvS) (nil:Bool) (n:Nat) (nilO:Bool) (m:Nat) (o:Nat->Int),yNle n 9223372036854775807=true->yNle m 9223372036854775807=true->wfE E n=true->wvE E n=true →
 (fdE E n=0->lcF E n (fdI E n) (fdN E n)=0)->(lcF E n o m=0->fdE E n ≠ 7)->yNle (fdN E n) 60=true →
 wxF Try.prog (smL lLw) (λ _=>none) 1000 3 [.lst false nil 12 n (colF (colsE E)),.lst false nilO 1 m (colF [.int .i64 o])] ⟨.lf,0,0,[]⟩ (λ r _=>cmpC (.yb true) r)
def goalLw_1 (n:Nat)(E:EvS):=yCol (CK.ls [K1.int .u64,K1.int .u64]) n λ (i:Nat)=>AV.lst false (eNil E i) 2 (ePn E i) (cl2F [Cl2.int .u64 (ePk E),Cl2.int .u64 (ePv E)] i)
def goalLw_0 (n:Nat)(E:EvS)(m:Nat)(o:Nat->Int):=mst (yCol (CK.int .i64) n λ (i:Nat)=>AV.y .i64 (eTh E i)) (mst (yCol (CK.int .i64) n λ (i:Nat)=>AV.y .i64 (eId E i)) (mst (yCol (CK.int .i64) n λ (i:Nat)=>AV.y .i64 (eAt E i)) (mst (yCol (CK.int .i64) n λ (i:Nat)=>AV.y .i64 (eOk E i)) (mst (yCol (CK.int .u64) n λ (i:Nat)=>AV.y .u64 (eKey E i)) (mst (yCol (CK.int .u64) n λ (i:Nat)=>AV.y .u64 (eVal E i)) (mst (yCol (CK.int .u64) n λ (i:Nat)=>AV.y .u64 (eHi E i)) (mst (yCol (CK.int .i64) n λ (i:Nat)=>AV.y .i64 (eMost E i)) (mst (yCol (CK.int .i64) n λ (i:Nat)=>AV.y .i64 (eRk E i)) (mst (yCol (CK.int .u64) n λ (i:Nat)=>AV.y .u64 (eRv E i)) (mst (goalLw_1 n E) (mst (yCol (CK.int .i64) m λ (i:Nat)=>AV.y .i64 (o i)) (mst (yAnd (preE E n) (yNle m 60)) ((yEq (lcF E n o m) (0:Int)=true->(yEq (fdE E n) (7:Int)=true->true=false)/\(yEq (fdE E n) (7:Int)=false->true=true))/\(yEq (lcF E n o m) (0:Int)=false->true=true))))))))))))))
def goalLw_2 (n:Nat)(E:EvS):=yCol (CK.int .i64) n λ (i:Nat)=>AV.y .i64 (eKd E i)
def goalLwV:Prop:=(∀ (E:EvS) (nil:Bool) (n:Nat) (nilO:Bool) (m:Nat) (o:Nat->Int),yNle n (nat_lit 9223372036854775807)=true->yNle m (nat_lit 9223372036854775807)=true->wfE E n=true->wvE E n=true->(fdE E n=(0:Int)->lcF E n (fdI E n) (fdN E n)=(0:Int))->(lcF E n o m=(0:Int)->fdE E n=(7:Int)->False)->yNle (fdN E n) (nat_lit 60)=true->mst (goalLw_2 n E) (mst (yCol (CK.int .i64) n λ (i:Nat)=>AV.y .i64 (eTh E i)) (mst (yCol (CK.int .i64) n λ (i:Nat)=>AV.y .i64 (eId E i)) (mst (yCol (CK.int .i64) n λ (i:Nat)=>AV.y .i64 (eAt E i)) (mst (yCol (CK.int .i64) n λ (i:Nat)=>AV.y .i64 (eOk E i)) (mst (yCol (CK.int .u64) n λ (i:Nat)=>AV.y .u64 (eKey E i)) (mst (yCol (CK.int .u64) n λ (i:Nat)=>AV.y .u64 (eVal E i)) (mst (yCol (CK.int .u64) n λ (i:Nat)=>AV.y .u64 (eHi E i)) (mst (yCol (CK.int .i64) n λ (i:Nat)=>AV.y .i64 (eMost E i)) (mst (yCol (CK.int .i64) n λ (i:Nat)=>AV.y .i64 (eRk E i)) (mst (yCol (CK.int .u64) n λ (i:Nat)=>AV.y .u64 (eRv E i)) (mst (goalLw_1 n E) (mst (yNle n 9223372036854775807) ((yNot (smQs E n 60)=true->true=true)/\(yNot (smQs E n 60)=false->(yLt 60 (yInt m)=true->true=true)/\(yLt 60 (yInt m)=false->mst (goalLw_2 n E) (mst (yCol (CK.int .i64) n λ (i:Nat)=>AV.y .i64 (eTh E i)) (mst (yCol (CK.int .i64) n λ (i:Nat)=>AV.y .i64 (eId E i)) (mst (yCol (CK.int .i64) n λ (i:Nat)=>AV.y .i64 (eAt E i)) (mst (yCol (CK.int .i64) n λ (i:Nat)=>AV.y .i64 (eOk E i)) (mst (yCol (CK.int .u64) n λ (i:Nat)=>AV.y .u64 (eKey E i)) (mst (yCol (CK.int .u64) n λ (i:Nat)=>AV.y .u64 (eVal E i)) (mst (yCol (CK.int .u64) n λ (i:Nat)=>AV.y .u64 (eHi E i)) (mst (yCol (CK.int .i64) n λ (i:Nat)=>AV.y .i64 (eMost E i)) (mst (yCol (CK.int .i64) n λ (i:Nat)=>AV.y .i64 (eRk E i)) (mst (yCol (CK.int .u64) n λ (i:Nat)=>AV.y .u64 (eRv E i)) (mst (goalLw_1 n E) (mst (yAnd (preE E n) (yAnd (wfE E n) (wvE E n))) ((yEq (fdE E n) (0:Int)=true->mst (goalLw_2 n E) (mst (yCol (CK.int .i64) n λ (i:Nat)=>AV.y .i64 (eTh E i)) (mst (yCol (CK.int .i64) n λ (i:Nat)=>AV.y .i64 (eId E i)) (mst (yCol (CK.int .i64) n λ (i:Nat)=>AV.y .i64 (eAt E i)) (mst (yCol (CK.int .i64) n λ (i:Nat)=>AV.y .i64 (eOk E i)) (mst (yCol (CK.int .u64) n λ (i:Nat)=>AV.y .u64 (eKey E i)) (mst (yCol (CK.int .u64) n λ (i:Nat)=>AV.y .u64 (eVal E i)) (mst (yCol (CK.int .u64) n λ (i:Nat)=>AV.y .u64 (eHi E i)) (mst (yCol (CK.int .i64) n λ (i:Nat)=>AV.y .i64 (eMost E i)) (mst (yCol (CK.int .i64) n λ (i:Nat)=>AV.y .i64 (eRk E i)) (mst (yCol (CK.int .u64) n λ (i:Nat)=>AV.y .u64 (eRv E i)) (mst (goalLw_1 n E) (mst (yNle (yNadd 0 (fdN E n)) (fdN E n)) (mst (yCol (CK.int .i64) (fdN E n) λ (i:Nat)=>AV.y .i64 (fdI E n i)) (mst (yAnd (preE E n) (yNle (fdN E n) 60)) ((yNot (yEq (lcF E n (fdI E n) (fdN E n)) 0)=true->true=false)/\(yNot (yEq (lcF E n (fdI E n) (fdN E n)) 0)=false->mst (goalLw_2 n E) (goalLw_0 n E m o))))))))))))))))))/\(yEq (fdE E n) (0:Int)=false->mst (goalLw_2 n E) (goalLw_0 n E m o)))))))))))))))))))))))))))))))
theorem goalLw_eq:goalLw=goalLwV:=by kernel_rfl
set_option maxHeartbeats 8000000 in
theorem goalLw_vc:goalLwV:=by
 unfold goalLwV goalLw_2 goalLw_0 goalLw_1
 intro E nil n nilO m o hn hm hwf hwv h1 h2 h60
 have hcol:∀ (q:Nat) (z:Nat->Bool) (r:Nat->Nat) (a b:Nat->Nat->Int),(yCol (CK.ls [K1.int .u64,K1.int .u64]) q λ (i:Nat)=>AV.lst false (z i) 2 (r i) (cl2F [Cl2.int .u64 a,Cl2.int .u64 b] i))=true:=λ q z r a b=>yCol_ok.2 λ i _=>List.all_eq_true.2 λ p _=>rfl
 iterate 11 refine mstI yCol_int ?_
 refine mstI (hcol _ _ _ _ _) (mstI hn ?_)
 cases hs:smQs E n 60 with
 | false=>exact fork_t rfl rfl
 | true=>
 obtain ⟨s1,s2,s3⟩:=of_decide_eq_true hs
 have hpre:preE E n=true:=decide_eq_true ⟨by omega,s3⟩
 refine fork_f rfl ⟨λ _=>rfl,λ hm60=>?_⟩
 have hm60:yNle m 60=true:=by
  have h9:¬ (60:Int) < (m:Int):=of_decide_eq_false hm60
  exact decide_eq_true (by omega)
 have hP:yAnd (preE E n) (yAnd (wfE E n) (wvE E n))=true:=by rw [hpre,hwf,hwv];rfl
 have hQ:yAnd (preE E n) (yNle m 60)=true:=by rw [hpre,hm60];rfl
 have hR:yAnd (preE E n) (yNle (fdN E n) 60)=true:=by rw [hpre,h60];rfl
 iterate 11 refine mstI yCol_int ?_
 refine mstI (hcol _ _ _ _ _) (mstI hP ?_)
 have fin:(yEq (lcF E n o m) 0=true->(yEq (fdE E n) 7=true->true=false)/\(yEq (fdE E n) 7=false->true=true))/\(yEq (lcF E n o m) 0=false->true=true):=
  ⟨λ e=>⟨λ e7=>(h2 (of_decide_eq_true e) (of_decide_eq_true e7)).elim,λ _=>rfl⟩,λ _=>rfl⟩
 refine ⟨λ e=>?_,λ e=>?_⟩
 . iterate 11 refine mstI yCol_int ?_
   refine mstI (hcol _ _ _ _ _) (mstI (decide_eq_true (by show 0 + fdN E n<=fdN E n;omega)) (mstI yCol_int (mstI hR ⟨λ e0=>?_,λ e0=>?_⟩)))
   . rw [h1 (of_decide_eq_true e)] at e0
     cases e0
   . iterate 11 refine mstI yCol_int ?_
     refine mstI (hcol _ _ _ _ _) (mstI yCol_int (mstI hQ fin))
 . iterate 11 refine mstI yCol_int ?_
   refine mstI (hcol _ _ _ _ _) (mstI yCol_int (mstI hQ fin))
theorem goalLw_tt:(goalLw)=True:=goalLw_eq.trans (eq_true goalLw_vc)
theorem goalLw_ok:goalLw:=@ft' goalLw goalLw_tt
theorem srX_len {C:CaS}{n:Nat}{K:Nat->Int}{m:Nat}:∀ {k:Nat} {D B:Nat->Bool} {V:Nat->Int} {L:List Nat},srX C n K m k D B V=some L->L.length<=k
 | k,D,B,V,L,h=>by
   unfold srX at h
   split at h
   . simp only [sI] at h;subst h
     exact Nat.zero_le _
   . cases k with
     | zero=>cases h
     | succ k=>
       obtain ⟨i,hi,h⟩:=List.exists_of_findSome?_eq_some h
       split at h
       . cases hr:srX C n K m k (doLD D i) (doLB C i (ixN K m C i) B) (doLV C i (ixN K m C i) V) with
         | none=>rw [hr] at h;cases h
         | some L'=>
           rw [hr] at h
           simp only [Option.map_some,sI] at h
           subst h
           have:=srX_len hr
           rw [List.length_cons];omega
       . cases h
theorem fdN_le {E:EvS}{n:Nat}:yNle (fdN E n) 60=true:=by
 refine decide_eq_true ?_
 unfold fdN
 split
 . rename_i h
   unfold fdE at h
   split at h
   . cases h
   . split at h
     . cases h
     . rename_i h2
       unfold fiN
       cases hL:fiL (caE E n) (nsN E n (resN E n)) (kyF E n) (kyN E n) with
       | none=>exact Nat.zero_le _
       | some L=>
         have:=srX_len hL
         show L.length<=60
         omega
 . exact Nat.zero_le _
theorem smFi (hm:Try.prog.follows .mixedOrders=true)(hs:SmOK Try.prog (smL lFi)):SmCall Try.prog 7 (λ args h=>(ctX [sEv] rFi fFi args h).sel):=
 ctX_ok hm hs (λ ds r post h=>by
  unfold fFi at h
  split at h
  . rename_i nil n kd th id at_ ok key val hi most rk rv nl pn pk pv
    simp only [sI,Prod.mk.injEq] at h
    obtain ⟨h1,rfl,rfl⟩:=h
    obtain ⟨h1,h3⟩:=yAnd_t.mp h1
    obtain ⟨h3,h4⟩:=yAnd_t.mp h3
    have h2:=@goalFi_ok
    unfold goalFi at h2
    exact ⟨annFi ⟨kd,th,id,at_,ok,key,val,hi,most,rk,rv,nl,pn,pk,pv⟩ n,1000,@h2 ⟨kd,th,id,at_,ok,key,val,hi,most,rk,rv,nl,pn,pk,pv⟩ nil n h1 h3 h4⟩
  . cases h)
theorem smSml (hm:Try.prog.follows .mixedOrders=true):SmCall Try.prog 5 (λ args h=>(ctX [sEv,.sc] .sc fSml args h).sel):=
 ctX_ok hm noSm_ok (λ ds r post h=>by
  unfold fSml at h
  split at h
  . rename_i nil n kd th id at_ ok key val hi most rk rv nl pn pk pv x
    simp only [sI,Prod.mk.injEq] at h
    obtain ⟨h1,rfl,rfl⟩:=h
    have h2:=@goalSml_ok
    unfold goalSml at h2
    exact ⟨annSl2 ⟨kd,th,id,at_,ok,key,val,hi,most,rk,rv,nl,pn,pk,pv⟩ n,1000,@h2 ⟨kd,th,id,at_,ok,key,val,hi,most,rk,rv,nl,pn,pk,pv⟩ nil n x h1⟩
  . cases h)
set_option maxRecDepth 1000000 in
theorem up31:isY true (callS Try.prog (smL lAw) 1000 6 [])=true:=by kernel_rfl
theorem smRgE (hm:Try.prog.follows .mixedOrders=true):SmCall Try.prog 52 (λ args h=>(ctS gOp fRgE args h).sel):=
 ctS_ok hm noSm_ok (by decide) (λ ds r h=>by
  unfold fRgE at h
  split at h
  . rename_i k key val hi most
    simp only [sI,Prod.mk.injEq] at h
    obtain ⟨-,rfl⟩:=h
    refine ⟨λ _=>none,1000,?_⟩
    have h2:=@goalRgE_ok
    unfold goalRgE at h2
    exact @h2 k key val hi most
  . cases h)
theorem smRgR (hm:Try.prog.follows .mixedOrders=true):SmCall Try.prog 43 (λ args h=>(ctS gOp fRgE args h).sel):=
 ctS_ok hm noSm_ok (by decide) (λ ds r h=>by
  unfold fRgE at h
  split at h
  . rename_i k key val hi most
    simp only [sI,Prod.mk.injEq] at h
    obtain ⟨-,rfl⟩:=h
    refine ⟨λ _=>none,1000,?_⟩
    have h2:=@goalRgR_ok
    unfold goalRgR at h2
    exact @h2 k key val hi most
  . cases h)
set_option maxRecDepth 100000
section
variable (hm : Try.prog.follows .mixedOrders = true)
include hm
theorem okLGn:SmOK Try.prog (smL lGn):=smL_ok ⟨smRgE hm,smSame hm goalSameMod_ok,trivial⟩
theorem okLCl:SmOK Try.prog (smL lCl):=smL_ok ⟨smGn hm (okLGn hm),smCln hm,trivial⟩
theorem okLRk:SmOK Try.prog (smL lRk):=smL_ok ⟨smOp hm,smRgR hm,smSame hm goalSameRef_ok,trivial⟩
theorem okLFu:SmOK Try.prog (smL lFu):=smL_ok ⟨smSame hm goalSameRef_ok,smSame hm goalSameMod_ok,trivial⟩
theorem okLAt:SmOK Try.prog (smL lAt):=smL_ok ⟨smPut hm,smDrop hm,trivial⟩
theorem okLKy:SmOK Try.prog (smL lKy):=smL_ok ⟨smCl hm (okLCl hm),smSrt hm,smCmp hm,trivial⟩
theorem okLFi:SmOK Try.prog (smL lFi):=smL_ok ⟨smGn hm (okLGn hm),smCl hm (okLCl hm),smKy hm (okLKy hm),smFr hm,trivial⟩
theorem okLLc:SmOK Try.prog (smL lLc):=smL_ok ⟨smRl hm (okLRk hm),smHs hm,smFu hm (okLFu hm) goalFuR_ok,smSame hm goalSameRef_ok,smAt hm,smWithin hm,smRaf hm (okLAt hm),trivial⟩
theorem okLAw:SmOK Try.prog (smL lAw):=smL_ok ⟨smFi hm (okLFi hm),trivial⟩
theorem awake31:SmCall Try.prog 6 (smB true):=
 smBool_ok Try.func6 (by kernel_rfl) (by kernel_rfl) λ w hw=>callY_calls hm (okLAw hm) up31 (us:=[]) rfl w hw
theorem okLLw:SmOK Try.prog (smL lLw):=smL_ok ⟨smSml hm,awake31 hm,smFi hm (okLFi hm),smLc hm (okLLc hm),trivial⟩
end
end Go.Proofs.Ytknfdbilpfblnaa.Ex
end
section
noncomputable section
namespace Go.Proofs.Ytknfdbilpfblnaa.Ex
open Go Go.RowKit
structure GTm (E:EvS)(g:GS):Prop where
 a:∀ j,j < g.n->eAt E (g.ev j)<=g.at_
 t:∀ j,j < g.n->cOv (g.en j)=true->eAt E (g.ev j)<=cTo E (g.en j)
theorem gTm (E:EvS):∀ i,GTm E (gS E i)
 | 0=>⟨λ j h=>absurd h (Nat.not_lt_zero j),λ j h=>absurd h (Nat.not_lt_zero j)⟩
 | i + 1=>by
   have ih:=gTm E i
   show GTm E (bif (gS E i).ok then gs1 E i (gS E i) else gS E i)
   cases hok:(gS E i).ok with
   | false=>exact ih
   | true=>
     rw [cond_true]
     rcases gs1_cases E i (gS E i) with h | ⟨h2,h1,h3⟩ | ⟨h3,h1,h4⟩
     . rw [h];exact ⟨ih.a,ih.t⟩
     . rw [gs1_t2 h1 h2 h3]
       refine ⟨λ j hj=>?_,λ j hj ho=>?_⟩
       . show eAt E (if j=(gS E i).n then i else (gS E i).ev j)<=eAt E i
         have hj:j < (gS E i).n + 1:=hj
         by_cases hjn:j=(gS E i).n
         . rw [if_pos hjn];exact Int.le_refl _
         . rw [if_neg hjn]
           have:=ih.a j (by omega)
           omega
       . revert ho
         show cOv (if j=(gS E i).n then 0 else (gS E i).en j)=true->eAt E (if j=(gS E i).n then i else (gS E i).ev j)<=cTo E (if j=(gS E i).n then 0 else (gS E i).en j)
         have hj:j < (gS E i).n + 1:=hj
         by_cases hjn:j=(gS E i).n
         . rw [if_pos hjn];intro ho;cases ho
         . rw [if_neg hjn,if_neg hjn]
           exact ih.t j (by omega)
     . rw [gs1_t3 h1 (by omega) h3 h4]
       refine ⟨λ j hj=>?_,λ j hj ho=>?_⟩
       . have:=ih.a j hj
         show eAt E ((gS E i).ev j)<=eAt E i
         omega
       . revert ho
         show cOv (if j=((gS E i).v (eTh E i)).toNat then i + 1 else (gS E i).en j)=true->eAt E ((gS E i).ev j)<=cTo E (if j=((gS E i).v (eTh E i)).toNat then i + 1 else (gS E i).en j)
         by_cases hjn:j=((gS E i).v (eTh E i)).toNat
         . rw [if_pos hjn]
           intro _
           have:=ih.a j hj
           show eAt E ((gS E i).ev j)<=eAt E i
           omega
         . rw [if_neg hjn]
           exact ih.t j hj
def lkL (k:Int)(l:List (Int × Int)):Option Int:=(l.find? λ p=>p.1 == k).map (·.2)
theorem lkL_app (k:Int)(a b:List (Int × Int)):lkL k (a ++ b)=(lkL k a).or (lkL k b):=by
 unfold lkL
 rw [List.find?_append]
 cases a.find? (λ p=>p.1 == k) <;> rfl
theorem lkL_one (k:Int)(x:Int × Int):lkL k [x]=if x.1=k then some x.2 else none:=by
 unfold lkL
 by_cases h:x.1=k <;> simp [h]
theorem lkL_cons (k:Int)(x:Int × Int)(l:List (Int × Int)):lkL k (x :: l)=(lkL k [x]).or (lkL k l):=lkL_app k [x] l
theorem put_other {k k' v:Int}(h:k' ≠ k):∀ (l:List (Int × Int)) (s:List (Int × Int) × Bool),lkL k' (l.foldl (putStep k v) s).1=(lkL k' s.1).or (lkL k' l)
 | [],s=>by simp [lkL]
 | x :: l,s=>by
   rw [List.foldl_cons,put_other h l,lkL_cons k' x l,<- Option.or_assoc]
   congr 1
   have e0:lkL k' [(k,v)]=none:=by rw [lkL_one];exact if_neg λ x=>h x.symm
   unfold putStep
   by_cases h1:k<=x.1/\s.2=false
   . simp only [if_pos h1]
     by_cases h2:x.1=k
     . have e1:lkL k' [x]=none:=by rw [lkL_one];exact if_neg λ y=>h (y.symm.trans h2)
       rw [if_pos h2,lkL_app,e0,e1]
     . rw [if_neg h2]
       show lkL k' ((s.1 ++ [(k,v)]) ++ [x])=_
       rw [lkL_app,lkL_app,e0,Option.or_none]
   . simp only [if_neg h1]
     by_cases h2:x.1=k
     . have e1:lkL k' [x]=none:=by rw [lkL_one];exact if_neg λ y=>h (y.symm.trans h2)
       rw [if_pos h2,e1,Option.or_none]
     . rw [if_neg h2]
       show lkL k' (s.1 ++ [x])=_
       rw [lkL_app]
theorem put_self {k v:Int}:∀ (l:List (Int × Int)) (s:List (Int × Int) × Bool),(lkL k s.1=if s.2=true then some v else none)->(lkL k (l.foldl (putStep k v) s).1=if (l.foldl (putStep k v) s).2=true then some v else none)
 | [],s,h=>h
 | x :: l,s,h=>by
   rw [List.foldl_cons]
   refine put_self l _ ?_
   have e0:lkL k [(k,v)]=some v:=by rw [lkL_one];exact if_pos rfl
   unfold putStep
   by_cases h1:k<=x.1/\s.2=false
   . rw [h1.2] at h
     have h:lkL k s.1=none:=h
     simp only [if_pos h1]
     by_cases h2:x.1=k
     . rw [if_pos h2,lkL_app,h,e0];rfl
     . rw [if_neg h2]
       show lkL k ((s.1 ++ [(k,v)]) ++ [x])=_
       rw [lkL_app,lkL_app,h,e0];rfl
   . simp only [if_neg h1]
     by_cases h2:x.1=k
     . rw [if_pos h2];exact h
     . rw [if_neg h2]
       show lkL k (s.1 ++ [x])=_
       rw [lkL_app,h,lkL_one,if_neg h2,Option.or_none]
theorem lkL_put (k v k':Int)(l:List (Int × Int)):lkL k' (putL k v l)=if k'=k then some v else lkL k' l:=by
 unfold putL putD putO putSt
 by_cases h:k'=k
 . subst h
   rw [if_pos rfl]
   have h1:=put_self (k:=k') (v:=v) l ([],false) rfl
   by_cases h2:(l.foldl (putStep k' v) ([],false)).2=true
   . rw [if_pos h2,h1,if_pos h2]
   . rw [if_neg h2,lkL_app,h1,if_neg h2,lkL_one,if_pos rfl];rfl
 . rw [if_neg h]
   have h1:=put_other (k:=k) (v:=v) h l ([],false)
   have h1:lkL k' (l.foldl (putStep k v) ([],false)).1=lkL k' l:=h1
   by_cases h2:(l.foldl (putStep k v) ([],false)).2=true
   . rw [if_pos h2,h1]
   . rw [if_neg h2,lkL_app,h1,lkL_one,if_neg λ x=>h x.symm,Option.or_none]
theorem lkL_drop (k k':Int):∀ l:List (Int × Int),lkL k' (dropL k l)=if k'=k then none else lkL k' l
 | []=>by simp [lkL,dropL]
 | x :: l=>by
   have ih:=lkL_drop k k' l
   unfold dropL at ih ⊢
   by_cases h2:x.1=k
   . have e:(x.1 != k)=false:=by simp [h2]
     rw [List.filter_cons,e,if_neg Bool.false_ne_true,ih,lkL_cons,lkL_one]
     by_cases h:k'=k
     . rw [if_pos h,if_pos h]
     . rw [if_neg h,if_neg h,if_neg λ y=>h (y.symm.trans h2)];rfl
   . have e:(x.1 != k)=true:=by simp [h2]
     rw [List.filter_cons,e,if_pos rfl,lkL_cons k' x (l.filter _),ih,lkL_cons k' x l,lkL_one]
     by_cases h:k'=k
     . rw [if_pos h,if_pos h,if_neg (by rw [h];exact h2)];rfl
     . rw [if_neg h,if_neg h]
theorem lkL_af (kd k v k':Int)(l:List (Int × Int)):lkL k' (afL kd k v l)=if k'=k then (if kd=2 then some v else if kd=3 then none else lkL k' l) else lkL k' l:=by
 unfold afL
 by_cases h2:kd=2
 . rw [if_pos h2,if_pos h2,lkL_put]
 . rw [if_neg h2,if_neg h2]
   by_cases h3:kd=3
   . rw [if_pos h3,if_pos h3,lkL_drop]
   . rw [if_neg h3,if_neg h3];split <;> rfl
theorem atL_cons (k:Int)(x:Int × Int)(l:List (Int × Int)):atL k (x :: l)=if x.1=k then 0 else if 0<=atL k l then atL k l + 1 else -1:=by
 unfold atL
 rw [List.findIdx?_cons]
 by_cases h:x.1=k
 . simp [h]
 . have e:(x.1 == k)=false:=by simp [h]
   rw [e,if_neg h]
   cases hh:l.findIdx? (λ p=>p.1 == k) with
   | none=>simp
   | some i=>simp
theorem lkL_at (k:Int):∀ l:List (Int × Int),lkL k l=if 0<=atL k l then some (rB l (atL k l).toNat) else none
 | []=>by simp [lkL,atL]
 | x :: l=>by
   have ih:=lkL_at k l
   rw [lkL_cons,lkL_one,atL_cons]
   by_cases h:x.1=k
   . rw [if_pos h,if_pos h];rfl
   . rw [if_neg h,if_neg h,ih]
     by_cases h1:0<=atL k l
     . rw [if_pos h1,if_pos h1,if_pos (by omega),show (atL k l + 1).toNat=(atL k l).toNat + 1 by omega];rfl
     . rw [if_neg h1,if_neg h1];rfl
theorem same_a (rk rv:Int)(pn:Nat)(pk pv:Nat->Int)(a b:Int):sameRes rk rv pn pk pv a b 0 (λ _=>0) (λ _=>0)=decide (rk=a/\rv=b/\pn=0):=by
 unfold sameRes samePairs
 have e:(pn=0/\∀ i,i < pn->pk i=0/\pv i=0) ↔ pn=0:=⟨λ h=>h.1,λ h=>⟨h,λ i hi=>by omega⟩⟩
 rw [decide_eq_decide.2 e,<- Bool.decide_and,<- Bool.decide_and,decide_eq_decide]
 exact and_assoc
theorem same_b (rk rv:Int)(pn:Nat)(pk pv:Nat->Int)(a b:Int):sameRes a b 0 (λ _=>0) (λ _=>0) rk rv pn pk pv=decide (rk=a/\rv=b/\pn=0):=by
 unfold sameRes samePairs
 have e:(0=pn/\∀ i,i < 0->(0:Int)=pk i/\(0:Int)=pv i) ↔ pn=0:=⟨λ h=>h.1.symm,λ h=>⟨h.symm,λ i hi=>absurd hi (Nat.not_lt_zero i)⟩⟩
 rw [decide_eq_decide.2 e,<- Bool.decide_and,<- Bool.decide_and,decide_eq_decide,eq_comm (a:=a),eq_comm (a:=b)]
 exact and_assoc
section
variable (C : CaS) (K : Nat -> Int) (m : Nat)
def stp (s:St3)(i:Nat):St3:=(doLD s.1 i,doLB C i (ixN K m C i) s.2.1,doLV C i (ixN K m C i) s.2.2)
def stQ:List Nat->St3->Nat->St3
 | _,s,0=>s
 | [],s,_ + 1=>s
 | i :: L,s,j + 1=>stQ L (stp C K m s i) j
end
section
variable {C : CaS} {n : Nat} {K : Nat -> Int} {m : Nat}
theorem stQ_zero (L:List Nat)(s:St3):stQ C K m L s 0=s:=by cases L <;> rfl
theorem stQ_succ:∀ (L:List Nat) (s:St3) (j:Nat),j < L.length->stQ C K m L s (j + 1)=stp C K m (stQ C K m L s j) (L.getD j 0)
 | [],_,j,h=>absurd h (Nat.not_lt_zero j)
 | i :: L,s,0,_=>by
   show stQ C K m L (stp C K m s i) 0=_
   rw [stQ_zero,stQ_zero];rfl
 | i :: L,s,j + 1,h=>stQ_succ L (stp C K m s i) j (Nat.lt_of_succ_lt_succ h)
theorem Pth_iff:∀ (L:List Nat) (s:St3),Pth C n K m s.1 s.2.1 s.2.2 L ↔ (∀ j,j < L.length->L.getD j 0 < n/\frB C n (stQ C K m L s j).1 (L.getD j 0)=true/\doLO C (L.getD j 0) (ixN K m C (L.getD j 0)) (stQ C K m L s j).2.1 (stQ C K m L s j).2.2=true)/\enB C n (stQ C K m L s L.length).1=true
 | [],s=>⟨λ h=>⟨λ j hj=>absurd hj (Nat.not_lt_zero j),h⟩,λ h=>h.2⟩
 | i :: L,s=>by
   have ih:=Pth_iff L (stp C K m s i)
   constructor
   . rintro ⟨h1,h2,h3,h4⟩
     obtain ⟨h5,h6⟩:=ih.1 h4
     refine ⟨λ j hj=>?_,h6⟩
     cases j with
     | zero=>exact ⟨h1,h2,h3⟩
     | succ j=>exact h5 j (Nat.lt_of_succ_lt_succ hj)
   . rintro ⟨h1,h2⟩
     obtain ⟨h3,h4,h5⟩:=h1 0 (Nat.succ_pos _)
     exact ⟨h3,h4,h5,ih.2 ⟨λ j hj=>h1 (j + 1) (Nat.succ_lt_succ hj),h2⟩⟩
theorem stQ_D (L:List Nat)(s:St3)(h0:s.1=λ _=>false):∀ j,j<=L.length->∀ q,(stQ C K m L s j).1 q=decide (∃ t,t < j/\L.getD t 0=q)
 | 0,_,q=>by
   rw [stQ_zero,h0]
   exact (decide_eq_false λ ⟨t,h,_⟩=>absurd h (Nat.not_lt_zero t)).symm
 | j + 1,hj,q=>by
   have ih:=stQ_D L s h0 j (by omega) q
   rw [stQ_succ L s j (by omega)]
   show (bif decide (L.getD j 0=q) then true else (stQ C K m L s j).1 q)=_
   rw [ih]
   by_cases h:L.getD j 0=q
   . rw [decide_eq_true h]
     exact (decide_eq_true ⟨j,Nat.lt_succ_self j,h⟩).symm
   . rw [decide_eq_false h,cond_false,decide_eq_decide]
     constructor
     . rintro ⟨t,h1,h2⟩;exact ⟨t,by omega,h2⟩
     . rintro ⟨t,h1,h2⟩
       by_cases ht:t=j
       . subst ht;exact absurd h2 h
       . exact ⟨t,by omega,h2⟩
end
theorem fxI_hit {m:Nat}{p:Nat->Bool}(h:0<=fxI m p):(fxI m p).toNat < m/\p (fxI m p).toNat=true:=by
 unfold fxI at h ⊢
 split
 . rename_i i hf
   exact ⟨List.mem_range.1 (List.mem_of_find?_eq_some hf),List.find?_some hf⟩
 . rename_i hf
   rw [hf] at h
   exact absurd h (by decide)
theorem fxI_all {m:Nat}{p:Nat->Bool}(h:∀ j,j < m->p j=false):fxI m p=-1:=by
 rcases fxI_ltq m p with h1 | ⟨h1,_⟩
 . exact h1
 . obtain ⟨h2,h3⟩:=fxI_hit h1
   rw [h _ h2] at h3;cases h3
theorem fxI_no {m:Nat}{p:Nat->Bool}(h:¬ 0<=fxI m p):∀ j,j < m->p j=false:=λ j hj=>by
 cases hp:p j with
 | false=>rfl
 | true=>exact absurd (fxI_nn hj hp) h
theorem nsN_mono (E:EvS)(n i k:Nat):nsN E n i<=nsN E n (i + k):=by
 obtain ⟨r,h⟩:=nsC_pre E n i k
 unfold nsN
 rw [h,List.length_append];omega
theorem nsN_lt {E:EvS}{n g:Nat}(hg:g < resN E n)(h:eOk E (gEv E n g) ≠ 4):nsN E n g < nsN E n (resN E n):=by
 have h1:=nsN_hit h
 have h2:=nsN_mono E n (g + 1) (resN E n - (g + 1))
 rw [show g + 1 + (resN E n - (g + 1))=resN E n by omega] at h2
 omega
theorem nsN_at (E:EvS)(n:Nat):∀ i q,q < nsN E n i->nsN E n ((nsC E n i).getD q 0)=q
 | 0,q,h=>absurd h (Nat.not_lt_zero q)
 | i + 1,q,h=>by
   by_cases h4:eOk E (gEv E n i)=4
   . rw [nsN_miss h4] at h
     rw [nsC_succ,if_neg (λ x=>x h4),List.append_nil]
     exact nsN_at E n i q h
   . rw [nsN_hit h4] at h
     rw [nsC_succ,if_pos h4]
     by_cases hq:q < nsN E n i
     . have e:(nsC E n i ++ [i]).getD q 0=(nsC E n i).getD q 0:=by
        rw [List.getD_eq_getElem?_getD,List.getD_eq_getElem?_getD,List.getElem?_append_left hq]
       rw [e]
       exact nsN_at E n i q hq
     . have hqe:q=(nsC E n i).length:=by unfold nsN at h hq;omega
       have e:(nsC E n i ++ [i]).getD q 0=i:=by
        rw [List.getD_eq_getElem?_getD,hqe,List.getElem?_append_right (Nat.le_refl _),Nat.sub_self];rfl
       rw [e,hqe];rfl
theorem nsX_inj {E:EvS}{n q q':Nat}(h:q < nsN E n (resN E n))(h':q' < nsN E n (resN E n))(e:nsX E n q=nsX E n q'):q=q':=by
 have h1:=nsN_at E n _ q h
 have h2:=nsN_at E n _ q' h'
 have e:(nsC E n (resN E n)).getD q 0=(nsC E n (resN E n)).getD q' 0:=e
 rw [e] at h1
 omega
section
variable {E : EvS} {n : Nat}
structure WyO (E:EvS)(n:Nat)(L:List Nat)(o:Nat->Int):Prop where
 n12:nsN E n (resN E n)<=12
 lt:∀ j,j < L.length->L.getD j 0 < nsN E n (resN E n)
 at_:∀ j,j < L.length->o j=(nsX E n (L.getD j 0):Int) + 1
abbrev s0Q:St3:=(λ _=>false,λ _=>false,λ _=>0)
abbrev stE (E:EvS)(n:Nat)(L:List Nat)(j:Nat):St3:=stQ (caE E n) (kyF E n) (kyN E n) L s0Q j
theorem bkG_at {L:List Nat}{o:Nat->Int}(h:WyO E n L o){j:Nat}(hj:j < L.length):bkG (o j)=nsX E n (L.getD j 0):=by
 unfold bkG
 rw [h.at_ j hj];omega
theorem ix_key {q:Nat}(h12:nsN E n (resN E n)<=12)(hq:q < nsN E n (resN E n)):kyF E n (ixN (kyF E n) (kyN E n) (caE E n) q)=kyD E n q:=
 of_decide_eq_true (fxI_hit (ky_has h12 hq)).2
theorem ix_eq {q q':Nat}(h12:nsN E n (resN E n)<=12)(hq:q < nsN E n (resN E n))(hq':q' < nsN E n (resN E n)):ixN (kyF E n) (kyN E n) (caE E n) q=ixN (kyF E n) (kyN E n) (caE E n) q' ↔ kyD E n q=kyD E n q':=by
 constructor
 . intro e
   rw [<- ix_key h12 hq,<- ix_key h12 hq',e]
 . intro e
   show yNat (fxI (kyN E n) (keB (kyF E n) (kyD E n q)))=yNat (fxI (kyN E n) (keB (kyF E n) (kyD E n q')))
   rw [e]
theorem lk_st {L:List Nat}{o:Nat->Int}(h:WyO E n L o):∀ j,j<=L.length->∀ q,q < nsN E n (resN E n) →
 lkL (kyD E n q) (lcL E n o j)=if (stE E n L j).2.1 (ixN (kyF E n) (kyN E n) (caE E n) q)=true then some ((stE E n L j).2.2 (ixN (kyF E n) (kyN E n) (caE E n) q)) else none
 | 0,_,q,_=>by
   show lkL _ []=_
   unfold stE
   rw [stQ_zero];rfl
 | j + 1,hj,q,hq=>by
   have hjl:j < L.length:=by omega
   have ih:=lk_st h j (by omega) q hq
   unfold stE at ih ⊢
   rw [stQ_succ L s0Q j hjl]
   have hi:=h.lt j hjl
   have hg:=bkG_at h hjl
   generalize hI:L.getD j 0=i at hi hg ⊢
   generalize stQ (caE E n) (kyF E n) (kyN E n) L s0Q j=s at ih ⊢
   show lkL _ (if cFl E n (bkG (o j))=true then lcL E n o j else afL (eOk E (gEv E n (bkG (o j)))) (eKey E (gEv E n (bkG (o j)))) (eVal E (gEv E n (bkG (o j)))) (lcL E n o j)) =
    if doLB (caE E n) i (ixN (kyF E n) (kyN E n) (caE E n) i) s.2.1 (ixN (kyF E n) (kyN E n) (caE E n) q)=true then some (doLV (caE E n) i (ixN (kyF E n) (kyN E n) (caE E n) i) s.2.2 (ixN (kyF E n) (kyN E n) (caE E n) q)) else none
   rw [hg]
   have hF:doLF (caE E n) i=cFl E n (nsX E n i):=rfl
   unfold doLB doLV
   rw [hF]
   cases hc:cFl E n (nsX E n i) with
   | true=>rw [if_pos rfl];exact ih
   | false=>
     rw [if_neg Bool.false_ne_true,cond_false,cond_false,lkL_af]
     have hk:kyD E n i=eKey E (gEv E n (nsX E n i)):=rfl
     have ho:cqOk (caE E n) i=eOk E (gEv E n (nsX E n i)):=rfl
     have hv:cqVal (caE E n) i=eVal E (gEv E n (nsX E n i)):=rfl
     rw [ho,hv,<- hk]
     by_cases e:kyD E n q=kyD E n i
     . rw [if_pos e,decide_eq_true ((ix_eq h.n12 hi hq).2 e.symm),cond_true,cond_true]
       by_cases h2:eOk E (gEv E n (nsX E n i))=2
       . rw [if_pos h2,if_pos h2,if_pos rfl,if_pos h2]
       . rw [if_neg h2,if_neg h2]
         by_cases h3:eOk E (gEv E n (nsX E n i))=3
         . rw [if_pos h3,if_pos h3,if_neg Bool.false_ne_true]
         . rw [if_neg h3,if_neg h3,if_neg h2,if_neg h3];exact ih
     . rw [if_neg e,decide_eq_false λ x=>e ((ix_eq h.n12 hi hq).1 x).symm,cond_false,cond_false];exact ih
theorem lcR_do {L:List Nat}{o:Nat->Int}(h:WyO E n L o){j:Nat}(hj:j < L.length):
 lcR E n o j=doLO (caE E n) (L.getD j 0) (ixN (kyF E n) (kyN E n) (caE E n) (L.getD j 0)) (stE E n L j).2.1 (stE E n L j).2.2:=by
 have hl:=lk_st h j (by omega) _ (h.lt j hj)
 have hg:=bkG_at h hj
 have hi:=h.lt j hj
 generalize hI:L.getD j 0=i at hi hg hl ⊢
 unfold lcR doLO
 rw [hg]
 have hF:doLF (caE E n) i=cFl E n (nsX E n i):=rfl
 have hO:cqOv (caE E n) i=cOv (gEn E n (nsX E n i)):=rfl
 rw [hF,hO]
 cases hc:cFl E n (nsX E n i) with
 | true=>rfl
 | false=>
   rw [cond_false,Bool.false_or]
   cases ho:cOv (gEn E n (nsX E n i)) with
   | false=>rfl
   | true=>
     rw [cond_true,Bool.not_true,Bool.false_or]
     have hk:kyD E n i=eKey E (gEv E n (nsX E n i)):=rfl
     rw [lkL_at,hk] at hl
     rw [same_a]
     show _=sameRes _ _ 0 (λ _=>0) (λ _=>0) (cRk E (gEn E n (nsX E n i))) (cRv E (gEn E n (nsX E n i))) (cPn E (gEn E n (nsX E n i))) (cPk E (gEn E n (nsX E n i))) (cPv E (gEn E n (nsX E n i)))
     rw [same_b]
     cases hB:(stE E n L j).2.1 (ixN (kyF E n) (kyN E n) (caE E n) i) with
     | true=>
       rw [hB,if_pos rfl] at hl
       by_cases h0:0<=atL (eKey E (gEv E n (nsX E n i))) (lcL E n o j)
       . rw [if_pos h0] at hl
         rw [if_pos h0,if_pos h0,Option.some.inj hl];rfl
       . rw [if_neg h0] at hl;cases hl
     | false=>
       rw [hB,if_neg Bool.false_ne_true] at hl
       by_cases h0:0<=atL (eKey E (gEv E n (nsX E n i))) (lcL E n o j)
       . rw [if_pos h0] at hl;cases hl
       . rw [if_neg h0,if_neg h0];rfl
theorem find_sound {L:List Nat}{o:Nat->Int}(hok:gOk E n=true)(h12:nsN E n (resN E n)<=12)(hP:Pth (caE E n) (nsN E n (resN E n)) (kyF E n) (kyN E n) (λ _=>false) (λ _=>false) (λ _=>0) L)
 (ho:∀ j,j < L.length->o j=cqId (caE E n) (L.getD j 0)):lcF E n o L.length=0:=by
 obtain ⟨hj,hen⟩:=(Pth_iff L s0Q).1 hP
 have hlt:∀ j,j < L.length->L.getD j 0 < nsN E n (resN E n):=λ j h=>(hj j h).1
 have hW:WyO E n L o:=⟨h12,hlt,λ j h=>by
  rw [ho j h]
  exact gId (resN_gN (nsX_lt (hlt j h)).1).2⟩
 have hD:=stQ_D (C:=caE E n) (K:=kyF E n) (m:=kyN E n) L s0Q rfl
 have hdis:∀ t j,t < j->j < L.length->L.getD t 0 ≠ L.getD j 0:=λ t j h1 h2 e=>by
  have h3:=(of_decide_eq_true (hj j h2).2.1).1
  rw [hD j (by omega)] at h3
  exact of_decide_eq_false h3 ⟨t,h1,e⟩
 have e0:fxI L.length (λ i=>!lcGo E n o i)=-1:=fxI_all λ j h=>by
  have hx:=nsX_lt (hlt j h)
  have h1:lcIs E n (o j)=true:=decide_eq_true ⟨by rw [hW.at_ j h];omega,by rw [hW.at_ j h];omega,by
   show eOk E (gEv E n (bkG (o j))) ≠ 4
   rw [bkG_at hW h];exact hx.2⟩
  have h2:hsB o j (o j)=false:=decide_eq_false λ ⟨t,h3,h4⟩=>by
   rw [hW.at_ t (by omega),hW.at_ j h] at h4
   exact hdis t j h3 h (nsX_inj (hlt t (by omega)) (hlt j h) (by omega))
  show (!(lcIs E n (o j) && !hsB o j (o j)))=false
  rw [h1,h2];rfl
 have e1:fxI (resN E n) (lcLa E n o L.length)=-1:=fxI_all λ g hg=>by
  cases hv:cOv (gEn E n g) with
  | false=>show (cOv (gEn E n g) && _ && _)=false;rw [hv];rfl
  | true=>
    by_cases h4:eOk E (gEv E n g)=4
    . show (_ && decide (eOk E (gEv E n g) ≠ 4) && _)=false
      rw [decide_eq_false (λ x=>x h4),Bool.and_false];rfl
    . have hq:=nsN_lt hg h4
      have hx:=nsX_hit hg h4
      have h5:=of_decide_eq_true hen (nsN E n g) hq (by show cOv (gEn E n (nsX E n (nsN E n g)))=true;rw [hx];exact hv)
      rw [hD _ (Nat.le_refl _)] at h5
      obtain ⟨t,h6,h7⟩:=of_decide_eq_true h5
      have h8:hsB o L.length (eId E (gEv E n g))=true:=decide_eq_true ⟨t,h6,by rw [hW.at_ t h6,h7,hx,gId (resN_gN hg).2]⟩
      show (_ && _ && !hsB o L.length (eId E (gEv E n g)))=false
      rw [h8];simp
 have e2:fxI L.length (lcBs E n o)=-1:=fxI_all λ j h=>decide_eq_false λ ⟨k,h1,h2⟩=>by
  have h2:(cOv (gEn E n (bkG (o j))) && decide (cTo E (gEn E n (bkG (o j))) < eAt E (gEv E n (bkG (o k)))))=true:=h2
  rw [bkG_at hW h,bkG_at hW (show k < L.length by omega)] at h2
  obtain ⟨h3,h4⟩:=(Bool.and_eq_true _ _).mp h2
  have h5:=(of_decide_eq_true (hj k (by omega)).2.1).2 (L.getD j 0) (hlt j h) (by
   rw [hD k (by omega)]
   exact decide_eq_false λ ⟨t,h6,h7⟩=>hdis t j (by omega) h h7)
  exact h5 ⟨h3,of_decide_eq_true h4⟩
 have e3:fxI L.length (λ i=>!lcR E n o i)=-1:=fxI_all λ j h=>by
  show (!lcR E n o j)=false
  rw [lcR_do hW h,(hj j h).2.2];rfl
 unfold lcF
 rw [if_neg (by rw [hok];exact λ x=>by cases x),e0,e1,e2,e3]
 rfl
theorem find_complete {m:Nat}{o:Nat->Int}(h12:nsN E n (resN E n)<=12)(h:lcF E n o m=0):fiL (caE E n) (nsN E n (resN E n)) (kyF E n) (kyN E n) ≠ none:=by
 have hok:gOk E n=true:=by
  cases hg:gOk E n with
  | true=>rfl
  | false=>unfold lcF at h;rw [if_pos hg] at h;cases h
 have hok':¬ gOk E n=false:=by rw [hok];exact λ x=>by cases x
 unfold lcF at h
 rw [if_neg hok'] at h
 have h0:¬ 0<=fxI m (λ i=>!lcGo E n o i):=λ x=>by
  rw [if_pos x] at h
  split at h <;> cases h
 rw [if_neg h0] at h
 have h1:¬ 0<=fxI (resN E n) (lcLa E n o m):=λ x=>by rw [if_pos x] at h;cases h
 rw [if_neg h1] at h
 have h2:¬ 0<=fxI m (lcBs E n o):=λ x=>by rw [if_pos x] at h;cases h
 rw [if_neg h2] at h
 have h3:¬ 0<=fxI m (λ i=>!lcR E n o i):=λ x=>by rw [if_pos x] at h;cases h
 have h0:=fxI_no h0
 have h1:=fxI_no h1
 have h2:=fxI_no h2
 have h3:=fxI_no h3
 have go:∀ j,j < m->(1<=o j/\bkG (o j) < resN E n/\eOk E (gEv E n (bkG (o j))) ≠ 4)/\∀ t,t < j->o t ≠ o j:=λ j hj=>by
  have h4:(!(lcIs E n (o j) && !hsB o j (o j)))=false:=h0 j hj
  have h4:(lcIs E n (o j) && !hsB o j (o j))=true:=by simpa using h4
  obtain ⟨h5,h6⟩:=(Bool.and_eq_true _ _).mp h4
  obtain ⟨h7,h8,h9⟩:=of_decide_eq_true h5
  refine ⟨⟨h7,by unfold bkG;omega,h9⟩,λ t ht e=>?_⟩
  have h6:hsB o j (o j)=false:=by simpa using h6
  exact of_decide_eq_false h6 ⟨t,ht,e⟩
 obtain ⟨L,hL⟩:∃ L:List Nat,L=(List.range m).map λ j=>nsN E n (bkG (o j)):=⟨_,rfl⟩
 have hLn:L.length=m:=by rw [hL];simp
 have hLa:∀ j,j < m->L.getD j 0=nsN E n (bkG (o j)):=λ j hj=>by rw [hL];simp [List.getD_eq_getElem?_getD,hj]
 have hLx:∀ j,j < m->nsX E n (L.getD j 0)=bkG (o j):=λ j hj=>by rw [hLa j hj];exact nsX_hit (go j hj).1.2.1 (go j hj).1.2.2
 have hlt:∀ j,j < m->L.getD j 0 < nsN E n (resN E n):=λ j hj=>by rw [hLa j hj];exact nsN_lt (go j hj).1.2.1 (go j hj).1.2.2
 have hW:WyO E n L o:=⟨h12,λ j hj=>hlt j (by omega),λ j hj=>by
  rw [hLx j (by omega)]
  have:=(go j (by omega)).1.1
  unfold bkG;omega⟩
 have hD:=stQ_D (C:=caE E n) (K:=kyF E n) (m:=kyN E n) L s0Q rfl
 have hdis:∀ t j,t < j->j < m->L.getD t 0 ≠ L.getD j 0:=λ t j h4 h5 e=>by
  refine (go j h5).2 t h4 ?_
  rw [hW.at_ t (by omega),hW.at_ j (by omega),e]
 have has:∀ k,k < nsN E n (resN E n)->cOv (gEn E n (nsX E n k))=true->∃ t,t < m/\L.getD t 0=k:=λ k hk hv=>by
  have hx:=nsX_lt hk
  have h4:(cOv (gEn E n (nsX E n k)) && decide (eOk E (gEv E n (nsX E n k)) ≠ 4) && !hsB o m (eId E (gEv E n (nsX E n k))))=false:=h1 _ hx.1
  rw [hv,decide_eq_true hx.2,Bool.true_and,Bool.true_and] at h4
  have h4:hsB o m (eId E (gEv E n (nsX E n k)))=true:=by simpa using h4
  obtain ⟨t,h5,h6⟩:=of_decide_eq_true h4
  refine ⟨t,h5,nsX_inj (hlt t h5) hk ?_⟩
  rw [gId (resN_gN hx.1).2,hW.at_ t (by omega)] at h6
  omega
 refine srX_complete ((Pth_iff L s0Q).2 ⟨λ j hj=>?_,?_⟩) (by
  have e:(List.range (nsN E n (resN E n))).filter (λ i=>!(λ _=>false) i)=List.range (nsN E n (resN E n)):=List.filter_eq_self.2 λ _ _=>rfl
  show ((List.range (nsN E n (resN E n))).filter (λ i=>!(λ _=>false) i)).length=_
  rw [e,List.length_range])
 . have hjm:j < m:=by omega
   refine ⟨hlt j hjm,decide_eq_true ⟨?_,λ k hk hdk=>?_⟩,?_⟩
   . rw [hD j (by omega)]
     exact decide_eq_false λ ⟨t,h4,h5⟩=>hdis t j h4 hjm h5
   . rintro ⟨h4,h5⟩
     have h4:cOv (gEn E n (nsX E n k))=true:=h4
     have h5:cTo E (gEn E n (nsX E n k)) < eAt E (gEv E n (nsX E n (L.getD j 0))):=h5
     obtain ⟨t,h6,h7⟩:=has k hk h4
     rw [hD j (by omega)] at hdk
     have h8:¬ t < j:=λ x=>of_decide_eq_false hdk ⟨t,x,h7⟩
     by_cases htj:t=j
     . rw [htj] at h7
       rw [h7] at h5
       have:=(gTm E n).t (nsX E n k) (resN_gN (nsX_lt hk).1).2 h4
       have:eAt E (gEv E n (nsX E n k))<=cTo E (gEn E n (nsX E n k)):=this
       omega
     . have h9:lcBs E n o t=true:=decide_eq_true ⟨j,by omega,by
        show (cOv (gEn E n (bkG (o t))) && decide (cTo E (gEn E n (bkG (o t))) < eAt E (gEv E n (bkG (o j)))))=true
        rw [bkG_at hW (show t < L.length by omega),bkG_at hW hj,h7,h4,decide_eq_true h5];rfl⟩
       rw [h2 t h6] at h9;cases h9
   . rw [<- lcR_do hW hj]
     have h4:(!lcR E n o j)=false:=h3 j hjm
     simpa using h4
 . refine decide_eq_true λ k hk hv=>?_
   obtain ⟨t,h6,h7⟩:=has k hk hv
   rw [hD _ (Nat.le_refl _)]
   exact decide_eq_true ⟨t,by omega,h7⟩
theorem plainLs (hok:fdE E n=0):lcF E n (fdI E n) (fdN E n)=0:=by
 unfold fdE at hok
 split at hok
 . cases hok
 . rename_i h1
   split at hok
   . cases hok
   . rename_i h2
     split at hok
     . rename_i h3
       have hg:gOk E n=true:=by cases h:gOk E n with | true=>rfl | false=>exact absurd h h1
       obtain ⟨L,hL⟩:=Option.isSome_iff_exists.1 h3
       have e:fdE E n=0:=by unfold fdE;rw [if_neg h1,if_neg h2,if_pos h3]
       have hN:fdN E n=L.length:=by
        have e2:fdN E n=fiN (caE E n) (nsN E n (resN E n)) (kyF E n) (kyN E n):=if_pos e
        rw [e2];unfold fiN;rw [hL];rfl
       rw [hN]
       refine find_sound hg (by omega) (srX_sound hL) λ j _=>?_
       show fiI (caE E n) (nsN E n (resN E n)) (kyF E n) (kyN E n) j=_
       unfold fiI
       rw [hL];rfl
     . cases hok
theorem plainLc {m:Nat}{o:Nat->Int}(h:lcF E n o m=0):fdE E n ≠ 7:=by
 unfold fdE
 split
 . decide
 . split
   . decide
   . rename_i h2
     split
     . decide
     . rename_i h3
       have h4:=find_complete (show nsN E n (resN E n)<=12 by omega) h
       refine absurd ?_ h3
       show (fiL (caE E n) (nsN E n (resN E n)) (kyF E n) (kyN E n)).isSome=true
       cases hL:fiL (caE E n) (nsN E n (resN E n)) (kyF E n) (kyN E n) with
       | none=>exact absurd hL h4
       | some L=>rfl
end
def kEvT:List KT:=[.sc (.int .i64),.sc (.int .i64),.sc (.int .i64),.sc (.int .i64),.sc (.int .i64),.sc (.int .u64),.sc (.int .u64),.sc (.int .u64),.sc (.int .i64),.sc (.int .i64),.sc (.int .u64),.ls [.sc (.int .u64),.sc (.int .u64)]]
def cEv (w:World)(v:Value)(p j:Nat):Value:=cellAt w v (p * 12 + j)
def evOf (w:World)(v:Value):EvS:=⟨λ p=>Ex.intOf (cEv w v p 0),λ p=>Ex.intOf (cEv w v p 1),λ p=>Ex.intOf (cEv w v p 2),λ p=>Ex.intOf (cEv w v p 3),λ p=>Ex.intOf (cEv w v p 4),λ p=>Ex.intOf (cEv w v p 5),λ p=>Ex.intOf (cEv w v p 6),λ p=>Ex.intOf (cEv w v p 7),λ p=>Ex.intOf (cEv w v p 8),λ p=>Ex.intOf (cEv w v p 9),λ p=>Ex.intOf (cEv w v p 10),λ p=>nilOf (cEv w v p 11),λ p=>lenOf (cEv w v p 11),λ p q=>Ex.intOf (cellAt w (cEv w v p 11) (q * 2)),λ p q=>Ex.intOf (cellAt w (cEv w v p 11) (q * 2 + 1))⟩
theorem evOf_R {w:World}{v:Value}(r:(avT w (.ls kEvT) v).R (Mw w) v):(AV.lst false (nilOf v) 12 (lenOf v) (colF (colsE (evOf w v)))).R (Mw w) v:=by
 have r:(AV.lst false (nilOf v) 12 (lenOf v) (λ p j=>avTs w kEvT j (λ q=>cellAt w v (p * 12 + q)) 0)).R (Mw w) v:=by
  simp only [avT] at r;exact r
 refine lst_eq r λ p j hj=>?_
 match j,hj with
 | 0,_=>rfl
 | 1,_=>rfl
 | 2,_=>rfl
 | 3,_=>rfl
 | 4,_=>rfl
 | 5,_=>rfl
 | 6,_=>rfl
 | 7,_=>rfl
 | 8,_=>rfl
 | 9,_=>rfl
 | 10,_=>rfl
 | 11,_=>
   have e:(λ p' j'=>avTs w [.sc (.int .u64),.sc (.int .u64)] j' (λ q=>cellAt w (cEv w v p 11) (p' * 2 + q)) 0)=cl2F [Cl2.int .u64 (ePk (evOf w v)),Cl2.int .u64 (ePv (evOf w v))] p:=by
    funext p' j'
    match j' with
    | 0=>rfl
    | 1=>rfl
    | _ + 2=>rfl
   have e2:avT w (.ls [.sc (.int .u64),.sc (.int .u64)]) (cEv w v p 11)=.lst false (nilOf (cEv w v p 11)) 2 (lenOf (cEv w v p 11)) (cl2F [Cl2.int .u64 (ePk (evOf w v)),Cl2.int .u64 (ePv (evOf w v))] p):=by
    rw [<- e];simp only [avT];rfl
   exact e2
theorem evOf_len {w:World}{v:Value}(h:OkT w (.ls kEvT) v):lenOf v<=maxLen:=by
 simp only [OkT] at h
 rcases h with rfl | ⟨a,n,c,rfl,_,h,_⟩
 . exact Nat.zero_le _
 . exact h
theorem okT_nil {w:World}{l:List KT}{v:Value}(h:OkT w (.ls l) v)(hn:nilOf v=true):lenOf v=0:=by
 simp only [OkT] at h
 rcases h with rfl | ⟨a,n,c,rfl,_,_,_⟩
 . rfl
 . cases hn
def kInT:List KT:=[.sc (.int .i64)]
def inOf (w:World)(v:Value)(p:Nat):Int:=Ex.intOf (cellAt w v p)
theorem inOf_R {w:World}{v:Value}(r:(avT w (.ls kInT) v).R (Mw w) v):(AV.lst false (nilOf v) 1 (lenOf v) (colF [.int .i64 (inOf w v)])).R (Mw w) v:=by
 have r:(AV.lst false (nilOf v) 1 (lenOf v) (λ p j=>avTs w kInT j (λ q=>cellAt w v (p * 1 + q)) 0)).R (Mw w) v:=by
  simp only [avT] at r;exact r
 refine lst_eq r λ p j hj=>?_
 match j,hj with
 | 0,_=>
   show AV.y .i64 (Ex.intOf (cellAt w v (p * 1 + 0)))=AV.y .i64 (Ex.intOf (cellAt w v p))
   rw [Nat.mul_one,Nat.add_zero]
theorem okT_len {w:World}{l:List KT}{v:Value}(h:OkT w (.ls l) v):lenOf v<=maxLen:=by
 simp only [OkT] at h
 rcases h with rfl | ⟨a,n,c,rfl,_,h,_⟩
 . exact Nat.zero_le _
 . exact h
end Go.Proofs.Ytknfdbilpfblnaa.Ex
end
