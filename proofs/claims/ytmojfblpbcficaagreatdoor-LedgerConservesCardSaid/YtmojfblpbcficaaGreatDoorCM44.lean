import Derived.Test.YtmojfblpbcficaaGreatDoorCM43
import Derived.Test.YtmojfblpbcficaaGreatDoorCM40
set_option linter.all false
open Go.TM.oA Go.TM.oB Go.TM.oC Go.TM.oD Go.TM.oE
namespace Go.Proofs.YtmojfblpbcficaaGreatDoor
set_option maxRecDepth 100000
set_option maxHeartbeats 4000000
open Go.TM
def lcK(P:PL)(g:List DV):ae:=[(1,.tree 0 0 (.omap eh (oH P.st))),(2,.tree 0 0 (.omap cy (nv P.b7))),(3,.tree 0 0 (.omap cy (mZ P.imp))),(4,.tree 0 0 (.omap cy (mZ P.ret))),(5,.cells (.dv (I P.sh)::eV iP++[.own 1 0 0 [],.own 2 0 0 [],.own 8 0 0 [],.own 9 0 0 [],.own 3 0 0 [],.own 4 0 0 []])),(8,.tree 0 0 (.aC 7 (P.sp.map aO))),(9,.tree 0 0 (.aC 11 (P.fl.map aM))),(13,.tree 0 0 (.aC 1 g))]
variable [bp]
theorem DJ{P:PL}{R:RL}(hI:Inv P R)(hC:Cons R)(hLv:aQ Tryz.prog 12 [] [B true])(n k:List Int)(hs:ao Tryz.prog 8 [.dv (Ints n),.dv (Ints k)] 0 [] 13 [.ptr 5 0] (lfK P R)):aQ Tryz.prog 3 [Ints n,Ints k] [B true]:=by
 have hG:=hI.fI
 have hD:=hI.dx
 have oQ:=hG.sh
 have lT:P.fl.length<=160:=by rw[hI.fl];exact hG.fl
 have PW:∀f∈P.fl,(1<=f.n/\f.n<=1099511627776)/\0<=f.it/\f.it<5:=by rw[hI.fl];exact hD.fn
 have dh:∀f∈P.fl,T0 f.kind->f.fr≠0/\f.to≠0:=by rw[hI.fl];exact hC.ins
 have Qg:∀j,qB tN P.fl P.fl.length j=bG R.st j:=fun j=>by rw[KX,hI.fl,hC.sum]
 have GZ:=fun j=>Jd (c:=tN) (l:=P.fl) (b:=1099511627776) (fun f hf j=>Xs (PW f hf).1 j) j
 have ak:P.st.length<=160:=by
  have h1:=hI.perm.length_eq
  have h2:=List.length_filter_le (fun p:Ky×List Lt=>decide (bZ p.2≠0)) R.st
  have h3:=hG.st;have h4:=hG.fl
  omega
 have lf:(P.fl.map aM).length=P.fl.length:=ach ..
 refine pO Tryz.func3 rfl (by kernel_rfl) rfl ?_
 refine .inr (cl [] hs (by kernel_rfl) rfl rfl ?_)
 refine acg (fun h=>by cases h) fun _=>?_
 refine .inr (.inl ⟨sq fun _=>0,rfl,⟨rf,rf,rf,rf,rf,tv⟩,(by simp[sq];rfl),?_⟩)
 refine .inr (cl [5,1,2,8,9,3,4] (F3 P (by omega) (by rw[hI.fl];exact fun f hf=>by have:=hG.D5 f hf;omega)) (by kernel_rfl) rfl rfl ?_)
 refine⟨Nat,fun i=>⟨14,[(5,.ptr 5 0),(6,.own 13 0 0 []),(7,.dv (.sl 11 (P.fl.map aM))),(8,.dv (I i))],lcK P (sq (qB tN P.fl i))⟩,fun i=>i<=P.fl.length,fun i=>P.fl.length-i,0,fun _=>rfl,jn rfl rfl rfl rfl,acy _,?_⟩
 intro i hi
 refine acg (fun h=>?_) fun h=>?_
 ·have aw:i<P.fl.length:=by have:=acA h;omega
  obtain⟨f,hf⟩:∃f,P.fl[i]?=some f:=⟨_,aaS aw⟩
  have hm:=ack hf
  have im:(P.fl.map aM)[(i:Int).toNat]?=some (aM f):=by rw[acj];simp[hf]
  refine⟨aM f,fun _=>⟨by omega,im⟩,?_⟩
  have hq:=PW f hm
  have ib:=fun g=>Jc g (k:=f.it) ⟨hq.2.1,hq.2.2⟩
  have sb:=fun g v=>KW g (k:=f.it) v ⟨hq.2.1,hq.2.2⟩
  have bi:=GZ f.it i hi
  have nx:=fun j=>zv (c:=tN) hf j
  repeat refine gG ?_
  refine acg (fun h=>?_) fun _=>?_
  ·exfalso;simp at h;omega
  have key:∀v,v=qB tN P.fl (i+1) f.it->(sq (qB tN P.fl i)).set f.it.toNat (I v)=sq (qB tN P.fl (i+1)):=fun v hv=>by
   rw[sb]
   exact nc fun j=>by
    by_cases hj:j=f.it
    ·rw[if_pos hj,hv,hj]
    ·rw[if_neg hj,nx j];unfold tN;rw[if_neg (Ne.symm hj)];omega
  have l5:((sq (qB tN P.fl i)).length:Int)=5:=rfl
  have nf:=nx f.it
  have fc:tN f.it f=(if f.fr=0 then f.n else 0)-(if f.to=0 then f.n else 0):=if_pos rfl
  rw[fc]at nf
  have is:∀v,((sq (qB tN P.fl i)).set f.it.toNat (I v))[f.it.toNat]?=some (I v):=fun v=>List.getElem?_set_self (by omega)
  have ls:∀v,(((sq (qB tN P.fl i)).set f.it.toNat (I v)).length:Int)=5:=fun v=>by rw[List.length_set];exact l5
  have hk:=dh f hm
  unfold T0 at hk
  refine acg (fun h1=>?_) fun h1=>?_
  ·have Uq:f.fr=0:=beq_iff_eq.1 h1
   rw[if_pos Uq]at nf
   refine⟨fun _=>by omega,_,fun _=>ib _,?_⟩
   refine⟨fun _=>by omega,?_⟩
   refine⟨fun _=>by omega,[I (qB tN P.fl i f.it+f.n)],⟨rf,tv⟩,_,ib _,?_⟩
   refine⟨by kernel_rfl,?_⟩
   refine acg (fun h2=>?_) fun h2=>?_
   ·have Jt:f.to=0:=beq_iff_eq.1 h2
    rw[if_pos Jt]at nf
    have e:=key (qB tN P.fl i f.it+f.n-f.n) (by omega)
    rw[<-List.set_set (I (qB tN P.fl i f.it+f.n))]at e
    have l6:=ls (qB tN P.fl i f.it+f.n)
    refine⟨fun _=>by omega,_,fun _=>is _,?_⟩
    refine⟨fun _=>by omega,?_⟩
    refine⟨fun _=>by omega,[I (qB tN P.fl i f.it+f.n-f.n)],⟨rf,tv⟩,_,is _,?_⟩
    refine⟨by kernel_rfl,?_⟩
    repeat refine gG ?_
    refine acg (fun h=>?_) fun _=>?_
    ·exfalso;simp at h;omega
    exact⟨fun _=>by omega,i+1,jn rfl (by simp only[e];rfl) rfl rfl,aw,mlt aw⟩
   ·have Jt:f.to≠0:=beq_eq_false_iff_ne.1 h2
    rw[if_neg Jt]at nf
    have e:=key (qB tN P.fl i f.it+f.n) (by omega)
    repeat refine gG ?_
    refine acg (fun h=>?_) fun _=>?_
    ·exfalso;simp at h;omega
    exact⟨fun _=>by omega,i+1,jn rfl (by simp only[e];rfl) rfl rfl,aw,mlt aw⟩
  ·have Uq:f.fr≠0:=beq_eq_false_iff_ne.1 h1
   rw[if_neg Uq]at nf
   refine acg (fun h2=>?_) fun h2=>?_
   ·have Jt:f.to=0:=beq_iff_eq.1 h2
    rw[if_pos Jt]at nf
    have e:=key (qB tN P.fl i f.it-f.n) (by omega)
    refine⟨fun _=>by omega,_,fun _=>ib _,?_⟩
    refine⟨fun _=>by omega,?_⟩
    refine⟨fun _=>by omega,[I (qB tN P.fl i f.it-f.n)],⟨rf,tv⟩,_,ib _,?_⟩
    refine⟨by kernel_rfl,?_⟩
    repeat refine gG ?_
    refine acg (fun h=>?_) fun _=>?_
    ·exfalso;simp at h;omega
    exact⟨fun _=>by omega,i+1,jn rfl (by simp only[e];rfl) rfl rfl,aw,mlt aw⟩
   ·have Jt:f.to≠0:=beq_eq_false_iff_ne.1 h2
    rw[if_neg Jt]at nf
    have e:sq (qB tN P.fl i)=sq (qB tN P.fl (i+1)):=nc fun j=>by rw[nx j];unfold tN;rw[if_neg Uq,if_neg Jt];split<;>omega
    repeat refine gG ?_
    refine acg (fun h=>?_) fun _=>?_
    ·exfalso;simp at h;omega
    exact⟨fun _=>by omega,i+1,jn rfl (by simp only[e];rfl) rfl rfl,aw,mlt aw⟩
 ·obtain rfl:i=P.fl.length:=by have:=acB h;omega
  rw[show sq (qB tN P.fl P.fl.length)=sq (bG R.st)from nc Qg]
  have hH:=I6 P (pP R.st) hI.hold (by omega) fun p hp=>by
   have hm:=(List.mem_filter.1 (hI.perm.mem_iff.1 hp)).1
   have hq:=hG.pL p hm
   have hl:=hG.fl
   exact⟨by omega,fun x hx=>by have:=ai.1 (hq.1 x hx);omega⟩
  have hT:=fun j=>Q5 R.st j
  have Xv:=T2 (m:=R.st) fun p hp=>by have:=hD.ky p hp;omega
  have hHn:=Xt (m:=R.st)
  have hHl:(pP R.st).length<=160:=by have:=Q6 R.st;have:=hG.st;have:=hG.fl;omega
  generalize pP R.st=H at*
  refine .inr (cl [5,1,2,8,9,3,4] hH (by kernel_rfl) rfl rfl ?_)
  refine .inr (.inl ⟨sq fun _=>0,rfl,⟨rf,rf,rf,rf,rf,tv⟩,(by simp[sq];rfl),?_⟩)
  refine⟨Nat,fun i=>⟨15,[(5,.ptr 5 0),(6,.own 13 0 0 []),(11,.dv (.sl 3 (H.map mX))),(12,.own 14 0 0 []),(13,.dv (I i))],lcK P (sq (bG R.st))++[(14,.tree 0 0 (.aC 1 (sq (qB KV H i))))]⟩,fun i=>i<=H.length,fun i=>H.length-i,0,fun _=>rfl,jn rfl rfl rfl rfl,acy _,?_⟩
  have lH:(H.map mX).length=H.length:=ach ..
  intro i hi
  refine acg (fun h=>?_) fun h=>?_
  ·have aw:i<H.length:=by have:=acA h;omega
   obtain⟨x,hx⟩:∃x,H[i]?=some x:=⟨_,aaS aw⟩
   have hm:=ack hx
   have im:(H.map mX)[(i:Int).toNat]?=some (mX x):=by rw[acj];simp[hx]
   have hq:=Xv x hm
   have hn:=hHn x hm
   have ib:=fun g=>Jc g (k:=x.1.2) ⟨hq.1,hq.2⟩
   have sb:=fun g v=>KW g (k:=x.1.2) v ⟨hq.1,hq.2⟩
   have bi:=Jd (c:=KV) (l:=H) (b:=4503599627370496) (fun y hy j=>by have:=hHn y hy;unfold KV;split<;>omega) x.1.2 i hi
   have nx:=fun j=>zv (c:=KV) hx j
   have fc:KV x.1.2 x=x.2:=if_pos rfl
   have nf:=nx x.1.2
   rw[fc]at nf
   have l5:((sq (qB KV H i)).length:Int)=5:=rfl
   have e:(sq (qB KV H i)).set x.1.2.toNat (I (qB KV H i x.1.2+x.2))=sq (qB KV H (i+1)):=by
    rw[sb]
    exact nc fun j=>by
     by_cases hj:j=x.1.2
     ·rw[if_pos hj,hj,nf]
     ·rw[if_neg hj,nx j];unfold KV;rw[if_neg (Ne.symm hj)];omega
   refine⟨mX x,fun _=>⟨by omega,im⟩,?_⟩
   repeat refine gG ?_
   refine⟨mX x,fun _=>⟨by omega,im⟩,?_⟩
   repeat refine gG ?_
   refine acg (fun h=>?_) fun _=>?_
   ·exfalso;simp at h;omega
   refine⟨mX x,fun _=>⟨by omega,im⟩,?_⟩
   refine⟨mX x,fun _=>⟨by omega,im⟩,?_⟩
   refine⟨fun _=>by omega,_,fun _=>ib _,?_⟩
   refine⟨mX x,fun _=>⟨by omega,im⟩,?_⟩
   refine⟨fun _=>by omega,?_⟩
   refine⟨fun _=>by omega,[I (qB KV H i x.1.2+x.2)],⟨rf,tv⟩,_,ib _,?_⟩
   refine⟨by kernel_rfl,?_⟩
   exact⟨fun _=>by omega,i+1,jn rfl (by simp only[e];rfl) rfl rfl,aw,mlt aw⟩
  ·obtain rfl:i=H.length:=by have:=acB h;omega
   rw[show sq (qB KV H H.length)=sq (bG R.st)from nc fun j=>by rw[KX];exact hT j]
   refine⟨Nat,fun i=>⟨15,[(5,.ptr 5 0),(6,.own 13 0 0 []),(12,.own 14 0 0 []),(14,.dv (I i))],lcK P (sq (bG R.st))++[(14,.tree 0 0 (.aC 1 (sq (bG R.st))))]⟩,fun i=>i<=5,fun i=>5-i,0,fun _=>rfl,jn rfl rfl rfl rfl,acy _,?_⟩
   have l5:((sq (bG R.st)).length:Int)=5:=rfl
   intro i hi
   refine acg (fun h=>?_) fun h=>?_
   ·have aw:i<5:=by have:=acA h;omega
    have ib:=Jc (bG R.st) (k:=i) (by omega)
    have ht:=hI.b7 i
    refine⟨fun _=>by omega,_,fun _=>ib,?_⟩
    have hp:=vQ P i
    rw[ht]at hp
    refine .inr (cl [5,1,2,8,9,3,4] hp (by kernel_rfl) rfl rfl ?_)
    repeat refine gG ?_
    refine⟨fun _=>by omega,?_⟩
    repeat refine gG ?_
    refine⟨_,fun _=>ib,?_⟩
    repeat refine gG ?_
    refine⟨fun _=>by omega,?_⟩
    repeat refine gG ?_
    refine⟨_,fun _=>ib,?_⟩
    repeat refine gG ?_
    refine⟨by kernel_rfl,?_⟩
    refine acg (fun h=>?_) fun _=>?_
    ·exfalso;simp at h
    exact⟨fun _=>by omega,i+1,jn rfl rfl rfl rfl,aw,mlt aw⟩
   ·refine .inl ⟨_,fun _=>hLv.ok,?_⟩
    exact⟨rf,tv⟩
end Go.Proofs.YtmojfblpbcficaaGreatDoor
