import Derived.Test.YtfpebgpgabjieaaGreatDoorGM21
import Derived.Test.YtfpebgpgabjieaaGreatDoorGM22
import Derived.Test.YtfpebgpgabjieaaGreatDoorGM18
import Derived.Test.YtfpebgpgabjieaaGreatDoorGM17
set_option linter.all false
open Go.TM.oA Go.TM.oB Go.TM.oC Go.TM.oD Go.TM.oE
namespace Go.Proofs.YtfpebgpgabjieaaGreatDoor
set_option maxRecDepth 100000
set_option maxHeartbeats 4000000
section
open Go.TM
def dX(R:RL)(s:cG)(m:c5)(tk:List Lt)(md:List Int):bp:=⟨R.sh*4294967296+R.fl.length,R.sh*4294967296+R.sp.length,s.kind,s.tick,s.iF,m.fr,m.to,m.it,m.n,tk,md⟩
structure RB(R:RL):Prop where
 sh:0<=R.sh/\R.sh<=1000
 fl:R.fl.length<=900000
 sp:R.sp.length<=900000
variable [bj]
theorem BJ(R:RL)(s:cG)(m:c5)(e:Int)(tk:List Lt)(he:e≠0)(hb:RB R)(ht:aj Tryz.prog 127 [.ptr 0 0,.dv (I s.kind),cx (aq m)] 4 (dq R) 0 [.dv (aQ tk),.dv (I e)] (dq R)):aj Tryz.prog 90 [.ptr 0 0,cx (aP s),cx (aq m)] 4 (dq R) 0 [.dv (I e)] (dq R):=by
 obtain⟨oF,hf,hn⟩:=hb
 refine cO Tryz.func90 rfl (by kernel_rfl) ?_
 have lf:(R.fl.map ar).length=R.fl.length:=adO ..
 have lp:(R.sp.map aP).length=R.sp.length:=adO ..
 have m1:-9223372036854775808<=R.sh*4294967296/\R.sh*4294967296<=9223372036854775807:=by omega
 have m2:-9223372036854775808<=R.sh*4294967296+((R.fl.map ar).length:Int)/\R.sh*4294967296+((R.fl.map ar).length:Int)<=9223372036854775807:=by omega
 have m3:-9223372036854775808<=R.sh*4294967296+((R.sp.map aP).length:Int)/\R.sh*4294967296+((R.sp.map aP).length:Int)<=9223372036854775807:=by omega
 refine⟨fun _=>m1,fun _=>m2,fun _=>m1,fun _=>m3,by kernel_rfl,?_⟩
 refine .inr (cl [0,1,2,3] ht (by kernel_rfl) rfl rfl ?_)
 refine adN (fun _=>?_) fun h=>by simp[he]at h
 exact ext (by kernel_rfl) rfl rfl
theorem MR(R:RL)(st1:SM)(s:cG)(m:c5)(tk:List Lt)(eC:0<m.fr)(hb:RB R)(ZK:0<=m.n/\m.n<=1099511627776)(h1:st1.length<=100000)(hk:(bC st1 (m.to,m.it)).length<4096/\∀y∈bC st1 (m.to,m.it),0<=y.a/\y.a<=1099511627776/\0<=y.n/\y.n<=1099511627776)(ht:aj Tryz.prog 127 [.ptr 0 0,.dv (I s.kind),cx (aq m)] 4 (dq R) 0 [.dv (aQ tk),.dv (I 0)] (jC 1 0 0 { R with st:=st1 })):aj Tryz.prog 90 [.ptr 0 0,cx (aP s),cx (aq m)] 4 (dq R) 0 [.dv (I 0)] (jC 1 1 0 { R with st:=if 0<m.to then aH st1 (m.to,m.it) (aN (bC st1 (m.to,m.it)) ⟨R.sh*4294967296+R.fl.length,0,m.n⟩)else st1,fl:=R.fl++[dX R s m tk []] }):=by
 obtain⟨oF,hf,hn⟩:=hb
 refine cO Tryz.func90 rfl (by kernel_rfl) ?_
 have lf:(R.fl.map ar).length=R.fl.length:=adO ..
 have lp:(R.sp.map aP).length=R.sp.length:=adO ..
 have m1:-9223372036854775808<=R.sh*4294967296/\R.sh*4294967296<=9223372036854775807:=by omega
 have m2:-9223372036854775808<=R.sh*4294967296+((R.fl.map ar).length:Int)/\R.sh*4294967296+((R.fl.map ar).length:Int)<=9223372036854775807:=by omega
 have m3:-9223372036854775808<=R.sh*4294967296+((R.sp.map aP).length:Int)/\R.sh*4294967296+((R.sp.map aP).length:Int)<=9223372036854775807:=by omega
 refine⟨fun _=>m1,fun _=>m2,fun _=>m1,fun _=>m3,by kernel_rfl,?_⟩
 refine .inr (cl [0,1,2,3] ht (by kernel_rfl) rfl rfl ?_)
 refine adN (fun h=>by cases h) fun _=>?_
 refine⟨Unit,fun _=>⟨7,[(0,.ptr 0 0),(4,.ptr 4 0),(5,.ptr 5 0),(7,.ptr 6 0),(10,.dv (I 0))],jC 1 0 0 { R with st:=st1 }++[(4,.cells (eP (aP s).cells)),(5,.cells (eP (aq m).cells)),(6,.cells (eP [I (R.sh*4294967296+((R.fl.map ar).length:Int)),I (R.sh*4294967296+((R.sp.map aP).length:Int)),I s.kind,I s.tick,I s.iF,I m.fr,I m.to,I m.it,I m.n,aQ tk,.aw]))]⟩,fun _=>True,fun _=>0,(),fun _=>rfl,jn rfl rfl rfl rfl,tv,?_⟩
 rintro i-
 repeat refine gG ?_
 refine adN ?_ ?_
 ·intro h
  exact absurd h (by simp;omega)
 intro _
 have Uw:(m.fr==0)=false:=by simp;omega
 repeat refine gG ?_
 refine .inl ⟨by rw[Uw];rfl,[I 0],(fun h=>by rw[Uw]at h;cases h),rfl,?_⟩
 repeat refine gG ?_
 refine⟨fun h=>(by rw[Uw]at h;cases h),?_⟩
 repeat refine gG ?_
 refine⟨by kernel_rfl,adN (fun h=>(by rw[Uw]at h;cases h)) fun _=>?_⟩
 refine adN (fun kn=>?_) (fun kn=>?_)
 ·have kn:0<m.to:=ad5 kn
  rw[if_pos kn]
  refine .inr (cl [0,1,2,3] (iH { R with st:=st1 } m.to m.it h1) (by kernel_rfl) rfl rfl ?_)
  have A2:=dR (bC st1 (m.to,m.it)) ⟨R.sh*4294967296+R.fl.length,0,m.n⟩
  have ha:=pQ (bC st1 (m.to,m.it)) ⟨R.sh*4294967296+R.fl.length,0,m.n⟩ (by omega) hk.2 ZK
  rw[<-lf]at ha A2⊢
  refine .inl ⟨_,fun _=>ha.ok,?_⟩
  generalize aN (bC st1 (m.to,m.it)) ⟨R.sh*4294967296+((R.fl.map ar).length:Int),0,m.n⟩=nx at*
  refine⟨by kernel_rfl,adN (fun h=>?_) fun _=>?_⟩
  ·have:=ad5 h;rw[adO]at this;omega
  refine .inr (cl [0,1,2,3] (nY { R with st:=st1 } m.to m.it nx h1) (by kernel_rfl) rfl rfl ?_)
  refine .inl ⟨[ar (dX R s m tk [])],rfl,⟨aG (by rw[lf];rfl),aG (by rw[lp];rfl),rf,rf,rf,rf,rf,rf,rf,rf,DV.aL 1,tv⟩,(by simp;rfl),?_⟩
  refine .inr ⟨[ar (dX R s m tk [])],bV.refl _,bF (by simp[u7];omega),by simp[u7];omega,?_⟩
  refine⟨by kernel_rfl,ext (by kernel_rfl) rfl ?_⟩
  simp only[jC,ad7]
  rfl
 ·have kn:¬0<m.to:=ad6 kn
  rw[if_neg kn]
  refine .inl ⟨[ar (dX R s m tk [])],rfl,⟨aG (by rw[lf];rfl),aG (by rw[lp];rfl),rf,rf,rf,rf,rf,rf,rf,rf,DV.aL 1,tv⟩,(by simp;rfl),?_⟩
  refine .inr ⟨[ar (dX R s m tk [])],bV.refl _,bF (by simp[u7];omega),by simp[u7];omega,?_⟩
  refine⟨by kernel_rfl,ext (by kernel_rfl) rfl ?_⟩
  simp only[jC,ad7]
  rfl
end
section
open Go.TM
def qZ(fl:List bp)(st:Int):List Int:=(fl.filter fun f=>f.step==st&&f.to==0).map (·.id)
def tz(k:Int):Bool:=k==4||k==10
theorem Qi{fl:List bp}{st:Int}{j:Nat}{f:bp}(h:fl[j]?=some f):qZ (fl.take (j+1)) st=qZ (fl.take j) st++bif f.step==st&&f.to==0 then[f.id]else[]:=by
 unfold qZ
 rw[adY,h,List.filter_append,ad7]
 congr 1
 cases hb:f.step==st&&f.to==0<;>simp[List.filter,hb]
theorem C8(fl:List bp)(st:Int):(qZ fl st).length<=fl.length:=by
 unfold qZ;rw[adO];exact List.length_filter_le _ _
variable [bj]
theorem MS(R:RL)(s:cG)(to it n:Int)(ps tk:List Lt)(hb:RB R)(ZK:0<=n/\n<=1099511627776)(h1:R.st.length<=1000)(hl:∀p∈R.st,p.2.length<=1000000)(hk:(bC R.st (to,it)).length<4096/\∀y∈bC R.st (to,it),0<=y.a/\y.a<=1099511627776/\0<=y.n/\y.n<=1099511627776)(kn:0<to)(e:Int)(he:e=if 1099511627776<bN R.st it+n then 4 else 0)
 (ht:aj Tryz.prog 127 [.ptr 0 0,.dv (I s.kind),cx (aq ⟨0,to,it,n,ps⟩)] 4 (dq R) 0 [.dv (aQ tk),.dv (I 0)] (dq R)):aj Tryz.prog 90 [.ptr 0 0,cx (aP s),cx (aq ⟨0,to,it,n,ps⟩)] 4 (dq R) 0 [.dv (I e)] (if e=0 then jC 1 1 0 { R with st:=aH R.st (to,it) (aN (bC R.st (to,it)) ⟨R.sh*4294967296+R.fl.length,0,n⟩),fl:=R.fl++[dX R s ⟨0,to,it,n,ps⟩ tk (bif tz s.kind then qZ R.fl (R.sh*4294967296+R.sp.length)else[])] }else dq R):=by
 obtain⟨oF,hf,hn⟩:=hb
 refine cO Tryz.func90 rfl (by kernel_rfl) ?_
 have lf:(R.fl.map ar).length=R.fl.length:=adO ..
 have lp:(R.sp.map aP).length=R.sp.length:=adO ..
 have m1:-9223372036854775808<=R.sh*4294967296/\R.sh*4294967296<=9223372036854775807:=by omega
 have m2:-9223372036854775808<=R.sh*4294967296+((R.fl.map ar).length:Int)/\R.sh*4294967296+((R.fl.map ar).length:Int)<=9223372036854775807:=by omega
 have m3:-9223372036854775808<=R.sh*4294967296+((R.sp.map aP).length:Int)/\R.sh*4294967296+((R.sp.map aP).length:Int)<=9223372036854775807:=by omega
 refine⟨fun _=>m1,fun _=>m2,fun _=>m1,fun _=>m3,by kernel_rfl,?_⟩
 refine .inr (cl [0,1,2,3] ht (by kernel_rfl) rfl rfl ?_)
 refine adN (fun h=>by cases h) fun _=>?_
 refine⟨Nat,fun i=>⟨8,[(0,.ptr 0 0),(4,.ptr 4 0),(5,.ptr 5 0),(7,.ptr 6 0),(10,.dv (I i))],[(0,.cells (rlC R)),(1,.tree 0 0 (.aD 3 (R.st.map iK))),(2,.tree 0 0 (.aD 11 (R.fl.map ar))),(3,.tree 0 0 (.aD 7 (R.sp.map aP))),(4,.cells (eP (aP s).cells)),(5,.cells (eP (aq ⟨0,to,it,n,ps⟩).cells)),(6,.cells ([.dv (I (R.sh*4294967296+((R.fl.map ar).length:Int))),.dv (I (R.sh*4294967296+((R.sp.map aP).length:Int))),.dv (I s.kind),.dv (I s.tick),.dv (I s.iF),.dv (I 0),.dv (I to),.dv (I it),.dv (I n),.dv (aQ tk),.own 7 0 0 []])),(7,.tree 0 0 (.aD 1 ((qZ (R.fl.take i) (R.sh*4294967296+((R.sp.map aP).length:Int))).map I)))]⟩,fun i=>i<=R.fl.length/\(tz s.kind=false->i=0),fun i=>R.fl.length-i,0,fun _=>rfl,⟨⟨rfl,rfl,rfl,rfl,rf,tv⟩,⟨nV rfl,nV rfl,nV rfl,nV rfl,nV rfl,nV rfl,⟨rf,rf,rf,rf,rf,rf,rf,rf,rf,rf,⟨rfl,rfl,rfl,rfl,1,rfl⟩,tv⟩,⟨rfl,rfl,1,rfl⟩,tv⟩,rfl,rfl⟩,⟨ad3 _,fun _=>rfl⟩,?_⟩
 rintro i ⟨hi,F4⟩
 repeat refine gG ?_
 refine adN ?_ ?_
 ·intro h
  have h:=dc h
  have ay:i<R.fl.length:=by have:=ad5 (dc h.1).1;omega
  have hm:tz s.kind=true:=by
   have h2:=h.2
   unfold tz
   revert h2
   cases(s.kind==4)<;>simp
  obtain⟨x,hx⟩:∃x,R.fl[i]?=some x:=⟨_,ace ay⟩
  have ix:(R.fl.map ar)[(i:Int).toNat]?=some (ar x):=by rw[adQ];simp[hx]
  have ib:(0:Int)<=i/\(i:Int)<(R.fl.map ar).length:=(by omega)
  have dD:=Qi (st:=R.sh*4294967296+((R.sp.map aP).length:Int)) hx
  have hml:=C8 (R.fl.take i) (R.sh*4294967296+((R.sp.map aP).length:Int))
  rw[ad9]at hml
  refine⟨fun _=>ib,ar x,fun _=>ix,?_⟩
  repeat refine gG ?_
  refine⟨fun _=>ib,?_⟩
  repeat refine gG ?_
  refine⟨ar x,fun _=>ix,?_⟩
  repeat refine gG ?_
  refine⟨by kernel_rfl,adN (fun h=>?_) fun h=>?_⟩
  ·have e:(x.step==R.sh*4294967296+((R.sp.map aP).length:Int)&&x.to==0)=true:=by
    have h:=dc h
    rw[h.1,h.2];rfl
   rw[e]at dD
   refine⟨fun _=>ib,ar x,fun _=>ix,?_⟩
   refine .inl ⟨[I x.id],rfl,⟨rf,tv⟩,(by simp;rfl),?_⟩
   refine .inr ⟨[I x.id],bV.refl _,bI (by simp only[adO,ad1,List.length_cons,List.length_nil,ad9]at *; omega),by simp only[adO,ad1,List.length_cons,List.length_nil,ad9]at *; omega,?_⟩
   refine⟨by kernel_rfl,?_⟩
   exact⟨fun _=>by omega,i+1,jn rfl (by simp only[dD,ad7];rfl) rfl rfl,⟨by omega,fun hc=>(by rw[hm]at hc;cases hc)⟩,mlt ay⟩
  ·have e:(x.step==R.sh*4294967296+((R.sp.map aP).length:Int)&&x.to==0)=false:=by
    have h:=mc h
    rw[Bool.eq_false_iff];intro h2;exact h (by simpa using h2)
   rw[e]at dD
   have dD:qZ (R.fl.take (i+1)) (R.sh*4294967296+((R.sp.map aP).length:Int))=qZ (R.fl.take i) (R.sh*4294967296+((R.sp.map aP).length:Int)):=dD.trans (List.append_nil _)
   exact⟨fun _=>by omega,i+1,jn rfl (by simp only[dD];rfl) rfl rfl,⟨by omega,fun hc=>(by rw[hm]at hc;cases hc)⟩,mlt ay⟩
 intro h
 have hd:qZ (R.fl.take i) (R.sh*4294967296+((R.sp.map aP).length:Int))=bif tz s.kind then qZ R.fl (R.sh*4294967296+((R.sp.map aP).length:Int))else[]:=by
  cases hm:tz s.kind with
  |false=>rw[F4 hm];rfl
  |true=>
   have h:=mc h
   have:¬i<R.fl.length:=fun ay=>h ⟨by
    show(bif decide ((i:Int)<((R.fl.map ar).length:Nat))then true else false)=true
    rw[aeb (by omega)];rfl,by
    show(bif s.kind==4 then true else s.kind==10)=true
    revert hm
    unfold tz
    cases(s.kind==4)<;>simp⟩
   rw[show i=R.fl.length by omega,ad4];rfl
 have b1:=yY it R.st
 have b2:-9223372036854775808<=bN R.st it+n/\bN R.st it+n<=9223372036854775807:=by omega
 repeat refine gG ?_
 refine .inr (cl [0,1,2,3] (FZ R it h1 hl) (by kernel_rfl) rfl rfl ?_)
 refine⟨rfl,?_⟩
 repeat refine gG ?_
 refine⟨fun _=>b2,?_⟩
 repeat refine gG ?_
 refine⟨by kernel_rfl,adN (fun hc=>?_) fun hc=>?_⟩
 ·have hc:1099511627776<bN R.st it+n:=by simpa using hc
  rw[if_pos hc]at he
  subst he
  exact ext (by kernel_rfl) rfl rfl
 have hc:¬1099511627776<bN R.st it+n:=by simpa using hc
 rw[if_neg hc]at he
 subst he
 rw[if_pos rfl]
 refine adN (fun _=>?_) fun h=>absurd kn (ad6 h)
 refine .inr (cl [0,1,2,3] (iH R to it (by omega)) (by kernel_rfl) rfl rfl ?_)
 have A2:=dR (bC R.st (to,it)) ⟨R.sh*4294967296+R.fl.length,0,n⟩
 have ha:=pQ (bC R.st (to,it)) ⟨R.sh*4294967296+R.fl.length,0,n⟩ (by omega) hk.2 ZK
 rw[<-lf]at ha A2⊢
 refine .inl ⟨_,fun _=>ha.ok,?_⟩
 generalize aN (bC R.st (to,it)) ⟨R.sh*4294967296+((R.fl.map ar).length:Int),0,n⟩=nx at*
 refine⟨by kernel_rfl,adN (fun h=>?_) fun _=>?_⟩
 ·have:=ad5 h;rw[adO]at this;omega
 refine .inr (cl [0,1,2,3] (nY R to it nx (by omega)) (by kernel_rfl) rfl rfl ?_)
 rw[hd]
 refine .inl ⟨[ar (dX R s ⟨0,to,it,n,ps⟩ tk (bif tz s.kind then qZ R.fl (R.sh*4294967296+((R.sp.map aP).length:Int))else[]))],rfl,⟨aG (by rw[lf];rfl),aG (by rw[lp];rfl),rf,rf,rf,rf,rf,rf,rf,rf,DV.Le.of_eq (by
  show DV.sl 1 (uX ((bif tz s.kind then qZ R.fl (R.sh*4294967296+((R.sp.map aP).length:Int))else[]).map I))=_
  rw[dV fun _=>rfl];rfl),tv⟩,(by simp;rfl),?_⟩
 refine .inr ⟨[ar (dX R s ⟨0,to,it,n,ps⟩ tk (bif tz s.kind then qZ R.fl (R.sh*4294967296+((R.sp.map aP).length:Int))else[]))],bV.refl _,bF (by simp[u7];omega),by simp[u7];omega,?_⟩
 refine⟨by kernel_rfl,ext (by kernel_rfl) rfl ?_⟩
 rw[<-lp]
 simp only[jC,ad7]
 rfl
end
section
open Go.TM
def BK(R:RL)(k:Int)(m:c5):Int×List Lt×SM:=
 if 0<m.fr then
  if m.ps=[]then bif decide (cu (bC R.st (m.fr,m.it))<m.n)then(10,[],R.st)else(0,(eV (bC R.st (m.fr,m.it)) m.n (wM m.it)).1,aH R.st (m.fr,m.it) (eV (bC R.st (m.fr,m.it)) m.n (wM m.it)).2)
  else bif rY m.ps (bC R.st (m.fr,m.it))then(0,m.ps,aH R.st (m.fr,m.it) (IU (bC R.st (m.fr,m.it)) m.ps))else(10,[],R.st)
 else(if k=5 then vc R.sh R.fl m.ps else if k=9 then tx R.fl m.it m.ps else 0,if k=5\/k=9 then m.ps else[],R.st)
def aX(R:RL)(s:cG)(m:c5):Int×RL:=
 if(BK R s.kind m).1≠0 then((BK R s.kind m).1,R)
 else if m.fr=0/\1099511627776<bN R.st m.it+m.n then(4,R)
 else(0,{ R with
  st:=if 0<m.to then aH (BK R s.kind m).2.2 (m.to,m.it) (aN (bC (BK R s.kind m).2.2 (m.to,m.it)) ⟨R.sh*4294967296+R.fl.length,0,m.n⟩)else(BK R s.kind m).2.2
  fl:=R.fl++[dX R s m (BK R s.kind m).2.1 (if m.fr=0 then bif tz s.kind then qZ R.fl (R.sh*4294967296+R.sp.length)else[]else[])] })
structure RG(R:RL):Prop where
 sh:0<=R.sh/\R.sh<=1000
 fl:R.fl.length<=900000
 sp:R.sp.length<=900000
 st:R.st.length<=900
 tA:∀p∈R.st,(∀x∈p.2,aB x=true)/\p.2.length<=4000
 ps:∀f∈R.fl,f.ps.length<=200
theorem C9{m:SM}{k:Ky}(h:bC m k≠[]):(k,bC m k)∈m:=by
 unfold bC at h⊢
 cases hg:aU m k with
 |none=>rw[hg]at h;exact absurd rfl h
 |some x=>exact lC hg
theorem RG.oK{R:RL}(h:RG R)(k:Ky):(∀x∈bC R.st k,aB x=true)/\(bC R.st k).length<=4000:=by
 by_cases hs:bC R.st k=[]
 ·rw[hs];exact⟨fun x hx=>(by cases hx),ad3 _⟩
 ·exact h.tA _ (C9 hs)
theorem RG.val{R:RL}(h:RG R)(k:Ky):bz (bC R.st k)=true:=by
 have:=h.oK k
 simp only[bz,aep,aed,decide_eq_true_eq]
 exact⟨this.1,by omega⟩
theorem fB(m:SM)(k k':Ky)(l:List Lt):bC (aH m k l) k'=if k=k' then l else bC m k':=by
 unfold bC;rw[iY];split<;>rfl
theorem y4{κ β:Type}[DecidableEq κ](m:List (κ×β))(k:κ)(x:β):(aH m k x).length<=m.length+1:=by
 have:=congrArg List.length (uW m k x)
 rw[adO]at this
 split at this<;>simp at this<;>omega
variable [bj]
theorem I5{f:Nat}{args rs:List AV}{K:ad}(R:RL)(h:aj Tryz.prog f args 4 K 0 rs (dq R)):aj Tryz.prog f args 4 K 0 rs (jC 1 1 0 R):=by
 refine r6 (i:=2) (e0:=0) (K1:=jC 1 0 0 R) (r6 (i:=1) (e0:=0) (K1:=dq R) h (by omega) ⟨_,rfl,rfl,fun j hj=>?_⟩) (by omega) ⟨_,rfl,rfl,fun j hj=>?_⟩
 ·match j,hj with
  |0,_=>exact .cells (.same _ (.same _ (.same _ (.same _ (.same _ (.rU (.same _ (.same _ .nil))))))))
  |2,_=>exact .refl _
  |3,_=>exact .refl _
  |j+4,_=>exact .refl _
 ·match j,hj with
  |0,_=>exact .cells (.same _ (.same _ (.same _ (.same _ (.same _ (.same _ (.rU (.same _ .nil))))))))
  |1,_=>exact .refl _
  |3,_=>exact .refl _
  |j+4,_=>exact .refl _
theorem y5(R:RL)(s:cG)(m:c5)(hR:RG R)(hm:di m=true)(hp:m.ps.length<=20)(hb:s.kind=5->∀x∈m.ps,0<=x.f/\x.f<=9223372036854775807):aj Tryz.prog 90 [.ptr 0 0,cx (aP s),cx (aq m)] 4 (dq R) 0 [.dv (I (aX R s m).1)] (jC 1 1 0 (aX R s m).2):=by
 have hB:RB R:=⟨hR.sh,hR.fl,hR.sp⟩
 have hbm:=ad5 hm
 have hs:=hR.oK (m.fr,m.it)
 have ak:=hR.oK (m.to,m.it)
 have bnd:∀y∈bC R.st (m.to,m.it),0<=y.a/\y.a<=1099511627776/\0<=y.n/\y.n<=1099511627776:=fun y hy=>by
  have:=ah.1 (ak.1 y hy);omega
 have hle:=hR.st
 by_cases eC:0<m.fr
 ·have c6:∀l,bC (aH R.st (m.fr,m.it) l) (m.to,m.it)=bC R.st (m.to,m.it):=fun l=>by
   rw[fB,if_neg];intro h;injection h with h1;omega
  have Uu:∀l,(aH R.st (m.fr,m.it) l).length<=100000:=fun l=>by have:=y4 R.st (m.fr,m.it) l;omega
  have fin:∀(tk l:List Lt),BK R s.kind m=(0,tk,aH R.st (m.fr,m.it) l)->aj Tryz.prog 127 [.ptr 0 0,.dv (I s.kind),cx (aq m)] 4 (dq R) 0 [.dv (aQ tk),.dv (I 0)] (jC 1 0 0 (u7 R (m.fr,m.it) l))->aj Tryz.prog 90 [.ptr 0 0,cx (aP s),cx (aq m)] 4 (dq R) 0 [.dv (I (aX R s m).1)] (jC 1 1 0 (aX R s m).2):=fun tk l e ht=>by
   have:=MR R (aH R.st (m.fr,m.it) l) s m tk eC hB (by omega) (Uu l) (by rw[c6];exact⟨by omega,bnd⟩) ht
   unfold aX
   rw[e,if_neg (by simp),if_neg (by omega),if_neg (by omega:¬m.fr=0)]
   exact this
  have err:BK R s.kind m=(10,[],R.st)->aj Tryz.prog 127 [.ptr 0 0,.dv (I s.kind),cx (aq m)] 4 (dq R) 0 [.dv (aQ []),.dv (I 10)] (dq R)->aj Tryz.prog 90 [.ptr 0 0,cx (aP s),cx (aq m)] 4 (dq R) 0 [.dv (I (aX R s m).1)] (jC 1 1 0 (aX R s m).2):=fun e ht=>by
   unfold aX
   rw[e,if_pos (by simp)]
   exact I5 R (BJ R s m 10 [] (by omega) hB ht)
  by_cases kz:m.ps=[]
  ·have ht:=MO R s.kind m eC kz (by omega) (by omega) (by omega) (hR.val _)
   have e:BK R s.kind m=bif decide (cu (bC R.st (m.fr,m.it))<m.n)then(10,[],R.st)else(0,(eV (bC R.st (m.fr,m.it)) m.n (wM m.it)).1,aH R.st (m.fr,m.it) (eV (bC R.st (m.fr,m.it)) m.n (wM m.it)).2):=by
    unfold BK;rw[if_pos eC,if_pos kz]
   cases hc:decide (cu (bC R.st (m.fr,m.it))<m.n)<;>rw[hc]at ht e
   ·exact fin _ _ e ht
   ·exact err e ht
  ·have hz:m.ps.length*((bC R.st (m.fr,m.it)).length+1)<=20*4001:=Nat.mul_le_mul hp (by omega)
   have hz2:(bC R.st (m.fr,m.it)).length*(m.ps.length+1)<=4000*21:=Nat.mul_le_mul (by omega) (by omega)
   have ht:=MN R s.kind m eC kz (by omega) (by omega) (by omega) (by omega) (by omega)
   have e:BK R s.kind m=bif rY m.ps (bC R.st (m.fr,m.it))then(0,m.ps,aH R.st (m.fr,m.it) (IU (bC R.st (m.fr,m.it)) m.ps))else(10,[],R.st):=by
    unfold BK;rw[if_pos eC,if_neg kz]
   cases hc:rY m.ps (bC R.st (m.fr,m.it))<;>rw[hc]at ht e
   ·exact err e ht
   ·exact fin _ _ e ht
 ·have mi:m.fr=0:=by omega
  have ht:=MP R s.kind m eC (by omega) (by have:=hR.fl;omega) hR.ps hb
  have e:BK R s.kind m=(if s.kind=5 then vc R.sh R.fl m.ps else if s.kind=9 then tx R.fl m.it m.ps else 0,if s.kind=5\/s.kind=9 then m.ps else[],R.st):=by
   unfold BK;rw[if_neg eC]
  generalize (if s.kind=5 then vc R.sh R.fl m.ps else if s.kind=9 then tx R.fl m.it m.ps else 0)=er at*
  generalize (if s.kind=5\/s.kind=9 then m.ps else[])=tk at*
  unfold aX
  rw[e]
  by_cases he:er=0
  ·subst he
   rcases m with⟨fr,to,it,n,ps⟩
   dsimp only at*
   subst mi
   have h0:=MS R s to it n ps tk hB (by omega) (by omega) (fun p hp=>by have:=(hR.tA p hp).2;omega) ⟨by omega,bnd⟩ (by omega) _ rfl ht
   rw[if_neg (by simp)]
   by_cases hc:1099511627776<bN R.st it+n
   ·rw[if_pos ⟨rfl,hc⟩]
    rw[if_pos hc,if_neg (by omega)]at h0
    exact I5 R h0
   ·rw[if_neg (fun h=>hc h.2),if_pos (by omega),if_pos rfl]
    rw[if_neg hc,if_pos rfl]at h0
    exact h0
  ·rw[if_pos he]
   exact I5 R (BJ R s m er tk he hB ht)
end
section
open Go.TM
theorem La:∀(l:List Int) (i:Nat),i<l.length->(kE l i).sum=l.sum+1
 |a::l,0,_=>by simp[kE];omega
 |a::l,i+1,h=>by
  have:=La l i (by simpa using h)
  unfold kE at*
  simp only[List.set_cons_succ,List.sum_cons,List.getD_cons_succ]
  omega
theorem F5:∀(o:List Nat) (l:List Int),(∀i∈o,i<l.length)->(o.foldl kE l).sum=l.sum+o.length
 |[],l,_=>by simp
 |i::o,l,h=>by
  rw[List.foldl_cons,F5 o _ fun k hk=>by rw[xc];exact h k (adW _ hk),La l i (h i ad0),List.length_cons]
  omega
theorem Qj{rs qs:List Int}(hl:qs.length=rs.length){m:Nat}(hm:m<=rs.length):(plus rs qs m).sum=qs.sum+m:=by
 obtain⟨o,ho⟩:=IK rs
 rw[<-yD ho hl m,F5 _ _ fun i hi=>?_,ad9,ho.len]
 ·congr 2;omega
 ·have:=ho.perm.mem_iff.1 (List.mem_of_mem_take hi)
  rw[aeh]at this;omega
theorem Ux{t:Int}{ws:List Int}(hs:0<ws.sum):(Ad t ws).sum=t:=by
 have h:=xd (t:=t) hs
 have hc:(rL t ws.sum ws).countP (fun x=>decide (0<x))<=(rL t ws.sum ws).length:=List.countP_le_length
 unfold Ad
 rw[Qj (by simp[qL,rL]) (by omega)]
 have:(((fZ t ws.sum ws).toNat:Nat):Int)=fZ t ws.sum ws:=by omega
 rw[this]
 unfold fZ;omega
theorem Qk{s:List Lt}{n:Int}(mx:Bool)(hn:0<=n)(hs:∀x∈s,0<=x.n)(ht:n<=aJ s):(oT s n mx).sum=n:=by
 unfold oT
 by_cases h:0<n
 ·cases mx with
  |true=>
   rw[aeb h]
   exact Ux (show 0<(s.map (·.n)).sum by rw[pR];omega)
  |false=>exact(yO hn hs).2.2 ht
 ·rw[aec h,Bool.and_false]
  exact(yO hn hs).2.2 ht
theorem Lb{s:List Lt}{ks:List Int}(hk:ks.length=s.length):∀i,i<=s.length->aJ (me s ks i).1=(ks.take i).sum/\aJ (me s ks i).2=aJ (s.take i)-(ks.take i).sum
 |0,_=>by simp[me,aJ]
 |i+1,h=>by
  obtain⟨h1,h2⟩:=Lb hk i (by omega)
  obtain⟨x,hx⟩:∃x,s[i]?=some x:=⟨_,ace (show i<s.length by omega)⟩
  obtain⟨k,FL⟩:∃k,ks[i]?=some k:=⟨_,ace (show i<ks.length by omega)⟩
  rw[yP hx FL,jB hx,adY,FL,List.sum_append]
  unfold ZH
  simp only[pN,Option.toList_some,List.sum_cons,List.sum_nil]
  omega
theorem F6{s:List Lt}{n:Int}(mx:Bool)(hn:0<=n)(hs:∀x∈s,aB x=true)(ht:n<=aJ s):aJ (eV s n mx).1=n/\aJ (eV s n mx).2=aJ s-n:=by
 have hc:=(tl mx hn hs ht).1
 have h:=Lb hc s.length (aei _)
 rw[ad4,<-hc,ad4,Qk mx hn (fun x hx=>(gQ (hs x hx)).1) ht,hc]at h
 exact h
theorem Da{s:List Lt}{n:Int}(mx:Bool)(hn:0<=n)(hs:∀x∈s,aB x=true)(ht:n<=aJ s):(∀y∈(eV s n mx).1,aB y=true)/\(∀y∈(eV s n mx).2,aB y=true)/\(eV s n mx).1.length<=s.length/\(eV s n mx).2.length<=s.length:=
 IQ hs (tl mx hn hs ht) s.length (aei _)
end
section
open Go.TM
theorem iZ{κ β:Type}[DecidableEq κ]{m:List (κ×β)}{k:κ}{x:β}{p:κ×β}(h:p∈aH m k x):p=(k,x)\/p∈m:=by
 induction m with
 |nil=>exact .inl (adU.1 h)
 |cons q r ih=>
  obtain⟨a,v⟩:=q
  simp[aH]at h
  split at h
  ·grind
  ·grind
theorem MT{κ β:Type}[DecidableEq κ]{m:List (κ×β)}{k:κ}{x y:β}(h:aU m k=some y):(aH m k x).length=m.length:=by
 have:=congrArg List.length (uW m k x)
 rwa[if_pos (aeg.2 ⟨_,lC h,rfl⟩),adO,adO]at this
theorem F7:cu []=0:=rfl
theorem tB(it:Int)(l:List Lt)(k:Ky):∀m:SM,bN (aH m k l) it=bN m it+if k.2=it then cu l-cu (bC m k)else 0
 |[]=>by
  simp only[aH,bN,AB,bC,aU,List.map_cons,List.sum_cons,Option.getD_none,F7]
  split<;>omega
 |(q,v)::r=>by
  have ih:=tB it l k r
  unfold aH
  by_cases e:q=k
  ·subst e
   rw[if_pos rfl]
   simp[bN,AB,bC,aU,List.map_cons,Option.getD_some]
   grind
  ·rw[if_neg e]
   have:bC ((q,v)::r) k=bC r k:=by simp_all [bC,aU,if_neg]
   rw[this]
   simp[bN,List.map_cons,List.sum_cons]at*
   rw[ih];omega
theorem pU{s:List Lt}(h:bz s=true):cu s=aJ s:=by grind [cu]
theorem fj{l:List Lt}(h:∀x∈l,aB x=true)(h2:l.length<=4096):bz l=true:=by
 simp_all [bz,decide_eq_true_eq]
structure Good(R:RL):Prop where
 sh:0<=R.sh/\R.sh<=11
 sp:R.sp.length<=40
 fl:R.fl.length<=160
 nk:Nk R.st
 st:R.st.length<=R.fl.length
 tA:∀p∈R.st,(∀x∈p.2,aB x=true)/\p.2.length<=R.fl.length
 tb:∀it,bN R.st it<=1099511627776
 F8:∀f∈R.fl,f.ps.length<=160/\f.md.length<=160/\R.sh*4294967296<=f.id/\f.id<R.sh*4294967296+R.fl.length/\f.step<=R.sh*4294967296+R.sp.length/\(f.kind=5->∃g,0<=g/\f.ps=[⟨g,0,3⟩])
theorem Good.rg{R:RL}(h:Good R):RG R where
 sh:=by have:=h.sh;omega
 fl:=by have:=h.fl;omega
 sp:=by have:=h.sp;omega
 st:=by have:=h.fl;have:=h.st;omega
 tA p hp:=⟨(h.tA p hp).1,by have:=h.fl;have:=(h.tA p hp).2;omega⟩
 ps f hf:=by have:=(h.F8 f hf).1;omega
theorem Good.oK{R:RL}(h:Good R)(k:Ky):(∀x∈bC R.st k,aB x=true)/\(bC R.st k).length<=R.fl.length:=by
 by_cases hs:bC R.st k=[]
 ·grind
 ·exact h.tA _ (C9 hs)
structure AF(sh:Int)(s:cG)(m:c5):Prop where
 base:di m=true
 ps:(s.kind=5/\m.fr=0/\∃g,0<=g/\g<=9223372036854775807/\m.ps=[⟨g,0,3⟩])\/(s.kind≠5/\s.kind≠9/\m.ps=[])
theorem xj(R:RL)(s:cG)(m:c5)(hf:0<m.fr)(hp:m.ps=[]):aX R s m=if cu (bC R.st (m.fr,m.it))<m.n then(10,R)else(0,{ R with
 st:=if 0<m.to then aH (aH R.st (m.fr,m.it) (eV (bC R.st (m.fr,m.it)) m.n (wM m.it)).2) (m.to,m.it) (aN (bC (aH R.st (m.fr,m.it) (eV (bC R.st (m.fr,m.it)) m.n (wM m.it)).2) (m.to,m.it)) ⟨R.sh*4294967296+R.fl.length,0,m.n⟩)else aH R.st (m.fr,m.it) (eV (bC R.st (m.fr,m.it)) m.n (wM m.it)).2
 fl:=R.fl++[dX R s m (eV (bC R.st (m.fr,m.it)) m.n (wM m.it)).1 []] }):=by
 have e:BK R s.kind m=bif decide (cu (bC R.st (m.fr,m.it))<m.n)then(10,[],R.st)else(0,(eV (bC R.st (m.fr,m.it)) m.n (wM m.it)).1,aH R.st (m.fr,m.it) (eV (bC R.st (m.fr,m.it)) m.n (wM m.it)).2):=by
  simp_all [BK,if_pos]
 unfold aX
 grind
def Db(R:RL)(k:Int)(m:c5):Int:=if k=5 then vc R.sh R.fl m.ps else if k=9 then tx R.fl m.it m.ps else 0
theorem Ql(R:RL)(s:cG)(m:c5)(hf:m.fr=0)(ht:0<m.to):aX R s m=if Db R s.kind m≠0 then(Db R s.kind m,R)else if 1099511627776<bN R.st m.it+m.n then(4,R)else(0,{ R with
 st:=aH R.st (m.to,m.it) (aN (bC R.st (m.to,m.it)) ⟨R.sh*4294967296+R.fl.length,0,m.n⟩)
 fl:=R.fl++[dX R s m (if s.kind=5\/s.kind=9 then m.ps else[]) (bif tz s.kind then qZ R.fl (R.sh*4294967296+R.sp.length)else[])] }):=by
 have e:BK R s.kind m=(Db R s.kind m,if s.kind=5\/s.kind=9 then m.ps else[],R.st):=by
  simp_all [BK,Db,if_neg]
 simp_all [aX,if_pos]
theorem Dc{l:List Lt}{x:Lt}{n:Nat}(hl:(∀y∈l,aB y=true)/\l.length<=n)(hx:0<=x.f/\0<=x.a/\1<=x.n/\x.a+x.n<=1099511627776)(hn:n<=4000):((∀y∈aN l x,aB y=true)/\(aN l x).length<=n+1)/\cu (aN l x)=cu l+x.n:=by
 grind [fL,dR,pU,fj,pN]
theorem I6{R:RL}(hG:Good R):∀f:bp,(f.ps.length<=160/\f.md.length<=160/\f.id=R.sh*4294967296+R.fl.length/\f.step=R.sh*4294967296+R.sp.length/\(f.kind=5->∃g,0<=g/\f.ps=[⟨g,0,3⟩]))->∀x∈R.fl++[f],x.ps.length<=160/\x.md.length<=160/\R.sh*4294967296<=x.id/\x.id<R.sh*4294967296+(R.fl++[f]).length/\x.step<=R.sh*4294967296+R.sp.length/\(x.kind=5->∃g,0<=g/\x.ps=[⟨g,0,3⟩]):=by
 intro f hf x hx
 rw[ad1,List.length_singleton]
 rcases adX.1 hx with hx|hx
 ·obtain⟨a1,a2,a3,a4,a5,a6⟩:=hG.F8 x hx
  grind
 grind
def AG(R:RL)(s:cG)(m:c5)(tk:List Lt×List Lt):RL:={ R with
 st:=if 0<m.to then aH (aH R.st (m.fr,m.it) tk.2) (m.to,m.it) (aN (bC R.st (m.to,m.it)) ⟨R.sh*4294967296+R.fl.length,0,m.n⟩)else aH R.st (m.fr,m.it) tk.2
 fl:=R.fl++[dX R s m tk.1 []] }
theorem Wk{R:RL}{s:cG}{m:c5}(hG:Good R)(hl:R.fl.length+1<=160)(hb:di m=true)(eC:0<m.fr)(hk:s.kind≠5)(tk:List Lt×List Lt)(hn:m.n<=aJ (bC R.st (m.fr,m.it)))(t1:tk.1.length<=160)(t2:∀y∈tk.2,aB y=true)(t4:tk.2.length<=R.fl.length+1)(ts:aJ tk.2=aJ (bC R.st (m.fr,m.it))-m.n):
 Good (AG R s m tk)/\(AG R s m tk).fl.length=R.fl.length+1/\∀j,bN (AG R s m tk).st j=if m.it=j then bN R.st j+(if m.fr=0 then m.n else 0)-(if m.to=0 then m.n else 0)else bN R.st j:=by
 have hb:=ad5 hb
 have hS:=hG.oK (m.fr,m.it)
 have oF:=hG.sh
 have kl:0<=R.sh*4294967296+R.fl.length:=by omega
 have hex:∃y,aU R.st (m.fr,m.it)=some y:=by
  cases hg:aU R.st (m.fr,m.it)with
  |some y=>grind
  |none=>
   grind [bC,aJ]
 obtain⟨y,hy⟩:=hex
 have c6:bC (aH R.st (m.fr,m.it) tk.2) (m.to,m.it)=bC R.st (m.to,m.it):=by
  simp_all [fB,if_neg]
 have acH:∀j,bN (aH R.st (m.fr,m.it) tk.2) j=bN R.st j+if m.it=j then -m.n else 0:=by
  grind [tB,pU,fj]
 have hT:=Dc (x:=⟨R.sh*4294967296+R.fl.length,0,m.n⟩) (hG.oK (m.to,m.it)) ⟨kl,by simp,by grind,by grind⟩ (by omega)
 have l1:=MT (x:=tk.2) hy
 have l2:=y4 (aH R.st (m.fr,m.it) tk.2) (m.to,m.it) (aN (bC R.st (m.to,m.it)) ⟨R.sh*4294967296+R.fl.length,0,m.n⟩)
 have ak:=hG.st
 have Qm:∀j,bN (if 0<m.to then aH (aH R.st (m.fr,m.it) tk.2) (m.to,m.it) (aN (bC R.st (m.to,m.it)) ⟨R.sh*4294967296+R.fl.length,0,m.n⟩)else aH R.st (m.fr,m.it) tk.2) j=if m.it=j then bN R.st j+(if m.fr=0 then m.n else 0)-(if m.to=0 then m.n else 0)else bN R.st j:=by
  intro j
  rw[if_neg (by omega:¬m.fr=0)]
  by_cases kn:0<m.to
  ·rw[if_pos kn,if_neg (by omega:¬m.to=0),tB,acH,c6,hT.2]
   grind
  grind
 unfold AG
 refine⟨⟨oF,hG.sp,by grind,?_,?_,?_,?_,?_⟩,by grind,Qm⟩
 ·simp only
  split
  ·exact(hG.nk.put _ _).put _ _
  ·exact hG.nk.put _ _
 ·grind
 ·intro p hp
  simp only[ad1,List.length_singleton]at hp⊢
  have h1:p∈aH R.st (m.fr,m.it) tk.2->(∀x∈p.2,aB x=true)/\p.2.length<=R.fl.length+1:=fun hp=>by
   rcases iZ hp with rfl|hp
   ·grind
   ·exact⟨(hG.tA p hp).1,by have:=(hG.tA p hp).2;omega⟩
  split at hp
  ·rcases iZ hp with rfl|hp
   ·grind
   grind
  grind
 ·intro j
  have:=Qm j
  have:=hG.tb j
  simp only at*
  rw[Qm j]
  split
  ·rw[if_neg (by omega)]
   split<;>omega
  ·omega
 ·exact(I6 hG) _ ⟨by simp only[dX];omega,by simp[dX],rfl,rfl,fun h=>absurd h hk⟩
def wL(R:RL)(s:cG)(m:c5)(l:List Lt)(md:List Int):RL:={ R with
 st:=aH R.st (m.to,m.it) (aN (bC R.st (m.to,m.it)) ⟨R.sh*4294967296+R.fl.length,0,m.n⟩)
 fl:=R.fl++[dX R s m l md] }
theorem X3{R:RL}{s:cG}{m:c5}(hG:Good R)(hl:R.fl.length+1<=160)(hb:di m=true)(mi:m.fr=0)(l:List Lt)(md:List Int)(hc:¬1099511627776<bN R.st m.it+m.n)(h0:l.length<=160)(h1:md.length<=160)(h5:s.kind=5->∃g,0<=g/\l=[⟨g,0,3⟩]):
 Good (wL R s m l md)/\(wL R s m l md).fl.length=R.fl.length+1/\∀j,bN (wL R s m l md).st j=if m.it=j then bN R.st j+(if m.fr=0 then m.n else 0)-(if m.to=0 then m.n else 0)else bN R.st j:=by
 have hb:=ad5 hb
 have oF:=hG.sh
 have kl:0<=R.sh*4294967296+R.fl.length:=by omega
 have hT:=Dc (x:=⟨R.sh*4294967296+R.fl.length,0,m.n⟩) (hG.oK (m.to,m.it)) ⟨kl,by simp,by grind,by grind⟩ (by omega)
 have l2:=y4 R.st (m.to,m.it) (aN (bC R.st (m.to,m.it)) ⟨R.sh*4294967296+R.fl.length,0,m.n⟩)
 have ak:=hG.st
 have Qm:∀j,bN (aH R.st (m.to,m.it) (aN (bC R.st (m.to,m.it)) ⟨R.sh*4294967296+R.fl.length,0,m.n⟩)) j=if m.it=j then bN R.st j+(if m.fr=0 then m.n else 0)-(if m.to=0 then m.n else 0)else bN R.st j:=by
  intro j
  rw[if_pos mi,if_neg (by omega:¬m.to=0),tB,hT.2]
  grind
 unfold wL
 refine⟨⟨oF,hG.sp,by grind,hG.nk.put _ _,?_,?_,?_,?_⟩,by grind,Qm⟩
 ·grind
 ·intro p hp
  simp[ad1,List.length_singleton]at hp⊢
  rcases iZ hp with rfl|hp
  ·grind
  ·exact⟨(hG.tA p hp).1,by have:=(hG.tA p hp).2;omega⟩
 ·intro j
  have:=hG.tb j
  grind
 ·exact(I6 hG) _ ⟨h0,h1,rfl,rfl,h5⟩
theorem Dd{R:RL}{s:cG}{m:c5}(hG:Good R)(hl:R.fl.length+1<=160)(hm:AF R.sh s m)(h0:(aX R s m).1=0):
 Good (aX R s m).2/\(aX R s m).2.fl.length=R.fl.length+1/\∀j,bN (aX R s m).2.st j=if m.it=j then bN R.st j+(if m.fr=0 then m.n else 0)-(if m.to=0 then m.n else 0)else bN R.st j:=by
 have hb:=ad5 hm.base
 have hS:=hG.oK (m.fr,m.it)
 have oF:=hG.sh
 have km:=hG.fl
 have kl:=by omega
 have F8:=I6 hG
 by_cases eC:0<m.fr
 ·have hk:s.kind≠5/\m.ps=[]:=by
   rcases hm.ps with h|h
   ·omega
   grind
  rw[xj R s m eC hk.2]at h0⊢
  by_cases hc:cu (bC R.st (m.fr,m.it))<m.n
  ·rw[if_pos hc]at h0;cases h0
  rw[if_neg hc]
  have hn:m.n<=aJ (bC R.st (m.fr,m.it)):=by rw[pU (fj hS.1 (by omega))]at hc;omega
  obtain⟨t1,t2,t3,t4⟩:=Da _ (by omega) hS.1 hn
  have c6:bC (aH R.st (m.fr,m.it) (eV (bC R.st (m.fr,m.it)) m.n (wM m.it)).2) (m.to,m.it)=bC R.st (m.to,m.it):=by
   simp_all [fB,if_neg]
  simp only[c6]
  exact Wk hG hl hm.base eC hk.1 _ hn (by omega) t2 (by omega) ((F6 (wM m.it) (by omega) hS.1 hn).2)
 ·have mi:m.fr=0:=by omega
  rw[Ql R s m mi (by omega)]at h0⊢
  by_cases he:Db R s.kind m≠0
  ·rw[if_pos he]at h0;exact absurd h0 he
  rw[if_neg he]at h0⊢
  by_cases hc:1099511627776<bN R.st m.it+m.n
  ·rw[if_pos hc]at h0;cases h0
  rw[if_neg hc]
  have h1:(bif tz s.kind then qZ R.fl (R.sh*4294967296+R.sp.length)else[]).length<=160:=by
   have:=C8 R.fl (R.sh*4294967296+R.sp.length)
   cases tz s.kind
   ·exact ad3 _
   ·exact Nat.le_trans this (by omega)
  refine X3 hG hl hm.base mi _ _ hc ?_ h1 fun h=>?_
  ·rcases hm.ps with⟨h,_,g,_,_,h2⟩|⟨h,h3,h2⟩
   ·rw[if_pos (.inl h),h2];simp
   ·rw[h2];split<;>simp
  ·rcases hm.ps with⟨_,_,g,g0,_,h2⟩|⟨h5,_⟩
   ·exact⟨g,g0,by rw[if_pos (.inl h),h2]⟩
   ·exact absurd h h5
end
section
open Go.TM
def dj(x y:Lt):Prop:=∀f u,eG x f u->¬eG y f u
def Dj(l:List Lt):Prop:=l.Pairwise dj
theorem kf{l r:List Lt}:Dj (l++r)↔Dj l/\Dj r/\∀f u,has l f u->¬has r f u:=by
 unfold Dj
 rw[List.pairwise_append]
 refine⟨fun⟨h1,h2,h3⟩=>⟨h1,h2,fun f u ⟨x,hx,hu⟩ ⟨y,hy,hv⟩=>h3 x hx y hy f u hu hv⟩,fun⟨h1,h2,h3⟩=>⟨h1,h2,fun x hx y hy f u hu hv=>h3 f u ⟨x,hx,hu⟩ ⟨y,hy,hv⟩⟩⟩
theorem I7(x:Lt):Dj [x]:=aem _ _
theorem abk{l:List Lt}(h:NS l):Dj l:=h.pL.imp fun {x y} hg f u h1 h2=>by
 grind [Ax,eG]
theorem Qn{l:List Lt}{x:Lt}(h:Dj (l++[x]))(hl:∀y∈l,0<=y.n)(hx:0<=x.n):Dj (aN l x):=by
 obtain⟨h1,_,h3⟩:=kf.1 h
 unfold aN
 split
 ·grind
 split
 ·rename_i y hy
  split
  ·have e:=ic hy
   rw[e]at h1
   obtain⟨a1,_,a3⟩:=kf.1 h1
   refine kf.2 ⟨a1,I7 _,fun f u hu hv=>?_⟩
   have hv:=cM.1 hv
   by_cases c:eG y f u
   ·grind [cM]
   ·refine h3 f u (by grind [dT]) (cM.2 ?_)
    grind [eG]
  grind
 grind
theorem De{l:List Lt}{x:Lt}(hl:∀y∈l,0<=y.n)(hx:0<=x.n):∀y∈aN l x,0<=y.n:=by
 unfold aN
 split
 ·grind
 split
 ·rename_i y hy
  have TY:=hl y (List.mem_of_getLast? hy)
  split
  ·intro z hz
   rcases adX.1 hz with hz|hz
   ·exact hl z ((List.dropLast_sublist _).subset hz)
   ·rw[adU]at hz;subst hz;simp;omega
  ·intro z hz
   rcases adX.1 hz with hz|hz
   ·exact hl z hz
   ·rw[adU]at hz;subst hz;exact hx
 ·grind
theorem F9{f u:Int}:∀(r l:List Lt),(∀y∈l,0<=y.n)->(∀y∈r,0<=y.n)->has (r.foldl aN l) f u->has l f u\/has r f u
 |[],l,_,_,h=>.inl h
 |x::r,l,hl,hr,h=>by
  rcases F9 r _ (De hl (hr x ad0)) (fun y hy=>hr y (adW _ hy)) h with h|h
  ·grind [pM,bo]
  grind [bo]
theorem Df:∀(r l:List Lt),Dj (l++r)->(∀y∈l,0<=y.n)->(∀y∈r,0<=y.n)->Dj (r.foldl aN l)
 |[],l,h,_,_=>by grind
 |x::r,l,h,hl,hr=>by
  have hx:=hr x ad0
  rw[show l++x::r=(l++[x])++r by simp]at h
  obtain⟨h1,h2,h3⟩:=kf.1 h
  refine Df r _ (kf.2 ⟨Qn h1 hl hx,h2,fun f u hu=>h3 f u (dT.2 ?_)⟩) (De hl hx) fun y hy=>hr y (adW _ hy)
  grind [pM,cM]
theorem Lc{g:Lt->List Lt}:∀{s:List Lt},Dj s->(∀y∈s,Dj (g y)/\∀f u,has (g y) f u->eG y f u)->Dj (s.flatMap g)
 |[],_,_=>.nil
 |y::s,h,hg=>by
  rw[show y::s=[y]++s from rfl]at h
  obtain⟨_,h2,h3⟩:=kf.1 h
  rw[List.flatMap_cons]
  have hy:=hg y ad0
  refine kf.2 ⟨hy.1,Lc h2 fun z hz=>hg z (adW _ hz),fun f u hu hv=>?_⟩
  obtain⟨z,hz,hv⟩:=pP.1 hv
  exact h3 f u (cM.2 (hy.2 f u hu)) ⟨z,hz,(hg z (adW _ hz)).2 f u hv⟩
theorem abl{s P:List Lt}(h:Dj s)(hs:∀x∈s,1<=x.n)(hP:∀y∈P,1<=y.n):Dj (mD s P):=by
 have hr:=fun x hx=>tc (hs x hx) hP
 refine Df _ [] ?_ (nofun) fun y hy=>?_
 ·rw[List.nil_append]
  exact Lc h fun x hx=>⟨abk (hr x hx).1,fun f u hu=>((hr x hx).2 f u).1 hu |>.1⟩
 ·obtain⟨x,hx,hy⟩:=List.mem_flatMap.1 hy
  have:=(hr x hx).1.pos y hy;omega
theorem X4{x y:Lt}(h:dj y x)(hy:1<=y.n)(hx:1<=x.n):gP x y=[y]:=by
 unfold gP
 rw[if_pos]
 refine Decidable.byContradiction fun hc=>?_
 have h1:=h y.f (max y.a x.a)
 grind [eG]
theorem Ga:∀(r l:List Lt),aJ (r.foldl aN l)=aJ l+aJ r
 |[],l=>by simp[aJ]
 |x::r,l=>by rw[List.foldl_cons,Ga r,pN,show x::r=[x]++r from rfl,eH [x] r];grind [aJ]
theorem Gb:∀(r l:List Lt),(r.foldl aN l).length<=l.length+r.length
 |[],l=>aei _
 |x::r,l=>by
  have h1:=dR l x
  have h2:=Gb r (aN l x)
  grind
theorem y6{x:Lt}(hx:1<=x.n):∀{s:List Lt},(∀y∈s,1<=y.n)->(∀f u,has s f u->¬eG x f u)->(s.flatMap fun y=>mZ y [x])=s
 |[],_,_=>rfl
 |y::s,hs,h=>by
  have e:mZ y [x]=gP x y:=by simp[mZ,ji]
  rw[List.flatMap_cons,e,X4 (fun f u hu=>h f u (bo.2 (.inl hu))) (hs y ad0) hx,y6 hx (fun z hz=>hs z (adW _ hz)) fun f u hu=>h f u (bo.2 (.inr hu))]
  rfl
theorem abm{s:List Lt}{x y:Lt}(h:Dj s)(hs:∀z∈s,1<=z.n)(hy:y∈s)(hx:1<=x.n)(hi:y.f=x.f/\y.a<=x.a/\x.a+x.n<=y.a+y.n):aJ (mD s [x])=aJ s-x.n/\(mD s [x]).length<=s.length+1:=by
 obtain⟨s1,s2,rfl⟩:=List.append_of_mem hy
 obtain⟨_,h2,h3⟩:=kf.1 h
 rw[show y::s2=[y]++s2 from rfl]at h2
 obtain⟨_,_,h4⟩:=kf.1 h2
 have dr:∀f u,eG x f u->eG y f u:=fun f u hu=>by grind [eG]
 have e:mZ y [x]=gP x y:=by simp[mZ,ji]
 have ef:((s1++y::s2).flatMap fun z=>mZ z [x])=s1++gP x y++s2:=by
  rw[List.flatMap_append,List.flatMap_cons,(y6 hx (fun z hz=>hs z (adX.2 (.inl hz))) fun f u hu hv=>h3 f u hu (bo.2 (.inl (dr f u hv)))),(y6 hx (fun z hz=>hs z (adX.2 (.inr (adW _ hz)))) fun f u hu hv=>h4 f u (cM.2 (dr f u hv)) hu),e,aef]
 have c:aJ (gP x y)=y.n-x.n/\(gP x y).length<=2:=by
  unfold gP
  rw[if_neg (by omega)]
  grind [aJ]
 have a2:=Gb (s1++gP x y++s2) []
 unfold mD
 rw[ef]
 refine⟨?_,?_⟩
 ·rw[(Ga _ []),eH,eH,eH,show y::s2=[y]++s2 from rfl,eH [y] s2,c.1];grind [aJ]
 ·simp[ad1,List.length_cons,List.length_nil]at a2⊢;omega
def Uy(q:Lt×Int):Lt:=⟨q.1.f,q.1.a+q.2,q.1.n-q.2⟩
theorem Ld:∀(l:List (Lt×Int)) (p:List Lt×List Lt),(l.foldl ZH p).2=(l.map Uy).foldl aN p.2
 |[],p=>rfl
 |q::l,p=>by rw[List.foldl_cons,Ld l,List.map_cons,List.foldl_cons];rfl
theorem Uz{s:List Lt}{n:Int}(mx:Bool)(h:Dj s)(hn:0<=n)(hs:∀x∈s,aB x=true)(ht:n<=aJ s):Dj (eV s n mx).2/\∀f u,has (eV s n mx).2 f u->has s f u:=by
 obtain⟨c1,c2⟩:=tl mx hn hs ht
 unfold eV me
 generalize oT s n mx=ks at c1 c2
 rw[List.take_of_length_le (by grind),Ld]
 have hq:∀q∈s.zip ks,0<=q.2/\q.2<=q.1.n:=fun q hq=>by
  obtain⟨i,hi⟩:=aea hq
  rw[List.getElem?_zip_eq_some]at hi
  have:=c2 i q.1 hi.1
  rwa[adT,hi.2]at this
 have hnn:∀y∈(s.zip ks).map Uy,0<=y.n:=fun y hy=>by
  obtain⟨q,hm,rfl⟩:=aeg.1 hy
  grind [Uy]
 refine⟨Df _ [] ?_ (nofun) hnn,fun f u hu=>?_⟩
 ·rw[List.nil_append]
  refine List.pairwise_map.2 ?_
  have hz:((s.zip ks).map Prod.fst).Pairwise dj:=by rwa[List.map_fst_zip (by omega)]
  refine(List.pairwise_map.1 hz).imp_of_mem fun {a b} ha hb hab f u h1 h2=>hab f u ?_ ?_
  ·grind [eG,Uy]
  grind [eG,Uy]
 ·rcases F9 _ [] (nofun) hnn hu with h|⟨y,hy,h⟩
  ·exact absurd h bY
  ·obtain⟨q,hm,rfl⟩:=aeg.1 hy
   refine⟨q.1,(List.of_mem_zip hm).1,?_⟩
   grind [eG,Uy]
end
section
open Go.TM
structure Dx(R:RL):Prop where
 dj:∀p∈R.st,Dj p.2/\∀x∈p.2,x.f<R.sh*4294967296+R.fl.length
 ids:∀(i:Nat) (f:bp),R.fl[i]?=some f->f.id=R.sh*4294967296+i
 rv:∀f∈R.fl,f.kind=9->f.fr=0->∃x,aB x=true/\f.ps=[x]/\x.f<R.sh*4294967296+R.fl.length
 fn:∀f∈R.fl,(1<=f.n/\f.n<=1099511627776)/\0<=f.it/\f.it<5
 ky:∀p∈R.st,1<=p.1.1/\p.1.1<=1073741824/\0<=p.1.2/\p.1.2<5
theorem Dx.oK{R:RL}(h:Dx R)(k:Ky):Dj (bC R.st k)/\∀x∈bC R.st k,x.f<R.sh*4294967296+R.fl.length:=by
 by_cases hs:bC R.st k=[]
 ·rw[hs];exact⟨.nil,nofun⟩
 ·exact h.dj _ (C9 hs)
theorem Dx.put{R:RL}(h:Dx R)(hG:Good R)(k:Ky){n:Int}(hn:1<=n):Dj (aN (bC R.st k) ⟨R.sh*4294967296+R.fl.length,0,n⟩)/\∀x∈aN (bC R.st k) ⟨R.sh*4294967296+R.fl.length,0,n⟩,x.f<R.sh*4294967296+R.fl.length+1:=by
 obtain⟨h1,h2⟩:=h.oK k
 refine⟨Qn (kf.2 ⟨h1,I7 _,fun f u ⟨y,hy,hu⟩ hv=>?_⟩) (fun y hy=>(gQ (((hG.oK k).1) y hy)).1) (by grind),fun x hx=>?_⟩
 ·grind [cM,eG]
 ·have e:aN (bC R.st k) ⟨R.sh*4294967296+R.fl.length,0,n⟩=bC R.st k++[⟨R.sh*4294967296+R.fl.length,0,n⟩]:=by
   unfold aN
   rw[if_neg (by grind)]
   split
   ·grind
   simp_all
  grind
theorem Dx.F8{R:RL}(h:Dx R){f:bp}(hn:(1<=f.n/\f.n<=1099511627776)/\0<=f.it/\f.it<5)(kl:f.id=R.sh*4294967296+R.fl.length)(hr:f.kind=9->f.fr=0->∃x,aB x=true/\f.ps=[x]/\x.f<R.sh*4294967296+R.fl.length):
 (∀(i:Nat) (g:bp),(R.fl++[f])[i]?=some g->g.id=R.sh*4294967296+i)/\(∀g∈R.fl++[f],g.kind=9->g.fr=0->∃x,aB x=true/\g.ps=[x]/\x.f<R.sh*4294967296+(R.fl++[f]).length)/\∀g∈R.fl++[f],(1<=g.n/\g.n<=1099511627776)/\0<=g.it/\g.it<5:=by
 rw[ad1,List.length_singleton]
 refine⟨fun i g hg=>?_,fun g hg h9 h0=>?_,fun g hg=>?_⟩
 ·rw[List.getElem?_append]at hg
  split at hg
  ·exact h.ids i g hg
  grind
 ·rcases adX.1 hg with hg|hg
  ·obtain⟨x,h1,h2,h3⟩:=h.rv g hg h9 h0;grind
  grind
 ·rcases adX.1 hg with hg|hg
  ·exact h.fn g hg
  grind
theorem Qo{R:RL}{s:cG}{m:c5}(h:Dx R)(hG:Good R)(hb:di m=true)(eC:0<m.fr)(tk:List Lt×List Lt)(h1:Dj tk.2)(h2:∀x∈tk.2,x.f<R.sh*4294967296+R.fl.length):Dx (AG R s m tk):=by
 have hb:=ad5 hb
 obtain⟨f1,f2,f3⟩:=h.F8 (f:=dX R s m tk.1 []) ⟨⟨hb.2.2.1,hb.2.2.2.1⟩,hb.1,hb.2.1⟩ rfl fun _ h0=>absurd h0 (show¬m.fr=0 by omega)
 obtain⟨p1,p2⟩:=h.put hG (m.to,m.it) (n:=m.n) (by omega)
 have hk:∀p∈(AG R s m tk).st,1<=p.1.1/\p.1.1<=1073741824/\0<=p.1.2/\p.1.2<5:=fun p hp=>by
  have hp:p∈if 0<m.to then aH (aH R.st (m.fr,m.it) tk.2) (m.to,m.it) (aN (bC R.st (m.to,m.it)) ⟨R.sh*4294967296+R.fl.length,0,m.n⟩)else aH R.st (m.fr,m.it) tk.2:=hp
  have h4:p∈aH R.st (m.fr,m.it) tk.2->1<=p.1.1/\p.1.1<=1073741824/\0<=p.1.2/\p.1.2<5:=fun hp=>by
   rcases iZ hp with rfl|hp
   ·grind
   ·exact h.ky p hp
  split at hp
  ·rcases iZ hp with rfl|hp
   ·grind
   grind
  grind
 refine⟨fun p hp=>?_,f1,f2,f3,hk⟩
 show Dj p.2/\∀x∈p.2,x.f<R.sh*4294967296+(R.fl++[dX R s m tk.1 []]).length
 rw[ad1,List.length_singleton]
 have h3:p∈aH R.st (m.fr,m.it) tk.2->Dj p.2/\∀x∈p.2,x.f<R.sh*4294967296+((R.fl.length+1)):=fun hp=>by
  rcases iZ hp with rfl|hp
  ·grind
  ·exact⟨(h.dj p hp).1,fun x hx=>by have:=(h.dj p hp).2 x hx;omega⟩
 have hp:p∈if 0<m.to then aH (aH R.st (m.fr,m.it) tk.2) (m.to,m.it) (aN (bC R.st (m.to,m.it)) ⟨R.sh*4294967296+R.fl.length,0,m.n⟩)else aH R.st (m.fr,m.it) tk.2:=hp
 split at hp
 ·rcases iZ hp with rfl|hp
  ·grind
  ·exact h3 hp
 ·exact h3 hp
theorem Wl{R:RL}{s:cG}{m:c5}(h:Dx R)(hG:Good R)(hb:di m=true)(kn:0<m.to)(l:List Lt)(md:List Int)(hr:s.kind=9->m.fr=0->∃x,aB x=true/\l=[x]/\x.f<R.sh*4294967296+R.fl.length):Dx (wL R s m l md):=by
 have hb:=ad5 hb
 obtain⟨f1,f2,f3⟩:=h.F8 (f:=dX R s m l md) ⟨⟨hb.2.2.1,hb.2.2.2.1⟩,hb.1,hb.2.1⟩ rfl hr
 obtain⟨p1,p2⟩:=h.put hG (m.to,m.it) (n:=m.n) (by omega)
 refine⟨fun p hp=>?_,f1,f2,f3,fun p hp=>?_⟩
 rotate_left
 ·rcases iZ hp with rfl|hp
  ·grind
  ·exact h.ky p hp
 show Dj p.2/\∀x∈p.2,x.f<R.sh*4294967296+(R.fl++[dX R s m l md]).length
 rw[ad1,List.length_singleton]
 rcases iZ hp with rfl|hp
 ·grind
 ·exact⟨(h.dj p hp).1,fun x hx=>by have:=(h.dj p hp).2 x hx;omega⟩
end
section
open Go.TM
theorem val_one{x:Lt}(h:aB x=true):bz [x]=true:=fj (fun y hy=>by grind) (by simp)
theorem Dg{l:List Lt}(h:bz l=true):∀x∈l,1<=x.n:=fun x hx=>(ah.1 ((dE h).2 x hx)).2.2.1
theorem X5{l:List Lt}(h:bz l=true):kF l=cL l:=by grind [kF]
theorem UA{l:List Lt}(h:bz l=true):bz (cL l)=true:=by
 grind [qD,dE,fj]
theorem Qp{a b:List Lt}(ha:bz a=true)(hb:bz b=true):u5 a b=mD (cL a) b:=by
 grind [u5,IU,X5,UA]
theorem Lf{a b:List Lt}(ha:bz a=true)(hb:bz b=true):rY a b=true↔∀f u,has a f u->has b f u:=by
 unfold rY
 rw[ha,hb,Qp ha hb,Bool.true_and,Bool.true_and,aen]
 grind [T3,Dg]
theorem UB{a b:List Lt}(ha:bz a=true)(hb:bz b=true)(hm:bz (mD (cL a) b)=true):C2 a b=[]↔∀f u,has a f u->¬has b f u:=by
 unfold C2
 rw[hb,cond_true,Qp ha hb,Qp ha hm]
 grind [T5,Dg]
theorem Dh(s P:List Lt):FQ s P s.length=mD s P:=by unfold FQ mD;grind
theorem UC{x:Lt}(hx:aB x=true):cL [x]=[x]:=KY ⟨aem _ _,fun y hy=>by grind [List.mem_singleton,ah]⟩
theorem UD{x y:Lt}(hx:aB x=true)(hy:aB y=true):bz (mD (cL [x]) [y])=true:=by
 have h:=u4 (fun z hz=>by rw[adU]at hz;subst hz;exact hx) (fun z hz=>by rw[adU]at hz;subst hz;exact hy) 1
 grind [UC,FQ,mD,Dh,fj,Nat.le_trans]
theorem Lg{x y:Lt}(hx:aB x=true)(hy:aB y=true):C2 [x] [y]=[]↔∀f u,eG x f u->¬eG y f u:=by
 simp_all [UB,val_one,UD,cM]
theorem UE{R:RL}{s:cG}{m:c5}{x y:Lt}(hG:Good R)(hb:di m=true)(eC:0<m.fr)(hp:m.ps=[x])(hx:aB x=true)(hy:y∈bC R.st (m.fr,m.it))(hi:y.f=x.f/\y.a<=x.a/\x.a+x.n<=y.a+y.n):
 rY [x] (bC R.st (m.fr,m.it))=true/\aX R s m=(0,AG R s m ([x],mD (bC R.st (m.fr,m.it)) [x])):=by
 have hb:=ad5 hb
 have hS:=hG.oK (m.fr,m.it)
 have km:=hG.fl
 have hv:=fj hS.1 (by omega)
 have hw:=(Lf (val_one hx) hv).2 fun f u hu=>⟨y,hy,by grind [cM,eG]⟩
 have e:BK R s.kind m=(0,[x],aH R.st (m.fr,m.it) (mD (bC R.st (m.fr,m.it)) [x])):=by
  simp_all [BK,IU,val_one]
 have c6:bC (aH R.st (m.fr,m.it) (mD (bC R.st (m.fr,m.it)) [x])) (m.to,m.it)=bC R.st (m.to,m.it):=by
  simp_all [fB,if_neg]
 refine⟨hw,?_⟩
 unfold aX
 rw[e,if_neg (by simp),if_neg (by omega),if_neg (by omega:¬m.fr=0)]
 simp[c6]
 rfl
def Ey(fl:List bp)(g:Int):List Lt:=((fl.filter fun f=>f.kind==9&&f.fr==0).flatMap (·.ps)).filter fun x=>x.f==g
def kg(fl:List bp)(g:Int):Option (List Lt):=if Ey fl g=[]then none else some (cL (Ey fl g))
theorem I8{fl:List bp}{g:Int}{z:Lt}:z∈Ey fl g↔z.f=g/\∃f∈fl,f.kind=9/\f.fr=0/\z∈f.ps:=by
 unfold Ey
 grind
theorem Di{R:RL}(h:Dx R){g:Int}:∀z∈Ey R.fl g,aB z=true:=fun z hz=>by
 obtain⟨_,f,h1,h2,h3,h4⟩:=I8.1 hz
 obtain⟨x,q1,q2,_⟩:=h.rv f h1 h2 h3
 grind
theorem abn{fl:List bp}{f:bp}(h:¬(f.kind=9/\f.fr=0))(g:Int):Ey (fl++[f]) g=Ey fl g:=by
 simp_all [Ey,List.filter_cons]
theorem X6{fl:List bp}{f:bp}{x:Lt}(h9:f.kind=9)(h0:f.fr=0)(hp:f.ps=[x])(g:Int):Ey (fl++[f]) g=Ey fl g++if x.f=g then[x]else[]:=by
 simp_all [Ey,List.filter_cons,List.append_nil]
theorem Qq{R:RL}(h:Dx R){f:bp}{x:Lt}(h9:f.kind=9)(h0:f.fr=0)(hp:f.ps=[x])(hx:aB x=true)(g:Int):kg (R.fl++[f]) g=if x.f=g then some (cL ((kg R.fl x.f).getD []++[x]))else kg R.fl g:=by
 unfold kg
 rw[X6 h9 h0 hp]
 by_cases e:x.f=g
 ·subst e
  rw[if_pos rfl,if_pos rfl,if_neg (by simp)]
  have du:=fun z hz=>(ah.1 (Di h (g:=x.f) z hz)).2.2.1
  have Wm:=(ah.1 hx).2.2.1
  have a1:∀z∈Ey R.fl x.f++[x],1<=z.n:=fun z hz=>by
   grind
  have s1:=fQ du
  by_cases e2:Ey R.fl x.f=[]
  ·grind
  ·rw[if_neg e2,Option.getD_some]
   have a2:∀z∈cL _++[x],1<=z.n:=fun z hz=>by
    rcases adX.1 hz with hz|hz
    ·exact s1.1.pos z hz
    grind
   have s2:=fQ a1
   have s3:=fQ a2
   refine congrArg some (s2.1.uniq s3.1 fun f u=>?_)
   grind [dT]
 grind
theorem Lh{R:RL}(hD:Dx R){m:c5}{x:Lt}{f:bp}(hp:m.ps=[x])(hx:aB x=true)(oF:0<=R.sh)(hf:f∈R.fl)(kl:f.id=x.f)(h1:f.to=0/\f.kind≠6/\f.it=m.it/\x.a+x.n<=f.n):
 tx R.fl m.it m.ps=if(kD [x] ((kg R.fl x.f).getD [])).1=[]then 0 else 10:=by
 have Qr:=(hD.fn f hf).1
 have b8:R.fl.any (okF m.it x)=true:=by
  rw[List.any_eq_true]
  refine⟨f,hf,?_⟩
  unfold okF
  rw[aeb ⟨h1.2.1,h1.1,h1.2.2.1⟩,Bool.true_and]
  grind [Lf,val_one,ah,cM,eG]
 have hns:NS ((kg R.fl x.f).getD [])/\∀g u,has ((kg R.fl x.f).getD []) g u↔has (Ey R.fl x.f) g u:=by
  unfold kg
  split
  ·rename_i e;rw[e];exact⟨NS.nil,fun _ _=>Iff.rfl⟩
  ·exact fQ fun z hz=>(ah.1 (Di hD z hz)).2.2.1
 have hdiv:=CV (fun z hz=>by rw[adU]at hz;subst hz;exact(ah.1 hx).2.2.1) hns.1
 have V9:R.fl.any (F3 x)=false↔(kD [x] ((kg R.fl x.f).getD [])).1=[]:=by
  rw[hdiv,List.any_eq_false]
  constructor
  ·intro h g u hu hv
   obtain⟨z,hz,hv⟩:=(hns.2 g u).1 hv
   obtain⟨_,q,a1,a2,a3,a4⟩:=I8.1 hz
   obtain⟨z',b1,b2,_⟩:=hD.rv q a1 a2 a3
   grind [List.mem_singleton,F3,decide_eq_true,decide_eq_false,Lg,cM]
  ·intro h q hq hc
   unfold F3 at hc
   rw[aep,aep,aen,aen]at hc
   obtain⟨z,b1,b2,_⟩:=hD.rv q hq hc.1.1 hc.1.2
   have hm:=by have:=hc.2;simpa using this
   rw[b2]at hm
   refine hm ((Lg b1 hx).2 fun g u hu hv=>?_)
   refine h g u (cM.2 hv) ((hns.2 g u).2 ⟨z,I8.2 ⟨?_,q,hq,hc.1.1,hc.1.2,by grind⟩,hu⟩)
   rw[hu.1,hv.1]
 rw[hp]
 unfold tx
 rw[b8]
 by_cases e:(kD [x] ((kg R.fl x.f).getD [])).1=[]
 ·rw[if_pos e,V9.2 e];rfl
 grind
end
end Go.Proofs.YtfpebgpgabjieaaGreatDoor
