import Derived.Test.YtmojfblpbcficaaGreatDoorCM22
import Derived.Test.YtmojfblpbcficaaGreatDoorCM23
import Derived.Test.YtmojfblpbcficaaGreatDoorCM20
import Derived.Test.YtmojfblpbcficaaGreatDoorCM18
set_option linter.all false
open Go.TM.oA Go.TM.oB Go.TM.oC Go.TM.oD Go.TM.oE
namespace Go.Proofs.YtmojfblpbcficaaGreatDoor
set_option maxRecDepth 100000
set_option maxHeartbeats 4000000
section
open Go.TM
def eG(R:RL)(s:cM)(m:di)(tk:List Lt)(md:List Int):gC:=⟨R.sh*4294967296+R.fl.length,R.sh*4294967296+R.sp.length,s.kind,s.tick,s.je,m.fr,m.to,m.it,m.n,tk,md⟩
structure RB(R:RL):Prop where
 sh:0<=R.sh/\R.sh<=1000
 fl:R.fl.length<=900000
 sp:R.sp.length<=900000
variable [bp]
theorem Bt(R:RL)(s:cM)(m:di)(e:Int)(tk:List Lt)(he:e≠0)(hb:RB R)(ht:ao Tryz.prog 92 [.ptr 0 0,.dv (I s.kind),cF (aq m)] 4 (dr R) 0 [.dv (aS tk),.dv (I e)] (dr R)):ao Tryz.prog 51 [.ptr 0 0,cF (aO s),cF (aq m)] 4 (dr R) 0 [.dv (I e)] (dr R):=by
 obtain⟨oQ,hf,hn⟩:=hb
 refine cO Tryz.func51 rfl (by kernel_rfl) ?_
 have lf:(R.fl.map aM).length=R.fl.length:=ach ..
 have lp:(R.sp.map aO).length=R.sp.length:=ach ..
 have m1:-9223372036854775808<=R.sh*4294967296/\R.sh*4294967296<=9223372036854775807:=by omega
 have m2:-9223372036854775808<=R.sh*4294967296+((R.fl.map aM).length:Int)/\R.sh*4294967296+((R.fl.map aM).length:Int)<=9223372036854775807:=by omega
 have m3:-9223372036854775808<=R.sh*4294967296+((R.sp.map aO).length:Int)/\R.sh*4294967296+((R.sp.map aO).length:Int)<=9223372036854775807:=by omega
 refine⟨fun _=>m1,fun _=>m2,fun _=>m1,fun _=>m3,by kernel_rfl,?_⟩
 refine .inr (cl [0,1,2,3] ht (by kernel_rfl) rfl rfl ?_)
 refine acg (fun _=>?_) fun h=>by simp[he]at h
 exact ext (by kernel_rfl) rfl rfl
theorem Mf(R:RL)(st1:SM)(s:cM)(m:di)(tk:List Lt)(eZ:0<m.fr)(hb:RB R)(Yg:0<=m.n/\m.n<=1099511627776)(h1:st1.length<=100000)(hk:(bP st1 (m.to,m.it)).length<4096/\∀y∈bP st1 (m.to,m.it),0<=y.a/\y.a<=1099511627776/\0<=y.n/\y.n<=1099511627776)(ht:ao Tryz.prog 92 [.ptr 0 0,.dv (I s.kind),cF (aq m)] 4 (dr R) 0 [.dv (aS tk),.dv (I 0)] (ju 1 0 0 { R with st:=st1 })):ao Tryz.prog 51 [.ptr 0 0,cF (aO s),cF (aq m)] 4 (dr R) 0 [.dv (I 0)] (ju 1 1 0 { R with st:=if 0<m.to then aI st1 (m.to,m.it) (aR (bP st1 (m.to,m.it)) ⟨R.sh*4294967296+R.fl.length,0,m.n⟩)else st1,fl:=R.fl++[eG R s m tk []] }):=by
 obtain⟨oQ,hf,hn⟩:=hb
 refine cO Tryz.func51 rfl (by kernel_rfl) ?_
 have lf:(R.fl.map aM).length=R.fl.length:=ach ..
 have lp:(R.sp.map aO).length=R.sp.length:=ach ..
 have m1:-9223372036854775808<=R.sh*4294967296/\R.sh*4294967296<=9223372036854775807:=by omega
 have m2:-9223372036854775808<=R.sh*4294967296+((R.fl.map aM).length:Int)/\R.sh*4294967296+((R.fl.map aM).length:Int)<=9223372036854775807:=by omega
 have m3:-9223372036854775808<=R.sh*4294967296+((R.sp.map aO).length:Int)/\R.sh*4294967296+((R.sp.map aO).length:Int)<=9223372036854775807:=by omega
 refine⟨fun _=>m1,fun _=>m2,fun _=>m1,fun _=>m3,by kernel_rfl,?_⟩
 refine .inr (cl [0,1,2,3] ht (by kernel_rfl) rfl rfl ?_)
 refine acg (fun h=>by cases h) fun _=>?_
 refine⟨Unit,fun _=>⟨7,[(0,.ptr 0 0),(4,.ptr 4 0),(5,.ptr 5 0),(7,.ptr 6 0),(10,.dv (I 0))],ju 1 0 0 { R with st:=st1 }++[(4,.cells (eV (aO s).cells)),(5,.cells (eV (aq m).cells)),(6,.cells (eV [I (R.sh*4294967296+((R.fl.map aM).length:Int)),I (R.sh*4294967296+((R.sp.map aO).length:Int)),I s.kind,I s.tick,I s.je,I m.fr,I m.to,I m.it,I m.n,aS tk,.ay]))]⟩,fun _=>True,fun _=>0,(),fun _=>rfl,jn rfl rfl rfl rfl,tv,?_⟩
 rintro i-
 repeat refine gG ?_
 refine acg ?_ ?_
 ·intro h
  exact absurd h (by simp;omega)
 intro _
 have Te:(m.fr==0)=false:=by simp;omega
 repeat refine gG ?_
 refine .inl ⟨by rw[Te];rfl,[I 0],(fun h=>by rw[Te]at h;cases h),rfl,?_⟩
 repeat refine gG ?_
 refine⟨fun h=>(by rw[Te]at h;cases h),?_⟩
 repeat refine gG ?_
 refine⟨by kernel_rfl,acg (fun h=>(by rw[Te]at h;cases h)) fun _=>?_⟩
 refine acg (fun jS=>?_) (fun jS=>?_)
 ·have jS:0<m.to:=acA jS
  rw[if_pos jS]
  refine .inr (cl [0,1,2,3] (ij { R with st:=st1 } m.to m.it h1) (by kernel_rfl) rfl rfl ?_)
  have Lh:=eT (bP st1 (m.to,m.it)) ⟨R.sh*4294967296+R.fl.length,0,m.n⟩
  have ha:=pG (bP st1 (m.to,m.it)) ⟨R.sh*4294967296+R.fl.length,0,m.n⟩ (by omega) hk.2 Yg
  rw[<-lf]at ha Lh⊢
  refine .inl ⟨_,fun _=>ha.ok,?_⟩
  generalize aR (bP st1 (m.to,m.it)) ⟨R.sh*4294967296+((R.fl.map aM).length:Int),0,m.n⟩=nx at*
  refine⟨by kernel_rfl,acg (fun h=>?_) fun _=>?_⟩
  ·have:=acA h;rw[ach]at this;omega
  refine .inr (cl [0,1,2,3] (nY { R with st:=st1 } m.to m.it nx h1) (by kernel_rfl) rfl rfl ?_)
  refine .inl ⟨[aM (eG R s m tk [])],rfl,⟨aF (by rw[lf];rfl),aF (by rw[lp];rfl),rf,rf,rf,rf,rf,rf,rf,rf,DV.aK 1,tv⟩,(by simp;rfl),?_⟩
  refine .inr ⟨[aM (eG R s m tk [])],ca.refl _,bF (by simp[uM];omega),by simp[uM];omega,?_⟩
  refine⟨by kernel_rfl,ext (by kernel_rfl) rfl ?_⟩
  simp only[ju,acC]
  rfl
 ·have jS:¬0<m.to:=acB jS
  rw[if_neg jS]
  refine .inl ⟨[aM (eG R s m tk [])],rfl,⟨aF (by rw[lf];rfl),aF (by rw[lp];rfl),rf,rf,rf,rf,rf,rf,rf,rf,DV.aK 1,tv⟩,(by simp;rfl),?_⟩
  refine .inr ⟨[aM (eG R s m tk [])],ca.refl _,bF (by simp[uM];omega),by simp[uM];omega,?_⟩
  refine⟨by kernel_rfl,ext (by kernel_rfl) rfl ?_⟩
  simp only[ju,acC]
  rfl
end
section
open Go.TM
def qY(fl:List gC)(st:Int):List Int:=(fl.filter fun f=>f.step==st&&f.to==0).map (·.id)
def ta(k:Int):Bool:=k==4||k==10
theorem PJ{fl:List gC}{st:Int}{j:Nat}{f:gC}(h:fl[j]?=some f):qY (fl.take (j+1)) st=qY (fl.take j) st++bif f.step==st&&f.to==0 then[f.id]else[]:=by
 unfold qY
 rw[acs,h,List.filter_append,acC]
 congr 1
 cases hb:f.step==st&&f.to==0<;>simp[List.filter,hb]
theorem C4(fl:List gC)(st:Int):(qY fl st).length<=fl.length:=by
 unfold qY;rw[ach];exact List.length_filter_le _ _
variable [bp]
theorem Mg(R:RL)(s:cM)(to it n:Int)(ps tk:List Lt)(hb:RB R)(Yg:0<=n/\n<=1099511627776)(h1:R.st.length<=1000)(hl:∀p∈R.st,p.2.length<=1000000)(hk:(bP R.st (to,it)).length<4096/\∀y∈bP R.st (to,it),0<=y.a/\y.a<=1099511627776/\0<=y.n/\y.n<=1099511627776)(jS:0<to)(e:Int)(he:e=if 1099511627776<bG R.st it+n then 4 else 0)
 (ht:ao Tryz.prog 92 [.ptr 0 0,.dv (I s.kind),cF (aq ⟨0,to,it,n,ps⟩)] 4 (dr R) 0 [.dv (aS tk),.dv (I 0)] (dr R)):ao Tryz.prog 51 [.ptr 0 0,cF (aO s),cF (aq ⟨0,to,it,n,ps⟩)] 4 (dr R) 0 [.dv (I e)] (if e=0 then ju 1 1 0 { R with st:=aI R.st (to,it) (aR (bP R.st (to,it)) ⟨R.sh*4294967296+R.fl.length,0,n⟩),fl:=R.fl++[eG R s ⟨0,to,it,n,ps⟩ tk (bif ta s.kind then qY R.fl (R.sh*4294967296+R.sp.length)else[])] }else dr R):=by
 obtain⟨oQ,hf,hn⟩:=hb
 refine cO Tryz.func51 rfl (by kernel_rfl) ?_
 have lf:(R.fl.map aM).length=R.fl.length:=ach ..
 have lp:(R.sp.map aO).length=R.sp.length:=ach ..
 have m1:-9223372036854775808<=R.sh*4294967296/\R.sh*4294967296<=9223372036854775807:=by omega
 have m2:-9223372036854775808<=R.sh*4294967296+((R.fl.map aM).length:Int)/\R.sh*4294967296+((R.fl.map aM).length:Int)<=9223372036854775807:=by omega
 have m3:-9223372036854775808<=R.sh*4294967296+((R.sp.map aO).length:Int)/\R.sh*4294967296+((R.sp.map aO).length:Int)<=9223372036854775807:=by omega
 refine⟨fun _=>m1,fun _=>m2,fun _=>m1,fun _=>m3,by kernel_rfl,?_⟩
 refine .inr (cl [0,1,2,3] ht (by kernel_rfl) rfl rfl ?_)
 refine acg (fun h=>by cases h) fun _=>?_
 refine⟨Nat,fun i=>⟨8,[(0,.ptr 0 0),(4,.ptr 4 0),(5,.ptr 5 0),(7,.ptr 6 0),(10,.dv (I i))],[(0,.cells (rlC R)),(1,.tree 0 0 (.aC 3 (R.st.map iA))),(2,.tree 0 0 (.aC 11 (R.fl.map aM))),(3,.tree 0 0 (.aC 7 (R.sp.map aO))),(4,.cells (eV (aO s).cells)),(5,.cells (eV (aq ⟨0,to,it,n,ps⟩).cells)),(6,.cells ([.dv (I (R.sh*4294967296+((R.fl.map aM).length:Int))),.dv (I (R.sh*4294967296+((R.sp.map aO).length:Int))),.dv (I s.kind),.dv (I s.tick),.dv (I s.je),.dv (I 0),.dv (I to),.dv (I it),.dv (I n),.dv (aS tk),.own 7 0 0 []])),(7,.tree 0 0 (.aC 1 ((qY (R.fl.take i) (R.sh*4294967296+((R.sp.map aO).length:Int))).map I)))]⟩,fun i=>i<=R.fl.length/\(ta s.kind=false->i=0),fun i=>R.fl.length-i,0,fun _=>rfl,⟨⟨rfl,rfl,rfl,rfl,rf,tv⟩,⟨nX rfl,nX rfl,nX rfl,nX rfl,nX rfl,nX rfl,⟨rf,rf,rf,rf,rf,rf,rf,rf,rf,rf,⟨rfl,rfl,rfl,rfl,1,rfl⟩,tv⟩,⟨rfl,rfl,1,rfl⟩,tv⟩,rfl,rfl⟩,⟨acy _,fun _=>rfl⟩,?_⟩
 rintro i ⟨hi,FF⟩
 repeat refine gG ?_
 refine acg ?_ ?_
 ·intro h
  have h:=c6 h
  have aw:i<R.fl.length:=by have:=acA (c6 h.1).1;omega
  have hm:ta s.kind=true:=by
   have h2:=h.2
   unfold ta
   revert h2
   cases(s.kind==4)<;>simp
  obtain⟨x,hx⟩:∃x,R.fl[i]?=some x:=⟨_,aaS aw⟩
  have ix:(R.fl.map aM)[(i:Int).toNat]?=some (aM x):=by rw[acj];simp[hx]
  have ib:(0:Int)<=i/\(i:Int)<(R.fl.map aM).length:=(by omega)
  have eE:=PJ (st:=R.sh*4294967296+((R.sp.map aO).length:Int)) hx
  have hml:=C4 (R.fl.take i) (R.sh*4294967296+((R.sp.map aO).length:Int))
  rw[acE]at hml
  refine⟨fun _=>ib,aM x,fun _=>ix,?_⟩
  repeat refine gG ?_
  refine⟨fun _=>ib,?_⟩
  repeat refine gG ?_
  refine⟨aM x,fun _=>ix,?_⟩
  repeat refine gG ?_
  refine⟨by kernel_rfl,acg (fun h=>?_) fun h=>?_⟩
  ·have e:(x.step==R.sh*4294967296+((R.sp.map aO).length:Int)&&x.to==0)=true:=by
    have h:=c6 h
    rw[h.1,h.2];rfl
   rw[e]at eE
   refine⟨fun _=>ib,aM x,fun _=>ix,?_⟩
   refine .inl ⟨[I x.id],rfl,⟨rf,tv⟩,(by simp;rfl),?_⟩
   refine .inr ⟨[I x.id],ca.refl _,bI (by simp only[ach,acw,List.length_cons,List.length_nil,acE]at *; omega),by simp only[ach,acw,List.length_cons,List.length_nil,acE]at *; omega,?_⟩
   refine⟨by kernel_rfl,?_⟩
   exact⟨fun _=>by omega,i+1,jn rfl (by simp only[eE,acC];rfl) rfl rfl,⟨by omega,fun hc=>(by rw[hm]at hc;cases hc)⟩,mlt aw⟩
  ·have e:(x.step==R.sh*4294967296+((R.sp.map aO).length:Int)&&x.to==0)=false:=by
    have h:=lZ h
    rw[Bool.eq_false_iff];intro h2;exact h (by simpa using h2)
   rw[e]at eE
   have eE:qY (R.fl.take (i+1)) (R.sh*4294967296+((R.sp.map aO).length:Int))=qY (R.fl.take i) (R.sh*4294967296+((R.sp.map aO).length:Int)):=eE.trans (List.append_nil _)
   exact⟨fun _=>by omega,i+1,jn rfl (by simp only[eE];rfl) rfl rfl,⟨by omega,fun hc=>(by rw[hm]at hc;cases hc)⟩,mlt aw⟩
 intro h
 have hd:qY (R.fl.take i) (R.sh*4294967296+((R.sp.map aO).length:Int))=bif ta s.kind then qY R.fl (R.sh*4294967296+((R.sp.map aO).length:Int))else[]:=by
  cases hm:ta s.kind with
  |false=>rw[FF hm];rfl
  |true=>
   have h:=lZ h
   have:¬i<R.fl.length:=fun aw=>h ⟨by
    show(bif decide ((i:Int)<((R.fl.map aM).length:Nat))then true else false)=true
    rw[acG (by omega)];rfl,by
    show(bif s.kind==4 then true else s.kind==10)=true
    revert hm
    unfold ta
    cases(s.kind==4)<;>simp⟩
   rw[show i=R.fl.length by omega,acz];rfl
 have b1:=C0 it R.st
 have b2:-9223372036854775808<=bG R.st it+n/\bG R.st it+n<=9223372036854775807:=by omega
 repeat refine gG ?_
 refine .inr (cl [0,1,2,3] (FC R it h1 hl) (by kernel_rfl) rfl rfl ?_)
 refine⟨rfl,?_⟩
 repeat refine gG ?_
 refine⟨fun _=>b2,?_⟩
 repeat refine gG ?_
 refine⟨by kernel_rfl,acg (fun hc=>?_) fun hc=>?_⟩
 ·have hc:1099511627776<bG R.st it+n:=by simpa using hc
  rw[if_pos hc]at he
  subst he
  exact ext (by kernel_rfl) rfl rfl
 have hc:¬1099511627776<bG R.st it+n:=by simpa using hc
 rw[if_neg hc]at he
 subst he
 rw[if_pos rfl]
 refine acg (fun _=>?_) fun h=>absurd jS (acB h)
 refine .inr (cl [0,1,2,3] (ij R to it (by omega)) (by kernel_rfl) rfl rfl ?_)
 have Lh:=eT (bP R.st (to,it)) ⟨R.sh*4294967296+R.fl.length,0,n⟩
 have ha:=pG (bP R.st (to,it)) ⟨R.sh*4294967296+R.fl.length,0,n⟩ (by omega) hk.2 Yg
 rw[<-lf]at ha Lh⊢
 refine .inl ⟨_,fun _=>ha.ok,?_⟩
 generalize aR (bP R.st (to,it)) ⟨R.sh*4294967296+((R.fl.map aM).length:Int),0,n⟩=nx at*
 refine⟨by kernel_rfl,acg (fun h=>?_) fun _=>?_⟩
 ·have:=acA h;rw[ach]at this;omega
 refine .inr (cl [0,1,2,3] (nY R to it nx (by omega)) (by kernel_rfl) rfl rfl ?_)
 rw[hd]
 refine .inl ⟨[aM (eG R s ⟨0,to,it,n,ps⟩ tk (bif ta s.kind then qY R.fl (R.sh*4294967296+((R.sp.map aO).length:Int))else[]))],rfl,⟨aF (by rw[lf];rfl),aF (by rw[lp];rfl),rf,rf,rf,rf,rf,rf,rf,rf,DV.Le.of_eq (by
  show DV.sl 1 (yF ((bif ta s.kind then qY R.fl (R.sh*4294967296+((R.sp.map aO).length:Int))else[]).map I))=_
  rw[gm fun _=>rfl];rfl),tv⟩,(by simp;rfl),?_⟩
 refine .inr ⟨[aM (eG R s ⟨0,to,it,n,ps⟩ tk (bif ta s.kind then qY R.fl (R.sh*4294967296+((R.sp.map aO).length:Int))else[]))],ca.refl _,bF (by simp[uM];omega),by simp[uM];omega,?_⟩
 refine⟨by kernel_rfl,ext (by kernel_rfl) rfl ?_⟩
 rw[<-lp]
 simp only[ju,acC]
 rfl
end
section
open Go.TM
def Bu(R:RL)(k:Int)(m:di):Int×List Lt×SM:=
 if 0<m.fr then
  if m.ps=[]then bif decide (bZ (bP R.st (m.fr,m.it))<m.n)then(10,[],R.st)else(0,(fp (bP R.st (m.fr,m.it)) m.n (wz m.it)).1,aI R.st (m.fr,m.it) (fp (bP R.st (m.fr,m.it)) m.n (wz m.it)).2)
  else bif qK m.ps (bP R.st (m.fr,m.it))then(0,m.ps,aI R.st (m.fr,m.it) (Im (bP R.st (m.fr,m.it)) m.ps))else(10,[],R.st)
 else(if k=5 then uO R.sh R.fl m.ps else if k=9 then s9 R.fl m.it m.ps else 0,if k=5\/k=9 then m.ps else[],R.st)
def bl(R:RL)(s:cM)(m:di):Int×RL:=
 if(Bu R s.kind m).1≠0 then((Bu R s.kind m).1,R)
 else if m.fr=0/\1099511627776<bG R.st m.it+m.n then(4,R)
 else(0,{ R with
  st:=if 0<m.to then aI (Bu R s.kind m).2.2 (m.to,m.it) (aR (bP (Bu R s.kind m).2.2 (m.to,m.it)) ⟨R.sh*4294967296+R.fl.length,0,m.n⟩)else(Bu R s.kind m).2.2
  fl:=R.fl++[eG R s m (Bu R s.kind m).2.1 (if m.fr=0 then bif ta s.kind then qY R.fl (R.sh*4294967296+R.sp.length)else[]else[])] })
structure RG(R:RL):Prop where
 sh:0<=R.sh/\R.sh<=1000
 fl:R.fl.length<=900000
 sp:R.sp.length<=900000
 st:R.st.length<=900
 pL:∀p∈R.st,(∀x∈p.2,aD x=true)/\p.2.length<=4000
 ps:∀f∈R.fl,f.ps.length<=200
theorem w7{m:SM}{k:Ky}(h:bP m k≠[]):(k,bP m k)∈m:=by
 unfold bP at h⊢
 cases hg:aW m k with
 |none=>rw[hg]at h;exact absurd rfl h
 |some x=>exact lx hg
theorem RG.sj{R:RL}(h:RG R)(k:Ky):(∀x∈bP R.st k,aD x=true)/\(bP R.st k).length<=4000:=by
 by_cases hs:bP R.st k=[]
 ·rw[hs];exact⟨fun x hx=>(by cases hx),acy _⟩
 ·exact h.pL _ (w7 hs)
theorem RG.val{R:RL}(h:RG R)(k:Ky):bH (bP R.st k)=true:=by
 have:=h.sj k
 simp only[bH,acU,acI,decide_eq_true_eq]
 exact⟨this.1,by omega⟩
theorem iQ(m:SM)(k k':Ky)(l:List Lt):bP (aI m k l) k'=if k=k' then l else bP m k':=by
 unfold bP;rw[jQ];split<;>rfl
theorem yX{κ β:Type}[DecidableEq κ](m:List (κ×β))(k:κ)(x:β):(aI m k x).length<=m.length+1:=by
 have:=congrArg List.length (uG m k x)
 rw[ach]at this
 split at this<;>simp at this<;>omega
variable [bp]
theorem Iv{f:Nat}{args rs:List AV}{K:ae}(R:RL)(h:ao Tryz.prog f args 4 K 0 rs (dr R)):ao Tryz.prog f args 4 K 0 rs (ju 1 1 0 R):=by
 refine rT (i:=2) (e0:=0) (K1:=ju 1 0 0 R) (rT (i:=1) (e0:=0) (K1:=dr R) h (by omega) ⟨_,rfl,rfl,fun j hj=>?_⟩) (by omega) ⟨_,rfl,rfl,fun j hj=>?_⟩
 ·match j,hj with
  |0,_=>exact .cells (.same _ (.same _ (.same _ (.same _ (.same _ (.si (.same _ (.same _ .nil))))))))
  |2,_=>exact .refl _
  |3,_=>exact .refl _
  |j+4,_=>exact .refl _
 ·match j,hj with
  |0,_=>exact .cells (.same _ (.same _ (.same _ (.same _ (.same _ (.same _ (.si (.same _ .nil))))))))
  |1,_=>exact .refl _
  |3,_=>exact .refl _
  |j+4,_=>exact .refl _
theorem yY(R:RL)(s:cM)(m:di)(hR:RG R)(hm:dA m=true)(hp:m.ps.length<=20)(hb:s.kind=5->∀x∈m.ps,0<=x.f/\x.f<=9223372036854775807):ao Tryz.prog 51 [.ptr 0 0,cF (aO s),cF (aq m)] 4 (dr R) 0 [.dv (I (bl R s m).1)] (ju 1 1 0 (bl R s m).2):=by
 have hB:RB R:=⟨hR.sh,hR.fl,hR.sp⟩
 have hbm:=acA hm
 have hs:=hR.sj (m.fr,m.it)
 have ak:=hR.sj (m.to,m.it)
 have Ya:∀y∈bP R.st (m.to,m.it),0<=y.a/\y.a<=1099511627776/\0<=y.n/\y.n<=1099511627776:=fun y hy=>by
  have:=ai.1 (ak.1 y hy);omega
 have hle:=hR.st
 by_cases eZ:0<m.fr
 ·have cC:∀l,bP (aI R.st (m.fr,m.it) l) (m.to,m.it)=bP R.st (m.to,m.it):=fun l=>by
   rw[iQ,if_neg];intro h;injection h with h1;omega
  have Tc:∀l,(aI R.st (m.fr,m.it) l).length<=100000:=fun l=>by have:=yX R.st (m.fr,m.it) l;omega
  have fin:∀(tk l:List Lt),Bu R s.kind m=(0,tk,aI R.st (m.fr,m.it) l)->ao Tryz.prog 92 [.ptr 0 0,.dv (I s.kind),cF (aq m)] 4 (dr R) 0 [.dv (aS tk),.dv (I 0)] (ju 1 0 0 (uM R (m.fr,m.it) l))->ao Tryz.prog 51 [.ptr 0 0,cF (aO s),cF (aq m)] 4 (dr R) 0 [.dv (I (bl R s m).1)] (ju 1 1 0 (bl R s m).2):=fun tk l e ht=>by
   have:=Mf R (aI R.st (m.fr,m.it) l) s m tk eZ hB (by omega) (Tc l) (by rw[cC];exact⟨by omega,Ya⟩) ht
   unfold bl
   rw[e,if_neg (by simp),if_neg (by omega),if_neg (by omega:¬m.fr=0)]
   exact this
  have err:Bu R s.kind m=(10,[],R.st)->ao Tryz.prog 92 [.ptr 0 0,.dv (I s.kind),cF (aq m)] 4 (dr R) 0 [.dv (aS []),.dv (I 10)] (dr R)->ao Tryz.prog 51 [.ptr 0 0,cF (aO s),cF (aq m)] 4 (dr R) 0 [.dv (I (bl R s m).1)] (ju 1 1 0 (bl R s m).2):=fun e ht=>by
   unfold bl
   rw[e,if_pos (by simp)]
   exact Iv R (Bt R s m 10 [] (by omega) hB ht)
  by_cases ko:m.ps=[]
  ·have ht:=Mc R s.kind m eZ ko (by omega) (by omega) (by omega) (hR.val _)
   have e:Bu R s.kind m=bif decide (bZ (bP R.st (m.fr,m.it))<m.n)then(10,[],R.st)else(0,(fp (bP R.st (m.fr,m.it)) m.n (wz m.it)).1,aI R.st (m.fr,m.it) (fp (bP R.st (m.fr,m.it)) m.n (wz m.it)).2):=by
    unfold Bu;rw[if_pos eZ,if_pos ko]
   cases hc:decide (bZ (bP R.st (m.fr,m.it))<m.n)<;>rw[hc]at ht e
   ·exact fin _ _ e ht
   ·exact err e ht
  ·have hz:m.ps.length*((bP R.st (m.fr,m.it)).length+1)<=20*4001:=Nat.mul_le_mul hp (by omega)
   have hz2:(bP R.st (m.fr,m.it)).length*(m.ps.length+1)<=4000*21:=Nat.mul_le_mul (by omega) (by omega)
   have ht:=Mb R s.kind m eZ ko (by omega) (by omega) (by omega) (by omega) (by omega)
   have e:Bu R s.kind m=bif qK m.ps (bP R.st (m.fr,m.it))then(0,m.ps,aI R.st (m.fr,m.it) (Im (bP R.st (m.fr,m.it)) m.ps))else(10,[],R.st):=by
    unfold Bu;rw[if_pos eZ,if_neg ko]
   cases hc:qK m.ps (bP R.st (m.fr,m.it))<;>rw[hc]at ht e
   ·exact err e ht
   ·exact fin _ _ e ht
 ·have oF:m.fr=0:=by omega
  have ht:=Md R s.kind m eZ (by omega) (by have:=hR.fl;omega) hR.ps hb
  have e:Bu R s.kind m=(if s.kind=5 then uO R.sh R.fl m.ps else if s.kind=9 then s9 R.fl m.it m.ps else 0,if s.kind=5\/s.kind=9 then m.ps else[],R.st):=by
   unfold Bu;rw[if_neg eZ]
  generalize (if s.kind=5 then uO R.sh R.fl m.ps else if s.kind=9 then s9 R.fl m.it m.ps else 0)=er at*
  generalize (if s.kind=5\/s.kind=9 then m.ps else[])=tk at*
  unfold bl
  rw[e]
  by_cases he:er=0
  ·subst he
   rcases m with⟨fr,to,it,n,ps⟩
   dsimp only at*
   subst oF
   have h0:=Mg R s to it n ps tk hB (by omega) (by omega) (fun p hp=>by have:=(hR.pL p hp).2;omega) ⟨by omega,Ya⟩ (by omega) _ rfl ht
   rw[if_neg (by simp)]
   by_cases hc:1099511627776<bG R.st it+n
   ·rw[if_pos ⟨rfl,hc⟩]
    rw[if_pos hc,if_neg (by omega)]at h0
    exact Iv R h0
   ·rw[if_neg (fun h=>hc h.2),if_pos (by omega),if_pos rfl]
    rw[if_neg hc,if_pos rfl]at h0
    exact h0
  ·rw[if_pos he]
   exact Iv R (Bt R s m er tk he hB ht)
end
section
open Go.TM
theorem Kp:∀(l:List Int) (i:Nat),i<l.length->(kq l i).sum=l.sum+1
 |a::l,0,_=>by simp[kq];omega
 |a::l,i+1,h=>by
  have:=Kp l i (by simpa using h)
  unfold kq at*
  simp only[List.set_cons_succ,List.sum_cons,List.getD_cons_succ]
  omega
theorem FG:∀(o:List Nat) (l:List Int),(∀i∈o,i<l.length)->(o.foldl kq l).sum=l.sum+o.length
 |[],l,_=>by simp
 |i::o,l,h=>by
  rw[List.foldl_cons,FG o _ fun k hk=>by rw[wW];exact h k (acq _ hk),Kp l i (h i acv),List.length_cons]
  omega
theorem PK{rs qs:List Int}(hl:qs.length=rs.length){m:Nat}(hm:m<=rs.length):(plus rs qs m).sum=qs.sum+m:=by
 obtain⟨o,ho⟩:=H7 rs
 rw[<-yA ho hl m,FG _ _ fun i hi=>?_,acE,ho.len]
 ·congr 2;omega
 ·have:=ho.perm.mem_iff.1 (List.mem_of_mem_take hi)
  rw[acM]at this;omega
theorem Tf{t:Int}{ws:List Int}(hs:0<ws.sum):(zQ t ws).sum=t:=by
 have h:=wX (t:=t) hs
 have hc:(rL t ws.sum ws).countP (fun x=>decide (0<x))<=(rL t ws.sum ws).length:=List.countP_le_length
 unfold zQ
 rw[PK (by simp[qL,rL]) (by omega)]
 have:(((fS t ws.sum ws).toNat:Nat):Int)=fS t ws.sum ws:=by omega
 rw[this]
 unfold fS;omega
theorem PM{s:List Lt}{n:Int}(mx:Bool)(hn:0<=n)(hs:∀x∈s,0<=x.n)(ht:n<=cz s):(pI s n mx).sum=n:=by
 unfold pI
 by_cases h:0<n
 ·cases mx with
  |true=>
   rw[acG h]
   exact Tf (show 0<(s.map (·.n)).sum by rw[pJ];omega)
  |false=>exact(yR hn hs).2.2 ht
 ·rw[acH h,Bool.and_false]
  exact(yR hn hs).2.2 ht
theorem Kq{s:List Lt}{ks:List Int}(hk:ks.length=s.length):∀i,i<=s.length->cz (mw s ks i).1=(ks.take i).sum/\cz (mw s ks i).2=cz (s.take i)-(ks.take i).sum
 |0,_=>by simp[mw,cz]
 |i+1,h=>by
  obtain⟨h1,h2⟩:=Kq hk i (by omega)
  obtain⟨x,hx⟩:∃x,s[i]?=some x:=⟨_,aaS (show i<s.length by omega)⟩
  obtain⟨k,D1⟩:∃k,ks[i]?=some k:=⟨_,aaS (show i<ks.length by omega)⟩
  rw[yS hx D1,uH hx,acs,D1,List.sum_append]
  unfold tkF
  simp only[yt,Option.toList_some,List.sum_cons,List.sum_nil]
  omega
theorem PN{s:List Lt}{n:Int}(mx:Bool)(hn:0<=n)(hs:∀x∈s,aD x=true)(ht:n<=cz s):cz (fp s n mx).1=n/\cz (fp s n mx).2=cz s-n:=by
 have hc:=(w6 mx hn hs ht).1
 have h:=Kq hc s.length (acN _)
 rw[acz,<-hc,acz,PM mx hn (fun x hx=>(l7 (hs x hx)).1) ht,hc]at h
 exact h
theorem Kr{s:List Lt}{n:Int}(mx:Bool)(hn:0<=n)(hs:∀x∈s,aD x=true)(ht:n<=cz s):(∀y∈(fp s n mx).1,aD y=true)/\(∀y∈(fp s n mx).2,aD y=true)/\(fp s n mx).1.length<=s.length/\(fp s n mx).2.length<=s.length:=
 Ij hs (w6 mx hn hs ht) s.length (acN _)
end
section
open Go.TM
theorem iR{κ β:Type}[DecidableEq κ]{m:List (κ×β)}{k:κ}{x:β}{p:κ×β}(h:p∈aI m k x):p=(k,x)\/p∈m:=by
 induction m with
 |nil=>exact .inl (aco.1 h)
 |cons q r ih=>
  obtain⟨a,v⟩:=q
  simp only[aI]at h
  split at h
  ·rcases acp.1 h with h|h
   ·exact .inl h
   ·exact .inr (acq _ h)
  ·rcases acp.1 h with h|h
   ·exact .inr (by rw[h];exact acv)
   ·exact(ih h).imp id (acq _)
theorem Mh{κ β:Type}[DecidableEq κ]{m:List (κ×β)}{k:κ}{x y:β}(h:aW m k=some y):(aI m k x).length=m.length:=by
 have:=congrArg List.length (uG m k x)
 rw[if_pos (acL.2 ⟨_,lx h,rfl⟩),ach,ach]at this
 exact this
theorem ZY:bZ []=0:=rfl
theorem tc(it:Int)(l:List Lt)(k:Ky):∀m:SM,bG (aI m k l) it=bG m it+if k.2=it then bZ l-bZ (bP m k)else 0
 |[]=>by
  simp only[aI,bG,Al,bP,aW,List.map_cons,List.map_nil,List.sum_cons,List.sum_nil,Option.getD_none,ZY]
  split<;>omega
 |(q,v)::r=>by
  have ih:=tc it l k r
  unfold aI
  by_cases e:q=k
  ·subst e
   rw[if_pos rfl]
   simp only[bG,Al,bP,aW,List.map_cons,List.sum_cons,if_pos,Option.getD_some]
   split<;>omega
  ·rw[if_neg e]
   have:bP ((q,v)::r) k=bP r k:=by unfold bP;simp only[aW];rw[if_neg e]
   rw[this]
   simp only[bG,List.map_cons,List.sum_cons]at*
   rw[ih];omega
theorem pM{s:List Lt}(h:bH s=true):bZ s=cz s:=by unfold bZ;rw[h];rfl
theorem eD{l:List Lt}(h:∀x∈l,aD x=true)(h2:l.length<=4096):bH l=true:=by
 simp only[bH,acU,acI,decide_eq_true_eq];exact⟨h,h2⟩
structure Good(R:RL):Prop where
 sh:0<=R.sh/\R.sh<=11
 sp:R.sp.length<=40
 fl:R.fl.length<=160
 nk:Nk R.st
 st:R.st.length<=R.fl.length
 pL:∀p∈R.st,(∀x∈p.2,aD x=true)/\p.2.length<=R.fl.length
 tb:∀it,bG R.st it<=1099511627776
 D5:∀f∈R.fl,f.ps.length<=160/\f.md.length<=160/\R.sh*4294967296<=f.id/\f.id<R.sh*4294967296+R.fl.length/\f.step<=R.sh*4294967296+R.sp.length/\(f.kind=5->∃g,0<=g/\f.ps=[⟨g,0,3⟩])
theorem Good.rg{R:RL}(h:Good R):RG R where
 sh:=by have:=h.sh;omega
 fl:=by have:=h.fl;omega
 sp:=by have:=h.sp;omega
 st:=by have:=h.fl;have:=h.st;omega
 pL p hp:=⟨(h.pL p hp).1,by have:=h.fl;have:=(h.pL p hp).2;omega⟩
 ps f hf:=by have:=(h.D5 f hf).1;omega
theorem Good.sj{R:RL}(h:Good R)(k:Ky):(∀x∈bP R.st k,aD x=true)/\(bP R.st k).length<=R.fl.length:=by
 by_cases hs:bP R.st k=[]
 ·rw[hs];exact⟨fun x hx=>(by cases hx),acy _⟩
 ·exact h.pL _ (w7 hs)
structure FH(sh:Int)(s:cM)(m:di):Prop where
 base:dA m=true
 ps:(s.kind=5/\m.fr=0/\∃g,0<=g/\g<=9223372036854775807/\m.ps=[⟨g,0,3⟩])\/(s.kind≠5/\s.kind≠9/\m.ps=[])
theorem C5(R:RL)(s:cM)(m:di)(hf:0<m.fr)(hp:m.ps=[]):bl R s m=if bZ (bP R.st (m.fr,m.it))<m.n then(10,R)else(0,{ R with
 st:=if 0<m.to then aI (aI R.st (m.fr,m.it) (fp (bP R.st (m.fr,m.it)) m.n (wz m.it)).2) (m.to,m.it) (aR (bP (aI R.st (m.fr,m.it) (fp (bP R.st (m.fr,m.it)) m.n (wz m.it)).2) (m.to,m.it)) ⟨R.sh*4294967296+R.fl.length,0,m.n⟩)else aI R.st (m.fr,m.it) (fp (bP R.st (m.fr,m.it)) m.n (wz m.it)).2
 fl:=R.fl++[eG R s m (fp (bP R.st (m.fr,m.it)) m.n (wz m.it)).1 []] }):=by
 have e:Bu R s.kind m=bif decide (bZ (bP R.st (m.fr,m.it))<m.n)then(10,[],R.st)else(0,(fp (bP R.st (m.fr,m.it)) m.n (wz m.it)).1,aI R.st (m.fr,m.it) (fp (bP R.st (m.fr,m.it)) m.n (wz m.it)).2):=by
  unfold Bu;rw[if_pos hf,if_pos hp]
 unfold bl
 rw[e]
 by_cases hc:bZ (bP R.st (m.fr,m.it))<m.n
 ·rw[acG hc,if_pos hc];exact if_pos (by simp)
 ·rw[acH hc,if_neg hc]
  simp only[cond_false]
  rw[if_neg (by simp),if_neg (by omega),if_neg (by omega:¬m.fr=0)]
def FI(R:RL)(k:Int)(m:di):Int:=if k=5 then uO R.sh R.fl m.ps else if k=9 then s9 R.fl m.it m.ps else 0
theorem PO(R:RL)(s:cM)(m:di)(hf:m.fr=0)(ht:0<m.to):bl R s m=if FI R s.kind m≠0 then(FI R s.kind m,R)else if 1099511627776<bG R.st m.it+m.n then(4,R)else(0,{ R with
 st:=aI R.st (m.to,m.it) (aR (bP R.st (m.to,m.it)) ⟨R.sh*4294967296+R.fl.length,0,m.n⟩)
 fl:=R.fl++[eG R s m (if s.kind=5\/s.kind=9 then m.ps else[]) (bif ta s.kind then qY R.fl (R.sh*4294967296+R.sp.length)else[])] }):=by
 have e:Bu R s.kind m=(FI R s.kind m,if s.kind=5\/s.kind=9 then m.ps else[],R.st):=by
  unfold Bu FI;rw[if_neg (by omega)]
 unfold bl
 rw[e]
 simp only[hf,true_and,if_true,if_pos ht]
theorem C6{l:List Lt}{x:Lt}{n:Nat}(hl:(∀y∈l,aD y=true)/\l.length<=n)(hx:0<=x.f/\0<=x.a/\1<=x.n/\x.a+x.n<=1099511627776)(hn:n<=4000):((∀y∈aR l x,aD y=true)/\(aR l x).length<=n+1)/\bZ (aR l x)=bZ l+x.n:=by
 have h1:=ic hl.1 (x:=x) ⟨hx.1,hx.2.1,by omega,hx.2.2.2⟩
 have h2:=eT l x
 refine⟨⟨h1,by omega⟩,?_⟩
 rw[pM (eD h1 (by omega)),pM (eD hl.1 (by omega)),yt]
theorem Iw{R:RL}(hG:Good R):∀f:gC,(f.ps.length<=160/\f.md.length<=160/\f.id=R.sh*4294967296+R.fl.length/\f.step=R.sh*4294967296+R.sp.length/\(f.kind=5->∃g,0<=g/\f.ps=[⟨g,0,3⟩]))->∀x∈R.fl++[f],x.ps.length<=160/\x.md.length<=160/\R.sh*4294967296<=x.id/\x.id<R.sh*4294967296+(R.fl++[f]).length/\x.step<=R.sh*4294967296+R.sp.length/\(x.kind=5->∃g,0<=g/\x.ps=[⟨g,0,3⟩]):=by
 intro f hf x hx
 rw[acw,List.length_singleton]
 rcases acr.1 hx with hx|hx
 ·obtain⟨a1,a2,a3,a4,a5,a6⟩:=hG.D5 x hx
  exact⟨a1,a2,a3,by omega,a5,a6⟩
 ·rw[aco]at hx;subst hx
  obtain⟨a1,a2,a3,a4,a5⟩:=hf
  exact⟨a1,a2,by omega,by omega,by omega,a5⟩
def G7(R:RL)(s:cM)(m:di)(tk:List Lt×List Lt):RL:={ R with
 st:=if 0<m.to then aI (aI R.st (m.fr,m.it) tk.2) (m.to,m.it) (aR (bP R.st (m.to,m.it)) ⟨R.sh*4294967296+R.fl.length,0,m.n⟩)else aI R.st (m.fr,m.it) tk.2
 fl:=R.fl++[eG R s m tk.1 []] }
theorem UU{R:RL}{s:cM}{m:di}(hG:Good R)(hl:R.fl.length+1<=160)(hb:dA m=true)(eZ:0<m.fr)(hk:s.kind≠5)(tk:List Lt×List Lt)(hn:m.n<=cz (bP R.st (m.fr,m.it)))(t1:tk.1.length<=160)(t2:∀y∈tk.2,aD y=true)(t4:tk.2.length<=R.fl.length+1)(ts:cz tk.2=cz (bP R.st (m.fr,m.it))-m.n):
 Good (G7 R s m tk)/\(G7 R s m tk).fl.length=R.fl.length+1/\∀j,bG (G7 R s m tk).st j=if m.it=j then bG R.st j+(if m.fr=0 then m.n else 0)-(if m.to=0 then m.n else 0)else bG R.st j:=by
 have hb:=acA hb
 have hS:=hG.sj (m.fr,m.it)
 have oQ:=hG.sh
 have lT:=hG.fl
 have qH:0<=R.sh*4294967296+R.fl.length:=by omega
 have D5:=Iw hG
 have hv:=eD hS.1 (by omega)
 have hex:∃y,aW R.st (m.fr,m.it)=some y:=by
  cases hg:aW R.st (m.fr,m.it)with
  |some y=>exact⟨y,rfl⟩
  |none=>
   have:bP R.st (m.fr,m.it)=[]:=by unfold bP;rw[hg];rfl
   rw[this]at hn;simp[cz]at hn;omega
 obtain⟨y,hy⟩:=hex
 have cC:bP (aI R.st (m.fr,m.it) tk.2) (m.to,m.it)=bP R.st (m.to,m.it):=by
  rw[iQ,if_neg];intro h;injection h with h1;omega
 have Z0:∀j,bG (aI R.st (m.fr,m.it) tk.2) j=bG R.st j+if m.it=j then -m.n else 0:=by
  intro j
  rw[tc,pM (eD t2 (by omega)),pM hv,ts]
  split<;>omega
 have hT:=C6 (x:=⟨R.sh*4294967296+R.fl.length,0,m.n⟩) (hG.sj (m.to,m.it)) ⟨qH,by simp,by simp only;omega,by simp only;omega⟩ (by omega)
 have l1:=Mh (x:=tk.2) hy
 have l2:=yX (aI R.st (m.fr,m.it) tk.2) (m.to,m.it) (aR (bP R.st (m.to,m.it)) ⟨R.sh*4294967296+R.fl.length,0,m.n⟩)
 have ak:=hG.st
 have Mi:∀j,bG (if 0<m.to then aI (aI R.st (m.fr,m.it) tk.2) (m.to,m.it) (aR (bP R.st (m.to,m.it)) ⟨R.sh*4294967296+R.fl.length,0,m.n⟩)else aI R.st (m.fr,m.it) tk.2) j=if m.it=j then bG R.st j+(if m.fr=0 then m.n else 0)-(if m.to=0 then m.n else 0)else bG R.st j:=by
  intro j
  rw[if_neg (by omega:¬m.fr=0)]
  by_cases jS:0<m.to
  ·rw[if_pos jS,if_neg (by omega:¬m.to=0),tc,Z0,cC,hT.2]
   simp only
   split<;>omega
  ·rw[if_neg jS,if_pos (by omega:m.to=0),Z0]
   split<;>omega
 unfold G7
 refine⟨⟨oQ,hG.sp,by simp only[acw,List.length_singleton];omega,?_,?_,?_,?_,?_⟩,by simp only[acw,List.length_singleton],Mi⟩
 ·simp only
  split
  ·exact(hG.nk.put _ _).put _ _
  ·exact hG.nk.put _ _
 ·simp only[acw,List.length_singleton]
  split<;>omega
 ·intro p hp
  simp only[acw,List.length_singleton]at hp⊢
  have h1:p∈aI R.st (m.fr,m.it) tk.2->(∀x∈p.2,aD x=true)/\p.2.length<=R.fl.length+1:=fun hp=>by
   rcases iR hp with rfl|hp
   ·exact⟨t2,by simp only;omega⟩
   ·exact⟨(hG.pL p hp).1,by have:=(hG.pL p hp).2;omega⟩
  split at hp
  ·rcases iR hp with rfl|hp
   ·exact⟨hT.1.1,hT.1.2⟩
   ·exact h1 hp
  ·exact h1 hp
 ·intro j
  have:=Mi j
  have:=hG.tb j
  simp only at*
  rw[Mi j]
  split
  ·rw[if_neg (by omega:¬m.fr=0)]
   split<;>omega
  ·omega
 ·exact D5 _ ⟨by simp only[eG];omega,by simp[eG],rfl,rfl,fun h=>absurd h hk⟩
def wL(R:RL)(s:cM)(m:di)(l:List Lt)(md:List Int):RL:={ R with
 st:=aI R.st (m.to,m.it) (aR (bP R.st (m.to,m.it)) ⟨R.sh*4294967296+R.fl.length,0,m.n⟩)
 fl:=R.fl++[eG R s m l md] }
theorem WG{R:RL}{s:cM}{m:di}(hG:Good R)(hl:R.fl.length+1<=160)(hb:dA m=true)(oF:m.fr=0)(l:List Lt)(md:List Int)(hc:¬1099511627776<bG R.st m.it+m.n)(h0:l.length<=160)(h1:md.length<=160)(h5:s.kind=5->∃g,0<=g/\l=[⟨g,0,3⟩]):
 Good (wL R s m l md)/\(wL R s m l md).fl.length=R.fl.length+1/\∀j,bG (wL R s m l md).st j=if m.it=j then bG R.st j+(if m.fr=0 then m.n else 0)-(if m.to=0 then m.n else 0)else bG R.st j:=by
 have hb:=acA hb
 have oQ:=hG.sh
 have lT:=hG.fl
 have qH:0<=R.sh*4294967296+R.fl.length:=by omega
 have D5:=Iw hG
 have hT:=C6 (x:=⟨R.sh*4294967296+R.fl.length,0,m.n⟩) (hG.sj (m.to,m.it)) ⟨qH,by simp,by simp only;omega,by simp only;omega⟩ (by omega)
 have l2:=yX R.st (m.to,m.it) (aR (bP R.st (m.to,m.it)) ⟨R.sh*4294967296+R.fl.length,0,m.n⟩)
 have ak:=hG.st
 have Mi:∀j,bG (aI R.st (m.to,m.it) (aR (bP R.st (m.to,m.it)) ⟨R.sh*4294967296+R.fl.length,0,m.n⟩)) j=if m.it=j then bG R.st j+(if m.fr=0 then m.n else 0)-(if m.to=0 then m.n else 0)else bG R.st j:=by
  intro j
  rw[if_pos oF,if_neg (by omega:¬m.to=0),tc,hT.2]
  simp only
  split<;>omega
 unfold wL
 refine⟨⟨oQ,hG.sp,by simp only[acw,List.length_singleton];omega,hG.nk.put _ _,?_,?_,?_,?_⟩,by simp only[acw,List.length_singleton],Mi⟩
 ·simp only[acw,List.length_singleton]
  omega
 ·intro p hp
  simp only[acw,List.length_singleton]at hp⊢
  rcases iR hp with rfl|hp
  ·exact⟨hT.1.1,hT.1.2⟩
  ·exact⟨(hG.pL p hp).1,by have:=(hG.pL p hp).2;omega⟩
 ·intro j
  have:=hG.tb j
  simp only at*
  rw[Mi j]
  split
  ·rename_i e;subst e
   (repeat' split)<;>omega
  ·omega
 ·exact D5 _ ⟨h0,h1,rfl,rfl,h5⟩
theorem C7{R:RL}{s:cM}{m:di}(hG:Good R)(hl:R.fl.length+1<=160)(hm:FH R.sh s m)(h0:(bl R s m).1=0):
 Good (bl R s m).2/\(bl R s m).2.fl.length=R.fl.length+1/\∀j,bG (bl R s m).2.st j=if m.it=j then bG R.st j+(if m.fr=0 then m.n else 0)-(if m.to=0 then m.n else 0)else bG R.st j:=by
 have hb:=acA hm.base
 have hS:=hG.sj (m.fr,m.it)
 have oQ:=hG.sh
 have lT:=hG.fl
 have qH:0<=R.sh*4294967296+R.fl.length:=by omega
 have D5:=Iw hG
 by_cases eZ:0<m.fr
 ·have hk:s.kind≠5/\m.ps=[]:=by
   rcases hm.ps with h|h
   ·omega
   ·exact⟨h.1,h.2.2⟩
  rw[C5 R s m eZ hk.2]at h0⊢
  by_cases hc:bZ (bP R.st (m.fr,m.it))<m.n
  ·rw[if_pos hc]at h0;cases h0
  rw[if_neg hc]
  have hv:=eD hS.1 (by omega)
  have hn:m.n<=cz (bP R.st (m.fr,m.it)):=by rw[pM hv]at hc;omega
  obtain⟨t1,t2,t3,t4⟩:=Kr (wz m.it) (by omega:0<=m.n) hS.1 hn
  have ts:=(PN (wz m.it) (by omega:0<=m.n) hS.1 hn).2
  have cC:bP (aI R.st (m.fr,m.it) (fp (bP R.st (m.fr,m.it)) m.n (wz m.it)).2) (m.to,m.it)=bP R.st (m.to,m.it):=by
   rw[iQ,if_neg];intro h;injection h with h1;omega
  simp only[cC]
  exact UU hG hl hm.base eZ hk.1 _ hn (by omega) t2 (by omega) ts
 ·have oF:m.fr=0:=by omega
  have jS:0<m.to:=by omega
  rw[PO R s m oF jS]at h0⊢
  by_cases he:FI R s.kind m≠0
  ·rw[if_pos he]at h0;exact absurd h0 he
  rw[if_neg he]at h0⊢
  by_cases hc:1099511627776<bG R.st m.it+m.n
  ·rw[if_pos hc]at h0;cases h0
  rw[if_neg hc]
  have h1:(bif ta s.kind then qY R.fl (R.sh*4294967296+R.sp.length)else[]).length<=160:=by
   have:=C4 R.fl (R.sh*4294967296+R.sp.length)
   cases ta s.kind
   ·exact acy _
   ·exact Nat.le_trans this (by omega)
  refine WG hG hl hm.base oF _ _ hc ?_ h1 fun h=>?_
  ·rcases hm.ps with⟨h,_,g,_,_,h2⟩|⟨h,h3,h2⟩
   ·rw[if_pos (.inl h),h2];simp
   ·rw[h2];split<;>simp
  ·rcases hm.ps with⟨_,_,g,g0,_,h2⟩|⟨h5,_⟩
   ·exact⟨g,g0,by rw[if_pos (.inl h),h2]⟩
   ·exact absurd h h5
end
section
open Go.TM
def dj(x y:Lt):Prop:=∀f u,dZ x f u->¬dZ y f u
def Dj(l:List Lt):Prop:=l.Pairwise dj
theorem mz{l r:List Lt}:Dj (l++r)↔Dj l/\Dj r/\∀f u,has l f u->¬has r f u:=by
 unfold Dj
 rw[List.pairwise_append]
 refine⟨fun⟨h1,h2,h3⟩=>⟨h1,h2,fun f u ⟨x,hx,hu⟩ ⟨y,hy,hv⟩=>h3 x hx y hy f u hu hv⟩,fun⟨h1,h2,h3⟩=>⟨h1,h2,fun x hx y hy f u hu hv=>h3 f u ⟨x,hx,hu⟩ ⟨y,hy,hv⟩⟩⟩
theorem Ix(x:Lt):Dj [x]:=acR _ _
theorem Z1{l:List Lt}(h:NS l):Dj l:=h.pD.imp fun {x y} hg f u h1 h2=>by
 unfold zO at hg;unfold dZ at h1 h2;omega
theorem PQ{l:List Lt}{x:Lt}(h:Dj (l++[x]))(hl:∀y∈l,0<=y.n)(hx:0<=x.n):Dj (aR l x):=by
 obtain⟨h1,_,h3⟩:=mz.1 h
 unfold aR
 split
 ·exact h1
 split
 ·rename_i y hy
  split
  ·rename_i hc
   have e:=fR hy
   rw[e]at h1
   obtain⟨a1,_,a3⟩:=mz.1 h1
   refine mz.2 ⟨a1,Ix _,fun f u hu hv=>?_⟩
   have hv:=dC.1 hv
   by_cases c:dZ y f u
   ·exact a3 f u hu (dC.2 c)
   ·refine h3 f u (by rw[e];exact dw.2 (.inl hu)) (dC.2 ?_)
    unfold dZ at hv c⊢
    simp only at hv
    omega
  ·exact h
 ·exact Ix x
theorem PR{l:List Lt}{x:Lt}(hl:∀y∈l,0<=y.n)(hx:0<=x.n):∀y∈aR l x,0<=y.n:=by
 unfold aR
 split
 ·exact hl
 split
 ·rename_i y hy
  have RJ:0<=y.n:=hl y (List.mem_of_getLast? hy)
  split
  ·intro z hz
   rcases acr.1 hz with hz|hz
   ·exact hl z ((List.dropLast_sublist _).subset hz)
   ·rw[aco]at hz;subst hz;simp only;omega
  ·intro z hz
   rcases acr.1 hz with hz|hz
   ·exact hl z hz
   ·rw[aco]at hz;subst hz;exact hx
 ·intro z hz;rw[aco]at hz;subst hz;exact hx
theorem FJ{f u:Int}:∀(r l:List Lt),(∀y∈l,0<=y.n)->(∀y∈r,0<=y.n)->has (r.foldl aR l) f u->has l f u\/has r f u
 |[],l,_,_,h=>.inl h
 |x::r,l,hl,hr,h=>by
  have hx:=hr x acv
  rcases FJ r (aR l x) (PR hl hx) (fun y hy=>hr y (acq _ hy)) h with h|h
  ·rcases(yq hl hx).1 h with h|h
   ·exact .inl h
   ·exact .inr (bj.2 (.inl h))
  ·exact .inr (bj.2 (.inr h))
theorem C8:∀(r l:List Lt),Dj (l++r)->(∀y∈l,0<=y.n)->(∀y∈r,0<=y.n)->Dj (r.foldl aR l)
 |[],l,h,_,_=>by rw[List.append_nil]at h;exact h
 |x::r,l,h,hl,hr=>by
  have hx:=hr x acv
  rw[show l++x::r=(l++[x])++r by simp]at h
  obtain⟨h1,h2,h3⟩:=mz.1 h
  have hp:=PR hl hx
  refine C8 r (aR l x) (mz.2 ⟨PQ h1 hl hx,h2,fun f u hu=>h3 f u (dw.2 ?_)⟩) hp fun y hy=>hr y (acq _ hy)
  rcases(yq hl hx).1 hu with hu|hu
  ·exact .inl hu
  ·exact .inr (dC.2 hu)
theorem Ks{g:Lt->List Lt}:∀{s:List Lt},Dj s->(∀y∈s,Dj (g y)/\∀f u,has (g y) f u->dZ y f u)->Dj (s.flatMap g)
 |[],_,_=>.nil
 |y::s,h,hg=>by
  rw[show y::s=[y]++s from rfl]at h
  obtain⟨_,h2,h3⟩:=mz.1 h
  rw[List.flatMap_cons]
  have hy:=hg y acv
  refine mz.2 ⟨hy.1,Ks h2 fun z hz=>hg z (acq _ hz),fun f u hu hv=>?_⟩
  obtain⟨z,hz,hv⟩:=pF.1 hv
  exact h3 f u (dC.2 (hy.2 f u hu)) ⟨z,hz,(hg z (acq _ hz)).2 f u hv⟩
theorem Z2{s P:List Lt}(h:Dj s)(hs:∀x∈s,1<=x.n)(hP:∀y∈P,1<=y.n):Dj (mu s P):=by
 have hr:=fun x hx=>sW (hs x hx) hP
 refine C8 _ [] ?_ (fun _ h=>(by cases h)) fun y hy=>?_
 ·rw[List.nil_append]
  exact Ks h fun x hx=>⟨Z1 (hr x hx).1,fun f u hu=>((hr x hx).2 f u).1 hu |>.1⟩
 ·obtain⟨x,hx,hy⟩:=List.mem_flatMap.1 hy
  have:=(hr x hx).1.pos y hy;omega
theorem WH{x y:Lt}(h:dj y x)(hy:1<=y.n)(hx:1<=x.n):gz x y=[y]:=by
 unfold gz
 rw[if_pos]
 refine Decidable.byContradiction fun hc=>?_
 have h1:=h y.f (max y.a x.a)
 unfold dZ at h1
 omega
theorem FK:∀(r l:List Lt),cz (r.foldl aR l)=cz l+cz r
 |[],l=>by simp[cz]
 |x::r,l=>by rw[List.foldl_cons,FK r,yt,show x::r=[x]++r from rfl,iN [x] r];simp[cz];omega
theorem FL:∀(r l:List Lt),(r.foldl aR l).length<=l.length+r.length
 |[],l=>acN _
 |x::r,l=>by
  have h1:=eT l x
  have h2:=FL r (aR l x)
  rw[List.foldl_cons,List.length_cons];omega
theorem yZ{x:Lt}(hx:1<=x.n):∀{s:List Lt},(∀y∈s,1<=y.n)->(∀f u,has s f u->¬dZ x f u)->(s.flatMap fun y=>mS y [x])=s
 |[],_,_=>rfl
 |y::s,hs,h=>by
  have e:mS y [x]=gz x y:=by simp[mS,iO]
  rw[List.flatMap_cons,e,WH (fun f u hu=>h f u (bj.2 (.inl hu))) (hs y acv) hx,yZ hx (fun z hz=>hs z (acq _ hz)) fun f u hu=>h f u (bj.2 (.inr hu))]
  rfl
theorem Z3{s:List Lt}{x y:Lt}(h:Dj s)(hs:∀z∈s,1<=z.n)(hy:y∈s)(hx:1<=x.n)(hi:y.f=x.f/\y.a<=x.a/\x.a+x.n<=y.a+y.n):cz (mu s [x])=cz s-x.n/\(mu s [x]).length<=s.length+1:=by
 obtain⟨s1,s2,rfl⟩:=List.append_of_mem hy
 obtain⟨_,h2,h3⟩:=mz.1 h
 rw[show y::s2=[y]++s2 from rfl]at h2
 obtain⟨_,_,h4⟩:=mz.1 h2
 have dh:∀f u,dZ x f u->dZ y f u:=fun f u hu=>by unfold dZ at hu⊢;omega
 have e:mS y [x]=gz x y:=by simp[mS,iO]
 have e1:=yZ hx (s:=s1) (fun z hz=>hs z (acr.2 (.inl hz))) fun f u hu hv=>h3 f u hu (bj.2 (.inl (dh f u hv)))
 have e2:=yZ hx (s:=s2) (fun z hz=>hs z (acr.2 (.inr (acq _ hz)))) fun f u hu hv=>h4 f u (dC.2 (dh f u hv)) hu
 have ef:((s1++y::s2).flatMap fun z=>mS z [x])=s1++gz x y++s2:=by
  rw[List.flatMap_append,List.flatMap_cons,e1,e2,e,acK]
 have c:cz (gz x y)=y.n-x.n/\(gz x y).length<=2:=by
  unfold gz
  rw[if_neg (by omega)]
  constructor
  ·split<;>split<;>simp[cz]<;>omega
  ·split<;>split<;>simp
 have a1:=FK (s1++gz x y++s2) []
 have a2:=FL (s1++gz x y++s2) []
 unfold mu
 rw[ef]
 refine⟨?_,?_⟩
 ·rw[a1,iN,iN,iN,show y::s2=[y]++s2 from rfl,iN [y] s2,c.1];simp[cz];omega
 ·simp only[acw,List.length_cons,List.length_nil]at a2⊢;omega
def Yh(q:Lt×Int):Lt:=⟨q.1.f,q.1.a+q.2,q.1.n-q.2⟩
theorem Kt:∀(l:List (Lt×Int)) (p:List Lt×List Lt),(l.foldl tkF p).2=(l.map Yh).foldl aR p.2
 |[],p=>rfl
 |q::l,p=>by rw[List.foldl_cons,Kt l,List.map_cons,List.foldl_cons];rfl
theorem Tg{s:List Lt}{n:Int}(mx:Bool)(h:Dj s)(hn:0<=n)(hs:∀x∈s,aD x=true)(ht:n<=cz s):Dj (fp s n mx).2/\∀f u,has (fp s n mx).2 f u->has s f u:=by
 obtain⟨c1,c2⟩:=w6 mx hn hs ht
 unfold fp mw
 generalize pI s n mx=ks at c1 c2
 rw[List.take_of_length_le (by rw[List.length_zip];omega),Kt]
 have hq:∀q∈s.zip ks,0<=q.2/\q.2<=q.1.n:=fun q hq=>by
  obtain⟨i,hi⟩:=acF hq
  rw[List.getElem?_zip_eq_some]at hi
  have:=c2 i q.1 hi.1
  rw[acn,hi.2]at this
  exact this
 have Yd:∀y∈(s.zip ks).map Yh,0<=y.n:=fun y hy=>by
  obtain⟨q,hm,rfl⟩:=acL.1 hy
  have:=hq q hm
  unfold Yh;simp only;omega
 refine⟨C8 _ [] ?_ (fun _ h=>(by cases h)) Yd,fun f u hu=>?_⟩
 ·rw[List.nil_append]
  refine List.pairwise_map.2 ?_
  have hz:((s.zip ks).map Prod.fst).Pairwise dj:=by rw[List.map_fst_zip (by omega)];exact h
  refine(List.pairwise_map.1 hz).imp_of_mem fun {a b} ha hb Vk f u h1 h2=>Vk f u ?_ ?_
  ·have:=hq a ha;unfold dZ Yh at h1;unfold dZ;simp only at h1;omega
  ·have:=hq b hb;unfold dZ Yh at h2;unfold dZ;simp only at h2;omega
 ·rcases FJ _ [] (fun _ h=>(by cases h)) Yd hu with h|⟨y,hy,h⟩
  ·exact absurd h br
  ·obtain⟨q,hm,rfl⟩:=acL.1 hy
   have hz:=hq q hm
   refine⟨q.1,(List.of_mem_zip hm).1,?_⟩
   unfold dZ Yh at h;unfold dZ;simp only at h;omega
end
section
open Go.TM
structure Dx(R:RL):Prop where
 dj:∀p∈R.st,Dj p.2/\∀x∈p.2,x.f<R.sh*4294967296+R.fl.length
 ids:∀(i:Nat) (f:gC),R.fl[i]?=some f->f.id=R.sh*4294967296+i
 rv:∀f∈R.fl,f.kind=9->f.fr=0->∃x,aD x=true/\f.ps=[x]/\x.f<R.sh*4294967296+R.fl.length
 fn:∀f∈R.fl,(1<=f.n/\f.n<=1099511627776)/\0<=f.it/\f.it<5
 ky:∀p∈R.st,1<=p.1.1/\p.1.1<=1073741824/\0<=p.1.2/\p.1.2<5
theorem Dx.sj{R:RL}(h:Dx R)(k:Ky):Dj (bP R.st k)/\∀x∈bP R.st k,x.f<R.sh*4294967296+R.fl.length:=by
 by_cases hs:bP R.st k=[]
 ·rw[hs];exact⟨.nil,fun x hx=>(by cases hx)⟩
 ·exact h.dj _ (w7 hs)
theorem Dx.put{R:RL}(h:Dx R)(hG:Good R)(k:Ky){n:Int}(hn:1<=n):Dj (aR (bP R.st k) ⟨R.sh*4294967296+R.fl.length,0,n⟩)/\∀x∈aR (bP R.st k) ⟨R.sh*4294967296+R.fl.length,0,n⟩,x.f<R.sh*4294967296+R.fl.length+1:=by
 obtain⟨h1,h2⟩:=h.sj k
 have hp:=(hG.sj k).1
 have Yd:∀y∈bP R.st k,0<=y.n:=fun y hy=>(l7 (hp y hy)).1
 refine⟨PQ (mz.2 ⟨h1,Ix _,fun f u ⟨y,hy,hu⟩ hv=>?_⟩) Yd (by simp only;omega),fun x hx=>?_⟩
 ·have:=h2 y hy
  have hv:=dC.1 hv
  unfold dZ at hu hv
  simp only at hv;omega
 ·have e:aR (bP R.st k) ⟨R.sh*4294967296+R.fl.length,0,n⟩=bP R.st k++[⟨R.sh*4294967296+R.fl.length,0,n⟩]:=by
   unfold aR
   rw[if_neg (by simp only;omega)]
   split
   ·rename_i y hy
    have:=h2 y (List.mem_of_getLast? hy)
    rw[if_neg (by simp only;omega)]
   ·rename_i hy;rw[List.getLast?_eq_none_iff.1 hy];rfl
  rw[e]at hx
  rcases acr.1 hx with hx|hx
  ·have:=h2 x hx;omega
  ·rw[aco]at hx;subst hx;simp only;omega
theorem Dx.D5{R:RL}(h:Dx R){f:gC}(hn:(1<=f.n/\f.n<=1099511627776)/\0<=f.it/\f.it<5)(qH:f.id=R.sh*4294967296+R.fl.length)(hr:f.kind=9->f.fr=0->∃x,aD x=true/\f.ps=[x]/\x.f<R.sh*4294967296+R.fl.length):
 (∀(i:Nat) (g:gC),(R.fl++[f])[i]?=some g->g.id=R.sh*4294967296+i)/\(∀g∈R.fl++[f],g.kind=9->g.fr=0->∃x,aD x=true/\g.ps=[x]/\x.f<R.sh*4294967296+(R.fl++[f]).length)/\∀g∈R.fl++[f],(1<=g.n/\g.n<=1099511627776)/\0<=g.it/\g.it<5:=by
 rw[acw,List.length_singleton]
 refine⟨fun i g hg=>?_,fun g hg h9 h0=>?_,fun g hg=>?_⟩
 ·rw[List.getElem?_append]at hg
  split at hg
  ·exact h.ids i g hg
  ·have:i-R.fl.length=0:=by have:=(aci.1 hg).1;simp at this;omega
   rw[this]at hg
   injection hg with hg;subst hg
   rw[qH];omega
 ·rcases acr.1 hg with hg|hg
  ·obtain⟨x,h1,h2,h3⟩:=h.rv g hg h9 h0;exact⟨x,h1,h2,by omega⟩
  ·rw[aco]at hg;subst hg
   obtain⟨x,h1,h2,h3⟩:=hr h9 h0;exact⟨x,h1,h2,by omega⟩
 ·rcases acr.1 hg with hg|hg
  ·exact h.fn g hg
  ·rw[aco]at hg;subst hg;exact hn
theorem PT{R:RL}{s:cM}{m:di}(h:Dx R)(hG:Good R)(hb:dA m=true)(eZ:0<m.fr)(tk:List Lt×List Lt)(h1:Dj tk.2)(h2:∀x∈tk.2,x.f<R.sh*4294967296+R.fl.length):Dx (G7 R s m tk):=by
 have hb:=acA hb
 obtain⟨f1,f2,f3⟩:=h.D5 (f:=eG R s m tk.1 []) ⟨⟨hb.2.2.1,hb.2.2.2.1⟩,hb.1,hb.2.1⟩ rfl fun _ h0=>absurd h0 (show¬m.fr=0 by omega)
 obtain⟨p1,p2⟩:=h.put hG (m.to,m.it) (n:=m.n) (by omega)
 have hk:∀p∈(G7 R s m tk).st,1<=p.1.1/\p.1.1<=1073741824/\0<=p.1.2/\p.1.2<5:=fun p hp=>by
  have hp:p∈if 0<m.to then aI (aI R.st (m.fr,m.it) tk.2) (m.to,m.it) (aR (bP R.st (m.to,m.it)) ⟨R.sh*4294967296+R.fl.length,0,m.n⟩)else aI R.st (m.fr,m.it) tk.2:=hp
  have h4:p∈aI R.st (m.fr,m.it) tk.2->1<=p.1.1/\p.1.1<=1073741824/\0<=p.1.2/\p.1.2<5:=fun hp=>by
   rcases iR hp with rfl|hp
   ·simp only;omega
   ·exact h.ky p hp
  split at hp
  ·rcases iR hp with rfl|hp
   ·simp only;omega
   ·exact h4 hp
  ·exact h4 hp
 refine⟨fun p hp=>?_,f1,f2,f3,hk⟩
 show Dj p.2/\∀x∈p.2,x.f<R.sh*4294967296+(R.fl++[eG R s m tk.1 []]).length
 rw[acw,List.length_singleton]
 have h3:p∈aI R.st (m.fr,m.it) tk.2->Dj p.2/\∀x∈p.2,x.f<R.sh*4294967296+((R.fl.length+1:Nat):Int):=fun hp=>by
  rcases iR hp with rfl|hp
  ·exact⟨h1,fun x hx=>by have:=h2 x hx;omega⟩
  ·exact⟨(h.dj p hp).1,fun x hx=>by have:=(h.dj p hp).2 x hx;omega⟩
 have hp:p∈if 0<m.to then aI (aI R.st (m.fr,m.it) tk.2) (m.to,m.it) (aR (bP R.st (m.to,m.it)) ⟨R.sh*4294967296+R.fl.length,0,m.n⟩)else aI R.st (m.fr,m.it) tk.2:=hp
 split at hp
 ·rcases iR hp with rfl|hp
  ·exact⟨p1,fun x hx=>by have:=p2 x hx;omega⟩
  ·exact h3 hp
 ·exact h3 hp
theorem UW{R:RL}{s:cM}{m:di}(h:Dx R)(hG:Good R)(hb:dA m=true)(jS:0<m.to)(l:List Lt)(md:List Int)(hr:s.kind=9->m.fr=0->∃x,aD x=true/\l=[x]/\x.f<R.sh*4294967296+R.fl.length):Dx (wL R s m l md):=by
 have hb:=acA hb
 obtain⟨f1,f2,f3⟩:=h.D5 (f:=eG R s m l md) ⟨⟨hb.2.2.1,hb.2.2.2.1⟩,hb.1,hb.2.1⟩ rfl hr
 obtain⟨p1,p2⟩:=h.put hG (m.to,m.it) (n:=m.n) (by omega)
 refine⟨fun p hp=>?_,f1,f2,f3,fun p hp=>?_⟩
 rotate_left
 ·rcases iR hp with rfl|hp
  ·simp only;omega
  ·exact h.ky p hp
 show Dj p.2/\∀x∈p.2,x.f<R.sh*4294967296+(R.fl++[eG R s m l md]).length
 rw[acw,List.length_singleton]
 rcases iR hp with rfl|hp
 ·exact⟨p1,fun x hx=>by have:=p2 x hx;omega⟩
 ·exact⟨(h.dj p hp).1,fun x hx=>by have:=(h.dj p hp).2 x hx;omega⟩
end
section
open Go.TM
theorem val_one{x:Lt}(h:aD x=true):bH [x]=true:=eD (fun y hy=>by rw[aco]at hy;subst hy;exact h) (by simp)
theorem td{l:List Lt}(h:bH l=true):∀x∈l,1<=x.n:=fun x hx=>(ai.1 ((fb h).2 x hx)).2.2.1
theorem WI{l:List Lt}(h:bH l=true):kr l=cL l:=by unfold kr;rw[h];rfl
theorem Th{l:List Lt}(h:bH l=true):bH (cL l)=true:=by
 have:=qv (fb h).2
 exact eD this.1 (by have:=(fb h).1;omega)
theorem PU{a b:List Lt}(ha:bH a=true)(hb:bH b=true):uL a b=mu (cL a) b:=by
 unfold uL Im;rw[WI ha,Th ha,hb];rfl
theorem Ku{a b:List Lt}(ha:bH a=true)(hb:bH b=true):qK a b=true↔∀f u,has a f u->has b f u:=by
 unfold qK
 rw[ha,hb,PU ha hb,Bool.true_and,Bool.true_and,acS]
 exact SH (td ha) (td hb)
theorem Ti{a b:List Lt}(ha:bH a=true)(hb:bH b=true)(hm:bH (mu (cL a) b)=true):Ak a b=[]↔∀f u,has a f u->¬has b f u:=by
 unfold Ak
 rw[hb,cond_true,PU ha hb,PU ha hm]
 exact SJ (td ha) (td hb)
theorem Kv(s P:List Lt):Fy s P s.length=mu s P:=by unfold Fy mu;rw[acz]
theorem Tj{x:Lt}(hx:aD x=true):cL [x]=[x]:=Ke ⟨acR _ _,fun y hy=>by rw[aco]at hy;subst hy;exact(ai.1 hx).2.2.1⟩
theorem Tk{x y:Lt}(hx:aD x=true)(hy:aD y=true):bH (mu (cL [x]) [y])=true:=by
 have h:=yV (s:=[x]) (P:=[y]) (fun z hz=>by rw[aco]at hz;subst hz;exact hx) (fun z hz=>by rw[aco]at hz;subst hz;exact hy) 1
 rw[Tj hx]
 rw[show Fy [x] [y] 1=mu [x] [y]from Kv [x] [y]]at h
 exact eD h.1 (Nat.le_trans h.2 (by simp))
theorem Kw{x y:Lt}(hx:aD x=true)(hy:aD y=true):Ak [x] [y]=[]↔∀f u,dZ x f u->¬dZ y f u:=by
 rw[Ti (val_one hx) (val_one hy) (Tk hx hy)]
 simp only[dC]
theorem Tl{R:RL}{s:cM}{m:di}{x y:Lt}(hG:Good R)(hb:dA m=true)(eZ:0<m.fr)(hp:m.ps=[x])(hx:aD x=true)(hy:y∈bP R.st (m.fr,m.it))(hi:y.f=x.f/\y.a<=x.a/\x.a+x.n<=y.a+y.n):
 qK [x] (bP R.st (m.fr,m.it))=true/\bl R s m=(0,G7 R s m ([x],mu (bP R.st (m.fr,m.it)) [x])):=by
 have hb:=acA hb
 have hS:=hG.sj (m.fr,m.it)
 have lT:=hG.fl
 have hv:=eD hS.1 (by omega)
 have hw:qK [x] (bP R.st (m.fr,m.it))=true:=(Ku (val_one hx) hv).2 fun f u hu=>⟨y,hy,by have hu:=dC.1 hu;unfold dZ at hu⊢;omega⟩
 have e:Bu R s.kind m=(0,[x],aI R.st (m.fr,m.it) (mu (bP R.st (m.fr,m.it)) [x])):=by
  unfold Bu
  rw[if_pos eZ,hp,if_neg (by simp),hw,cond_true]
  unfold Im
  rw[hv,val_one hx];rfl
 have cC:bP (aI R.st (m.fr,m.it) (mu (bP R.st (m.fr,m.it)) [x])) (m.to,m.it)=bP R.st (m.to,m.it):=by
  rw[iQ,if_neg];intro h;injection h with h1;omega
 refine⟨hw,?_⟩
 unfold bl
 rw[e,if_neg (show¬((0,[x],aI R.st (m.fr,m.it) (mu (bP R.st (m.fr,m.it)) [x])):Int×List Lt×SM).1≠0 by simp),if_neg (by omega),if_neg (by omega:¬m.fr=0)]
 simp only[cC]
 rfl
def FM(fl:List gC)(g:Int):List Lt:=((fl.filter fun f=>f.kind==9&&f.fr==0).flatMap (·.ps)).filter fun x=>x.f==g
def ku(fl:List gC)(g:Int):Option (List Lt):=if FM fl g=[]then none else some (cL (FM fl g))
theorem Iy{fl:List gC}{g:Int}{z:Lt}:z∈FM fl g↔z.f=g/\∃f∈fl,f.kind=9/\f.fr=0/\z∈f.ps:=by
 unfold FM
 simp only[List.mem_filter,List.mem_flatMap,acU,beq_iff_eq]
 exact⟨fun⟨⟨f,⟨h1,h2,h3⟩,h4⟩,h5⟩=>⟨h5,f,h1,h2,h3,h4⟩,fun⟨h5,f,h1,h2,h3,h4⟩=>⟨⟨f,⟨h1,h2,h3⟩,h4⟩,h5⟩⟩
theorem Iz{R:RL}(h:Dx R){g:Int}:∀z∈FM R.fl g,aD z=true:=fun z hz=>by
 obtain⟨_,f,h1,h2,h3,h4⟩:=Iy.1 hz
 obtain⟨x,q1,q2,_⟩:=h.rv f h1 h2 h3
 rw[q2,aco]at h4
 rw[h4];exact q1
theorem Z4{fl:List gC}{f:gC}(h:¬(f.kind=9/\f.fr=0))(g:Int):FM (fl++[f]) g=FM fl g:=by
 unfold FM
 have:(f.kind==9&&f.fr==0)=false:=by rw[Bool.eq_false_iff];intro hc;rw[acU,beq_iff_eq,beq_iff_eq]at hc;exact h hc
 rw[List.filter_append,List.filter_cons,this];simp
theorem WJ{fl:List gC}{f:gC}{x:Lt}(h9:f.kind=9)(h0:f.fr=0)(hp:f.ps=[x])(g:Int):FM (fl++[f]) g=FM fl g++if x.f=g then[x]else[]:=by
 unfold FM
 rw[List.filter_append,List.filter_cons,h9,h0,List.filter_nil]
 simp only[beq_self_eq_true,Bool.and_self,if_true,List.flatMap_append,List.flatMap_cons,List.flatMap_nil,List.append_nil,hp,List.filter_append,List.filter_cons,List.filter_nil]
 by_cases e:x.f=g<;>simp[e]
theorem PV{R:RL}(h:Dx R){f:gC}{x:Lt}(h9:f.kind=9)(h0:f.fr=0)(hp:f.ps=[x])(hx:aD x=true)(g:Int):ku (R.fl++[f]) g=if x.f=g then some (cL ((ku R.fl x.f).getD []++[x]))else ku R.fl g:=by
 unfold ku
 rw[WJ h9 h0 hp]
 by_cases e:x.f=g
 ·subst e
  rw[if_pos rfl,if_pos rfl,if_neg (by simp)]
  have dc:=fun z hz=>(ai.1 (Iz h (g:=x.f) z hz)).2.2.1
  have hx1:=(ai.1 hx).2.2.1
  have a1:∀z∈FM R.fl x.f++[x],1<=z.n:=fun z hz=>by
   rcases acr.1 hz with hz|hz
   ·exact dc z hz
   ·rw[aco]at hz;subst hz;exact hx1
  have s1:=gj dc
  by_cases e2:FM R.fl x.f=[]
  ·rw[if_pos e2,e2];rfl
  ·rw[if_neg e2,Option.getD_some]
   have a2:∀z∈cL (FM R.fl x.f)++[x],1<=z.n:=fun z hz=>by
    rcases acr.1 hz with hz|hz
    ·exact s1.1.pos z hz
    ·rw[aco]at hz;subst hz;exact hx1
   have s2:=gj a1
   have s3:=gj a2
   refine congrArg some (s2.1.uniq s3.1 fun f u=>?_)
   rw[s2.2,s3.2,dw,dw,s1.2]
 ·rw[if_neg e,if_neg e,List.append_nil]
theorem Kx{R:RL}(hD:Dx R){m:di}{x:Lt}{f:gC}(hp:m.ps=[x])(hx:aD x=true)(oQ:0<=R.sh)(hf:f∈R.fl)(qH:f.id=x.f)(h1:f.to=0/\f.kind≠6/\f.it=m.it/\x.a+x.n<=f.n):
 s9 R.fl m.it m.ps=if(kp [x] ((ku R.fl x.f).getD [])).1=[]then 0 else 10:=by
 have CS:=ai.1 hx
 have PW:=(hD.fn f hf).1
 have cw:R.fl.any (okF m.it x)=true:=by
  rw[List.any_eq_true]
  refine⟨f,hf,?_⟩
  unfold okF
  rw[acG ⟨h1.2.1,h1.1,h1.2.2.1⟩,Bool.true_and]
  refine(Ku (val_one hx) (val_one (ai.2 ⟨by simp only;omega,by simp,by simp only;omega,by simp only;omega⟩))).2 fun g u hu=>dC.2 ?_
  have hu:=dC.1 hu
  unfold dZ at hu⊢
  simp only;omega
 have hns:NS ((ku R.fl x.f).getD [])/\∀g u,has ((ku R.fl x.f).getD []) g u↔has (FM R.fl x.f) g u:=by
  unfold ku
  split
  ·rename_i e;rw[e];exact⟨NS.nil,fun _ _=>Iff.rfl⟩
  ·exact gj fun z hz=>(ai.1 (Iz hD z hz)).2.2.1
 have hdiv:=Kg (a:=[x]) (fun z hz=>by rw[aco]at hz;subst hz;exact CS.2.2.1) hns.1
 have Sv:R.fl.any (C3 x)=false↔(kp [x] ((ku R.fl x.f).getD [])).1=[]:=by
  rw[hdiv,List.any_eq_false]
  constructor
  ·intro h g u hu hv
   obtain⟨z,hz,hv⟩:=(hns.2 g u).1 hv
   obtain⟨_,q,a1,a2,a3,a4⟩:=Iy.1 hz
   obtain⟨z',b1,b2,_⟩:=hD.rv q a1 a2 a3
   rw[b2,aco]at a4;subst a4
   refine h q a1 ?_
   unfold C3
   rw[acG a2,acG a3,b2,acH fun hm=>(Kw b1 hx).1 hm g u hv (dC.1 hu)];rfl
  ·intro h q hq hc
   unfold C3 at hc
   rw[acU,acU,acS,acS]at hc
   obtain⟨z,b1,b2,_⟩:=hD.rv q hq hc.1.1 hc.1.2
   have hm:¬Ak q.ps [x]=[]:=by have:=hc.2;simpa using this
   rw[b2]at hm
   refine hm ((Kw b1 hx).2 fun g u hu hv=>?_)
   refine h g u (dC.2 hv) ((hns.2 g u).2 ⟨z,Iy.2 ⟨?_,q,hq,hc.1.1,hc.1.2,by rw[b2];exact aco.2 rfl⟩,hu⟩)
   rw[hu.1,hv.1]
 rw[hp]
 unfold s9
 rw[cw]
 by_cases e:(kp [x] ((ku R.fl x.f).getD [])).1=[]
 ·rw[if_pos e,Sv.2 e];rfl
 ·rw[if_neg e]
  have:R.fl.any (C3 x)=true:=by
   cases h:R.fl.any (C3 x)with
   |true=>rfl
   |false=>exact absurd (Sv.1 h) e
  rw[this];rfl
end
end Go.Proofs.YtmojfblpbcficaaGreatDoor
