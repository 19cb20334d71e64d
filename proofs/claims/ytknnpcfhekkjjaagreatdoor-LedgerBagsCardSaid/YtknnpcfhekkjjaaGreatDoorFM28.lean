import Derived.Test.YtknnpcfhekkjjaaGreatDoorFM26
import Derived.Test.YtknnpcfhekkjjaaGreatDoorFM27
import Derived.Test.YtknnpcfhekkjjaaGreatDoorFM23
set_option linter.all false
namespace Go.Proofs.YtknnpcfhekkjjaaGreatDoor
set_option maxRecDepth 100000
set_option maxHeartbeats 4000000
section
open Go.TM
def gG(R:RL)(s:dW)(m:fa)(tk:List Lt)(md:List Int):qy:=⟨R.sh*4294967296+R.fl.length,R.sh*4294967296+R.sp.length,s.kind,s.tick,s.gE,m.fr,m.to,m.it,m.n,tk,md⟩
structure RB(R:RL):Prop where
 sh:0<=R.sh/\R.sh<=1000
 fl:R.fl.length<=900000
 sp:R.sp.length<=900000
variable [bG]
theorem Bz(R:RL)(s:dW)(m:fa)(e:Int)(tk:List Lt)(he:e≠0)(hb:RB R)(ht:ar Tryz.prog 87 [.ptr 0 0,.dv (I s.kind),cY (ak m)] 4 (dU R) 0 [.dv (aU tk),.dv (I e)] (dU R)):ar Tryz.prog 54 [.ptr 0 0,cY (aP s),cY (ak m)] 4 (dU R) 0 [.dv (I e)] (dU R):=by
 obtain⟨sa,hf,hn⟩:=hb
 refine cO Tryz.func54 rfl (by kernel_rfl) ?_
 have lf:(R.fl.map bB).length=R.fl.length:=abH ..
 have lp:(R.sp.map aP).length=R.sp.length:=abH ..
 have m1:-9223372036854775808<=R.sh*4294967296/\R.sh*4294967296<=9223372036854775807:=by omega
 have m2:-9223372036854775808<=R.sh*4294967296+((R.fl.map bB).length:Int)/\R.sh*4294967296+((R.fl.map bB).length:Int)<=9223372036854775807:=by omega
 have m3:-9223372036854775808<=R.sh*4294967296+((R.sp.map aP).length:Int)/\R.sh*4294967296+((R.sp.map aP).length:Int)<=9223372036854775807:=by omega
 refine⟨fun _=>m1,fun _=>m2,fun _=>m1,fun _=>m3,by kernel_rfl,?_⟩
 refine .inr (cl [0,1,2,3] ht (by kernel_rfl) rfl rfl ?_)
 refine abG (fun _=>?_) fun h=>by simp[he]at h
 exact ext (by kernel_rfl) rfl rfl
theorem LU(R:RL)(st1:SM)(s:dW)(m:fa)(tk:List Lt)(dQ:0<m.fr)(hb:RB R)(Xm:0<=m.n/\m.n<=1099511627776)(h1:st1.length<=100000)(hk:(b5 st1 (m.to,m.it)).length<4096/\∀y∈b5 st1 (m.to,m.it),0<=y.a/\y.a<=1099511627776/\0<=y.n/\y.n<=1099511627776)(ht:ar Tryz.prog 87 [.ptr 0 0,.dv (I s.kind),cY (ak m)] 4 (dU R) 0 [.dv (aU tk),.dv (I 0)] (jN 1 0 0 { R with st:=st1 })):ar Tryz.prog 54 [.ptr 0 0,cY (aP s),cY (ak m)] 4 (dU R) 0 [.dv (I 0)] (jN 1 1 0 { R with st:=if 0<m.to then aS st1 (m.to,m.it) (bj (b5 st1 (m.to,m.it)) ⟨R.sh*4294967296+R.fl.length,0,m.n⟩)else st1,fl:=R.fl++[gG R s m tk []] }):=by
 obtain⟨sa,hf,hn⟩:=hb
 refine cO Tryz.func54 rfl (by kernel_rfl) ?_
 have lf:(R.fl.map bB).length=R.fl.length:=abH ..
 have lp:(R.sp.map aP).length=R.sp.length:=abH ..
 have m1:-9223372036854775808<=R.sh*4294967296/\R.sh*4294967296<=9223372036854775807:=by omega
 have m2:-9223372036854775808<=R.sh*4294967296+((R.fl.map bB).length:Int)/\R.sh*4294967296+((R.fl.map bB).length:Int)<=9223372036854775807:=by omega
 have m3:-9223372036854775808<=R.sh*4294967296+((R.sp.map aP).length:Int)/\R.sh*4294967296+((R.sp.map aP).length:Int)<=9223372036854775807:=by omega
 refine⟨fun _=>m1,fun _=>m2,fun _=>m1,fun _=>m3,by kernel_rfl,?_⟩
 refine .inr (cl [0,1,2,3] ht (by kernel_rfl) rfl rfl ?_)
 refine abG (fun h=>by cases h) fun _=>?_
 refine⟨Unit,fun _=>⟨7,[(0,.ptr 0 0),(4,.ptr 4 0),(5,.ptr 5 0),(7,.ptr 6 0),(10,.dv (I 0))],jN 1 0 0 { R with st:=st1 }++[(4,.cells (fc (aP s).cells)),(5,.cells (fc (ak m).cells)),(6,.cells (fc [I (R.sh*4294967296+((R.fl.map bB).length:Int)),I (R.sh*4294967296+((R.sp.map aP).length:Int)),I s.kind,I s.tick,I s.gE,I m.fr,I m.to,I m.it,I m.n,aU tk,.az]))]⟩,fun _=>True,fun _=>0,(),fun _=>rfl,jn rfl rfl rfl rfl,tv,?_⟩
 rintro i-
 repeat first|apply g1|apply g2|apply g3|apply g4|apply g5
 refine abG ?_ ?_
 ·intro h
  exact absurd h (by simp;omega)
 intro _
 have SB:(m.fr==0)=false:=by simp;omega
 repeat first|apply g1|apply g2|apply g3|apply g4|apply g5
 refine .inl ⟨by rw[SB];rfl,[I 0],(fun h=>by rw[SB]at h;cases h),rfl,?_⟩
 repeat first|apply g1|apply g2|apply g3|apply g4|apply g5
 refine⟨fun h=>(by rw[SB]at h;cases h),?_⟩
 repeat first|apply g1|apply g2|apply g3|apply g4|apply g5
 refine⟨by kernel_rfl,abG (fun h=>(by rw[SB]at h;cases h)) fun _=>?_⟩
 refine abG (fun ka=>?_) (fun ka=>?_)
 ·have ka:0<m.to:=abY ka
  rw[if_pos ka]
  refine .inr (cl [0,1,2,3] (ic { R with st:=st1 } m.to m.it h1) (by kernel_rfl) rfl rfl ?_)
  have KP:=fp (b5 st1 (m.to,m.it)) ⟨R.sh*4294967296+R.fl.length,0,m.n⟩
  have ha:=pC (b5 st1 (m.to,m.it)) ⟨R.sh*4294967296+R.fl.length,0,m.n⟩ (by omega) hk.2 Xm
  rw[<-lf]at ha KP⊢
  refine .inl ⟨_,fun _=>ha.ok,?_⟩
  generalize bj (b5 st1 (m.to,m.it)) ⟨R.sh*4294967296+((R.fl.map bB).length:Int),0,m.n⟩=nx at*
  refine⟨by kernel_rfl,abG (fun h=>?_) fun _=>?_⟩
  ·have:=abY h;rw[abH]at this;omega
  refine .inr (cl [0,1,2,3] (nS { R with st:=st1 } m.to m.it nx h1) (by kernel_rfl) rfl rfl ?_)
  refine .inl ⟨[bB (gG R s m tk [])],rfl,⟨aF (by rw[lf];rfl),aF (by rw[lp];rfl),rf,rf,rf,rf,rf,rf,rf,rf,DV.aK 1,tv⟩,(by simp;rfl),?_⟩
  refine .inr ⟨[bB (gG R s m tk [])],cd.refl _,bF (by simp[uZ];omega),by simp[uZ];omega,?_⟩
  refine⟨by kernel_rfl,ext (by kernel_rfl) rfl ?_⟩
  simp only[jN,ab0]
  rfl
 ·have ka:¬0<m.to:=abZ ka
  rw[if_neg ka]
  refine .inl ⟨[bB (gG R s m tk [])],rfl,⟨aF (by rw[lf];rfl),aF (by rw[lp];rfl),rf,rf,rf,rf,rf,rf,rf,rf,DV.aK 1,tv⟩,(by simp;rfl),?_⟩
  refine .inr ⟨[bB (gG R s m tk [])],cd.refl _,bF (by simp[uZ];omega),by simp[uZ];omega,?_⟩
  refine⟨by kernel_rfl,ext (by kernel_rfl) rfl ?_⟩
  simp only[jN,ab0]
  rfl
end
section
open Go.TM
def sd(fl:List qy)(st:Int):List Int:=(fl.filter fun f=>f.step==st&&f.to==0).map (·.id)
def wM(k:Int):Bool:=k==4||k==10
theorem Pp{fl:List qy}{st:Int}{j:Nat}{f:qy}(h:fl[j]?=some f):sd (fl.take (j+1)) st=sd (fl.take j) st++bif f.step==st&&f.to==0 then[f.id]else[]:=by
 unfold sd
 rw[abR,h,List.filter_append,ab0]
 congr 1
 cases hb:f.step==st&&f.to==0<;>simp[List.filter,hb]
theorem C5(fl:List qy)(st:Int):(sd fl st).length<=fl.length:=by
 unfold sd;rw[abH];exact List.length_filter_le _ _
variable [bG]
theorem LV(R:RL)(s:dW)(to it n:Int)(ps tk:List Lt)(hb:RB R)(Xm:0<=n/\n<=1099511627776)(h1:R.st.length<=1000)(hl:∀p∈R.st,p.2.length<=1000000)(hk:(b5 R.st (to,it)).length<4096/\∀y∈b5 R.st (to,it),0<=y.a/\y.a<=1099511627776/\0<=y.n/\y.n<=1099511627776)(ka:0<to)(e:Int)(he:e=if 1099511627776<cE R.st it+n then 4 else 0)
 (ht:ar Tryz.prog 87 [.ptr 0 0,.dv (I s.kind),cY (ak ⟨0,to,it,n,ps⟩)] 4 (dU R) 0 [.dv (aU tk),.dv (I 0)] (dU R)):ar Tryz.prog 54 [.ptr 0 0,cY (aP s),cY (ak ⟨0,to,it,n,ps⟩)] 4 (dU R) 0 [.dv (I e)] (if e=0 then jN 1 1 0 { R with st:=aS R.st (to,it) (bj (b5 R.st (to,it)) ⟨R.sh*4294967296+R.fl.length,0,n⟩),fl:=R.fl++[gG R s ⟨0,to,it,n,ps⟩ tk (bif wM s.kind then sd R.fl (R.sh*4294967296+R.sp.length)else[])] }else dU R):=by
 obtain⟨sa,hf,hn⟩:=hb
 refine cO Tryz.func54 rfl (by kernel_rfl) ?_
 have lf:(R.fl.map bB).length=R.fl.length:=abH ..
 have lp:(R.sp.map aP).length=R.sp.length:=abH ..
 have m1:-9223372036854775808<=R.sh*4294967296/\R.sh*4294967296<=9223372036854775807:=by omega
 have m2:-9223372036854775808<=R.sh*4294967296+((R.fl.map bB).length:Int)/\R.sh*4294967296+((R.fl.map bB).length:Int)<=9223372036854775807:=by omega
 have m3:-9223372036854775808<=R.sh*4294967296+((R.sp.map aP).length:Int)/\R.sh*4294967296+((R.sp.map aP).length:Int)<=9223372036854775807:=by omega
 refine⟨fun _=>m1,fun _=>m2,fun _=>m1,fun _=>m3,by kernel_rfl,?_⟩
 refine .inr (cl [0,1,2,3] ht (by kernel_rfl) rfl rfl ?_)
 refine abG (fun h=>by cases h) fun _=>?_
 refine⟨Nat,fun i=>⟨8,[(0,.ptr 0 0),(4,.ptr 4 0),(5,.ptr 5 0),(7,.ptr 6 0),(10,.dv (I i))],[(0,.cells (rlC R)),(1,.tree 0 0 (.aB 3 (R.st.map j8))),(2,.tree 0 0 (.aB 11 (R.fl.map bB))),(3,.tree 0 0 (.aB 7 (R.sp.map aP))),(4,.cells (fc (aP s).cells)),(5,.cells (fc (ak ⟨0,to,it,n,ps⟩).cells)),(6,.cells ([.dv (I (R.sh*4294967296+((R.fl.map bB).length:Int))),.dv (I (R.sh*4294967296+((R.sp.map aP).length:Int))),.dv (I s.kind),.dv (I s.tick),.dv (I s.gE),.dv (I 0),.dv (I to),.dv (I it),.dv (I n),.dv (aU tk),.own 7 0 0 []])),(7,.tree 0 0 (.aB 1 ((sd (R.fl.take i) (R.sh*4294967296+((R.sp.map aP).length:Int))).map I)))]⟩,fun i=>i<=R.fl.length/\(wM s.kind=false->i=0),fun i=>R.fl.length-i,0,fun _=>rfl,⟨⟨rfl,rfl,rfl,rfl,rf,tv⟩,⟨nR rfl,nR rfl,nR rfl,nR rfl,nR rfl,nR rfl,⟨rf,rf,rf,rf,rf,rf,rf,rf,rf,rf,⟨rfl,rfl,rfl,rfl,1,rfl⟩,tv⟩,⟨rfl,rfl,1,rfl⟩,tv⟩,rfl,rfl⟩,⟨abW _,fun _=>rfl⟩,?_⟩
 rintro i ⟨hi,BA⟩
 repeat first|apply g1|apply g2|apply g3|apply g4|apply g5
 refine abG ?_ ?_
 ·intro h
  have h:=eh h
  have au:i<R.fl.length:=by have:=abY (eh h.1).1;omega
  have hm:wM s.kind=true:=by
   have h2:=h.2
   unfold wM
   revert h2
   cases(s.kind==4)<;>simp
  obtain⟨x,hx⟩:∃x,R.fl[i]?=some x:=⟨_,aaj au⟩
  have ix:(R.fl.map bB)[(i:Int).toNat]?=some (bB x):=by rw[abJ];simp[hx]
  have ib:(0:Int)<=i/\(i:Int)<(R.fl.map bB).length:=⟨by omega,by omega⟩
  have dZ:=Pp (st:=R.sh*4294967296+((R.sp.map aP).length:Int)) hx
  have hml:=C5 (R.fl.take i) (R.sh*4294967296+((R.sp.map aP).length:Int))
  rw[ab2]at hml
  refine⟨fun _=>ib,bB x,fun _=>ix,?_⟩
  repeat first|apply g1|apply g2|apply g3|apply g4|apply g5
  refine⟨fun _=>ib,?_⟩
  repeat first|apply g1|apply g2|apply g3|apply g4|apply g5
  refine⟨bB x,fun _=>ix,?_⟩
  repeat first|apply g1|apply g2|apply g3|apply g4|apply g5
  refine⟨by kernel_rfl,abG (fun h=>?_) fun h=>?_⟩
  ·have e:(x.step==R.sh*4294967296+((R.sp.map aP).length:Int)&&x.to==0)=true:=by
    have h:=eh h
    rw[h.1,h.2];rfl
   rw[e]at dZ
   refine⟨fun _=>ib,bB x,fun _=>ix,?_⟩
   refine .inl ⟨[I x.id],rfl,⟨rf,tv⟩,(by simp;rfl),?_⟩
   refine .inr ⟨[I x.id],cd.refl _,bI (by simp only[abH,abU,List.length_cons,List.length_nil,ab2]at *; omega),by simp only[abH,abU,List.length_cons,List.length_nil,ab2]at *; omega,?_⟩
   refine⟨by kernel_rfl,?_⟩
   exact⟨fun _=>⟨by omega,by omega⟩,i+1,jn rfl (by simp only[dZ,ab0];rfl) rfl rfl,⟨by omega,fun hc=>(by rw[hm]at hc;cases hc)⟩,mlt au⟩
  ·have e:(x.step==R.sh*4294967296+((R.sp.map aP).length:Int)&&x.to==0)=false:=by
    have h:=mQ h
    rw[Bool.eq_false_iff];intro h2;exact h (by simpa using h2)
   rw[e]at dZ
   have dZ:sd (R.fl.take (i+1)) (R.sh*4294967296+((R.sp.map aP).length:Int))=sd (R.fl.take i) (R.sh*4294967296+((R.sp.map aP).length:Int)):=dZ.trans (List.append_nil _)
   exact⟨fun _=>⟨by omega,by omega⟩,i+1,jn rfl (by simp only[dZ];rfl) rfl rfl,⟨by omega,fun hc=>(by rw[hm]at hc;cases hc)⟩,mlt au⟩
 intro h
 have hd:sd (R.fl.take i) (R.sh*4294967296+((R.sp.map aP).length:Int))=bif wM s.kind then sd R.fl (R.sh*4294967296+((R.sp.map aP).length:Int))else[]:=by
  cases hm:wM s.kind with
  |false=>rw[BA hm];rfl
  |true=>
   have h:=mQ h
   have:¬i<R.fl.length:=fun au=>h ⟨by
    show(bif decide ((i:Int)<((R.fl.map bB).length:Nat))then true else false)=true
    rw[ab4 (by omega)];rfl,by
    show(bif s.kind==4 then true else s.kind==10)=true
    revert hm
    unfold wM
    cases(s.kind==4)<;>simp⟩
   rw[show i=R.fl.length by omega,abX];rfl
 have b1:=yW it R.st
 have b2:-9223372036854775808<=cE R.st it+n/\cE R.st it+n<=9223372036854775807:=by omega
 repeat first|apply g1|apply g2|apply g3|apply g4|apply g5
 refine .inr (cl [0,1,2,3] (Fz R it h1 hl) (by kernel_rfl) rfl rfl ?_)
 refine⟨rfl,?_⟩
 repeat first|apply g1|apply g2|apply g3|apply g4|apply g5
 refine⟨fun _=>b2,?_⟩
 repeat first|apply g1|apply g2|apply g3|apply g4|apply g5
 refine⟨by kernel_rfl,abG (fun hc=>?_) fun hc=>?_⟩
 ·have hc:1099511627776<cE R.st it+n:=by simpa using hc
  rw[if_pos hc]at he
  subst he
  exact ext (by kernel_rfl) rfl rfl
 have hc:¬1099511627776<cE R.st it+n:=by simpa using hc
 rw[if_neg hc]at he
 subst he
 rw[if_pos rfl]
 refine abG (fun _=>?_) fun h=>absurd ka (abZ h)
 refine .inr (cl [0,1,2,3] (ic R to it (by omega)) (by kernel_rfl) rfl rfl ?_)
 have KP:=fp (b5 R.st (to,it)) ⟨R.sh*4294967296+R.fl.length,0,n⟩
 have ha:=pC (b5 R.st (to,it)) ⟨R.sh*4294967296+R.fl.length,0,n⟩ (by omega) hk.2 Xm
 rw[<-lf]at ha KP⊢
 refine .inl ⟨_,fun _=>ha.ok,?_⟩
 generalize bj (b5 R.st (to,it)) ⟨R.sh*4294967296+((R.fl.map bB).length:Int),0,n⟩=nx at*
 refine⟨by kernel_rfl,abG (fun h=>?_) fun _=>?_⟩
 ·have:=abY h;rw[abH]at this;omega
 refine .inr (cl [0,1,2,3] (nS R to it nx (by omega)) (by kernel_rfl) rfl rfl ?_)
 rw[hd]
 refine .inl ⟨[bB (gG R s ⟨0,to,it,n,ps⟩ tk (bif wM s.kind then sd R.fl (R.sh*4294967296+((R.sp.map aP).length:Int))else[]))],rfl,⟨aF (by rw[lf];rfl),aF (by rw[lp];rfl),rf,rf,rf,rf,rf,rf,rf,rf,DV.Le.of_eq (by
  show DV.sl 1 (zQ ((bif wM s.kind then sd R.fl (R.sh*4294967296+((R.sp.map aP).length:Int))else[]).map I))=_
  rw[gK fun _=>rfl];rfl),tv⟩,(by simp;rfl),?_⟩
 refine .inr ⟨[bB (gG R s ⟨0,to,it,n,ps⟩ tk (bif wM s.kind then sd R.fl (R.sh*4294967296+((R.sp.map aP).length:Int))else[]))],cd.refl _,bF (by simp[uZ];omega),by simp[uZ];omega,?_⟩
 refine⟨by kernel_rfl,ext (by kernel_rfl) rfl ?_⟩
 rw[<-lp]
 simp only[jN,ab0]
 rfl
end
section
open Go.TM
def DY(R:RL)(k:Int)(m:fa):Int×List Lt×SM:=
 if 0<m.fr then
  if m.ps=[]then bif decide (b9 (b5 R.st (m.fr,m.it))<m.n)then(10,[],R.st)else(0,(fW (b5 R.st (m.fr,m.it)) m.n (wK m.it)).1,aS R.st (m.fr,m.it) (fW (b5 R.st (m.fr,m.it)) m.n (wK m.it)).2)
  else bif td m.ps (b5 R.st (m.fr,m.it))then(0,m.ps,aS R.st (m.fr,m.it) (J8 (b5 R.st (m.fr,m.it)) m.ps))else(10,[],R.st)
 else(if k=5 then u5 R.sh R.fl m.ps else if k=9 then u6 R.fl m.it m.ps else 0,if k=5\/k=9 then m.ps else[],R.st)
def cw(R:RL)(s:dW)(m:fa):Int×RL:=
 if(DY R s.kind m).1≠0 then((DY R s.kind m).1,R)
 else if m.fr=0/\1099511627776<cE R.st m.it+m.n then(4,R)
 else(0,{ R with
  st:=if 0<m.to then aS (DY R s.kind m).2.2 (m.to,m.it) (bj (b5 (DY R s.kind m).2.2 (m.to,m.it)) ⟨R.sh*4294967296+R.fl.length,0,m.n⟩)else(DY R s.kind m).2.2
  fl:=R.fl++[gG R s m (DY R s.kind m).2.1 (if m.fr=0 then bif wM s.kind then sd R.fl (R.sh*4294967296+R.sp.length)else[]else[])] })
structure RG(R:RL):Prop where
 sh:0<=R.sh/\R.sh<=1000
 fl:R.fl.length<=900000
 sp:R.sp.length<=900000
 st:R.st.length<=900
 yZ:∀p∈R.st,(∀x∈p.2,aO x=true)/\p.2.length<=4000
 ps:∀f∈R.fl,f.ps.length<=200
theorem Kb{m:SM}{k:Ky}(h:b5 m k≠[]):(k,b5 m k)∈m:=by
 unfold b5 at h⊢
 cases hg:aR m k with
 |none=>rw[hg]at h;exact absurd rfl h
 |some x=>exact mO hg
theorem RG.th{R:RL}(h:RG R)(k:Ky):(∀x∈b5 R.st k,aO x=true)/\(b5 R.st k).length<=4000:=by
 by_cases hs:b5 R.st k=[]
 ·rw[hs];exact⟨fun x hx=>(by cases hx),abW _⟩
 ·exact h.yZ _ (Kb hs)
theorem RG.val{R:RL}(h:RG R)(k:Ky):cg (b5 R.st k)=true:=by
 have:=h.th k
 simp only[cg,acj,ab6,decide_eq_true_eq]
 exact⟨this.1,by omega⟩
theorem iN(m:SM)(k k':Ky)(l:List Lt):b5 (aS m k l) k'=if k=k' then l else b5 m k':=by
 unfold b5;rw[lk];split<;>rfl
theorem y1{κ β:Type}[DecidableEq κ](m:List (κ×β))(k:κ)(x:β):(aS m k x).length<=m.length+1:=by
 have:=congrArg List.length (uU m k x)
 rw[abH]at this
 split at this<;>simp at this<;>omega
variable [bG]
theorem Ih{f:Nat}{args rs:List AV}{K:ae}(R:RL)(h:ar Tryz.prog f args 4 K 0 rs (dU R)):ar Tryz.prog f args 4 K 0 rs (jN 1 1 0 R):=by
 refine rO (i:=2) (e0:=0) (K1:=jN 1 0 0 R) (rO (i:=1) (e0:=0) (K1:=dU R) h (by omega) ⟨_,rfl,rfl,fun j hj=>?_⟩) (by omega) ⟨_,rfl,rfl,fun j hj=>?_⟩
 ·match j,hj with
  |0,_=>exact .cells (.same _ (.same _ (.same _ (.same _ (.same _ (.sb (.same _ (.same _ .nil))))))))
  |2,_=>exact .refl _
  |3,_=>exact .refl _
  |j+4,_=>exact .refl _
 ·match j,hj with
  |0,_=>exact .cells (.same _ (.same _ (.same _ (.same _ (.same _ (.same _ (.sb (.same _ .nil))))))))
  |1,_=>exact .refl _
  |3,_=>exact .refl _
  |j+4,_=>exact .refl _
theorem y2(R:RL)(s:dW)(m:fa)(hR:RG R)(hm:eG m=true)(hp:m.ps.length<=20)(hb:s.kind=5->∀x∈m.ps,0<=x.f/\x.f<=9223372036854775807):ar Tryz.prog 54 [.ptr 0 0,cY (aP s),cY (ak m)] 4 (dU R) 0 [.dv (I (cw R s m).1)] (jN 1 1 0 (cw R s m).2):=by
 have hB:RB R:=⟨hR.sh,hR.fl,hR.sp⟩
 have hbm:=abY hm
 have hs:=hR.th (m.fr,m.it)
 have ai:=hR.th (m.to,m.it)
 have Xf:∀y∈b5 R.st (m.to,m.it),0<=y.a/\y.a<=1099511627776/\0<=y.n/\y.n<=1099511627776:=fun y hy=>by
  have:=ax.1 (ai.1 y hy);omega
 have hle:=hR.st
 by_cases dQ:0<m.fr
 ·have b7:∀l,b5 (aS R.st (m.fr,m.it) l) (m.to,m.it)=b5 R.st (m.to,m.it):=fun l=>by
   rw[iN,if_neg];intro h;injection h with h1;omega
  have Sz:∀l,(aS R.st (m.fr,m.it) l).length<=100000:=fun l=>by have:=y1 R.st (m.fr,m.it) l;omega
  have fin:∀(tk l:List Lt),DY R s.kind m=(0,tk,aS R.st (m.fr,m.it) l)->ar Tryz.prog 87 [.ptr 0 0,.dv (I s.kind),cY (ak m)] 4 (dU R) 0 [.dv (aU tk),.dv (I 0)] (jN 1 0 0 (uZ R (m.fr,m.it) l))->ar Tryz.prog 54 [.ptr 0 0,cY (aP s),cY (ak m)] 4 (dU R) 0 [.dv (I (cw R s m).1)] (jN 1 1 0 (cw R s m).2):=fun tk l e ht=>by
   have:=LU R (aS R.st (m.fr,m.it) l) s m tk dQ hB (by omega) (Sz l) (by rw[b7];exact⟨by omega,Xf⟩) ht
   unfold cw
   rw[e,if_neg (by simp),if_neg (by omega),if_neg (by omega:¬m.fr=0)]
   exact this
  have err:DY R s.kind m=(10,[],R.st)->ar Tryz.prog 87 [.ptr 0 0,.dv (I s.kind),cY (ak m)] 4 (dU R) 0 [.dv (aU []),.dv (I 10)] (dU R)->ar Tryz.prog 54 [.ptr 0 0,cY (aP s),cY (ak m)] 4 (dU R) 0 [.dv (I (cw R s m).1)] (jN 1 1 0 (cw R s m).2):=fun e ht=>by
   unfold cw
   rw[e,if_pos (by simp)]
   exact Ih R (Bz R s m 10 [] (by omega) hB ht)
  by_cases lP:m.ps=[]
  ·have ht:=LQ R s.kind m dQ lP (by omega) (by omega) (by omega) (hR.val _)
   have e:DY R s.kind m=bif decide (b9 (b5 R.st (m.fr,m.it))<m.n)then(10,[],R.st)else(0,(fW (b5 R.st (m.fr,m.it)) m.n (wK m.it)).1,aS R.st (m.fr,m.it) (fW (b5 R.st (m.fr,m.it)) m.n (wK m.it)).2):=by
    unfold DY;rw[if_pos dQ,if_pos lP]
   cases hc:decide (b9 (b5 R.st (m.fr,m.it))<m.n)<;>rw[hc]at ht e
   ·exact fin _ _ e ht
   ·exact err e ht
  ·have hz:m.ps.length*((b5 R.st (m.fr,m.it)).length+1)<=20*4001:=Nat.mul_le_mul hp (by omega)
   have hz2:(b5 R.st (m.fr,m.it)).length*(m.ps.length+1)<=4000*21:=Nat.mul_le_mul (by omega) (by omega)
   have ht:=LP R s.kind m dQ lP (by omega) (by omega) (by omega) (by omega) (by omega)
   have e:DY R s.kind m=bif td m.ps (b5 R.st (m.fr,m.it))then(0,m.ps,aS R.st (m.fr,m.it) (J8 (b5 R.st (m.fr,m.it)) m.ps))else(10,[],R.st):=by
    unfold DY;rw[if_pos dQ,if_neg lP]
   cases hc:td m.ps (b5 R.st (m.fr,m.it))<;>rw[hc]at ht e
   ·exact err e ht
   ·exact fin _ _ e ht
 ·have rP:m.fr=0:=by omega
  have ht:=LR R s.kind m dQ (by omega) (by have:=hR.fl;omega) hR.ps hb
  have e:DY R s.kind m=(if s.kind=5 then u5 R.sh R.fl m.ps else if s.kind=9 then u6 R.fl m.it m.ps else 0,if s.kind=5\/s.kind=9 then m.ps else[],R.st):=by
   unfold DY;rw[if_neg dQ]
  generalize (if s.kind=5 then u5 R.sh R.fl m.ps else if s.kind=9 then u6 R.fl m.it m.ps else 0)=er at*
  generalize (if s.kind=5\/s.kind=9 then m.ps else[])=tk at*
  unfold cw
  rw[e]
  by_cases he:er=0
  ·subst he
   rcases m with⟨fr,to,it,n,ps⟩
   dsimp only at*
   subst rP
   have h0:=LV R s to it n ps tk hB (by omega) (by omega) (fun p hp=>by have:=(hR.yZ p hp).2;omega) ⟨by omega,Xf⟩ (by omega) _ rfl ht
   rw[if_neg (by simp)]
   by_cases hc:1099511627776<cE R.st it+n
   ·rw[if_pos ⟨rfl,hc⟩]
    rw[if_pos hc,if_neg (by omega)]at h0
    exact Ih R h0
   ·rw[if_neg (fun h=>hc h.2),if_pos (by omega),if_pos rfl]
    rw[if_neg hc,if_pos rfl]at h0
    exact h0
  ·rw[if_pos he]
   exact Ih R (Bz R s m er tk he hB ht)
end
section
open Go.TM
theorem Kc:∀(l:List Int) (i:Nat),i<l.length->(kp l i).sum=l.sum+1
 |a::l,0,_=>by simp[kp];omega
 |a::l,i+1,h=>by
  have:=Kc l i (by simpa using h)
  unfold kp at*
  simp only[List.set_cons_succ,List.sum_cons,List.getD_cons_succ]
  omega
theorem FC:∀(o:List Nat) (l:List Int),(∀i∈o,i<l.length)->(o.foldl kp l).sum=l.sum+o.length
 |[],l,_=>by simp
 |i::o,l,h=>by
  rw[List.foldl_cons,FC o _ fun k hk=>by rw[xa];exact h k (abP _ hk),Kc l i (h i abT),List.length_cons]
  omega
theorem Pq{rs qs:List Int}(hl:qs.length=rs.length){m:Nat}(hm:m<=rs.length):(plus rs qs m).sum=qs.sum+m:=by
 obtain⟨o,ho⟩:=HW rs
 rw[<-yH ho hl m,FC _ _ fun i hi=>?_,ab2,ho.len]
 ·congr 2;omega
 ·have:=ho.perm.mem_iff.1 (List.mem_of_mem_take hi)
  rw[aca]at this;omega
theorem SC{t:Int}{ws:List Int}(hs:0<ws.sum):(zR t ws).sum=t:=by
 have h:=xb (t:=t) hs
 have hc:(rL t ws.sum ws).countP (fun x=>decide (0<x))<=(rL t ws.sum ws).length:=List.countP_le_length
 unfold zR
 rw[Pq (by simp[qL,rL]) (by omega)]
 have:(((fV t ws.sum ws).toNat:Nat):Int)=fV t ws.sum ws:=by omega
 rw[this]
 unfold fV;omega
theorem Pr{s:List Lt}{n:Int}(mx:Bool)(hn:0<=n)(hs:∀x∈s,0<=x.n)(ht:n<=dD s):(qx s n mx).sum=n:=by
 unfold qx
 by_cases h:0<n
 ·cases mx with
  |true=>
   rw[ab4 h]
   exact SC (show 0<(s.map (·.n)).sum by rw[pD];omega)
  |false=>exact(yR hn hs).2.2 ht
 ·rw[ab5 h,Bool.and_false]
  exact(yR hn hs).2.2 ht
theorem Kd{s:List Lt}{ks:List Int}(hk:ks.length=s.length):∀i,i<=s.length->dD (mo s ks i).1=(ks.take i).sum/\dD (mo s ks i).2=dD (s.take i)-(ks.take i).sum
 |0,_=>by simp[mo,dD]
 |i+1,h=>by
  obtain⟨h1,h2⟩:=Kd hk i (by omega)
  obtain⟨x,hx⟩:∃x,s[i]?=some x:=⟨_,aaj (show i<s.length by omega)⟩
  obtain⟨k,A1⟩:∃k,ks[i]?=some k:=⟨_,aaj (show i<ks.length by omega)⟩
  rw[yS hx A1,uW hx,abR,A1,List.sum_append]
  unfold tkF
  simp only[Ff,Option.toList_some,List.sum_cons,List.sum_nil]
  omega
theorem FD{s:List Lt}{n:Int}(mx:Bool)(hn:0<=n)(hs:∀x∈s,aO x=true)(ht:n<=dD s):dD (fW s n mx).1=n/\dD (fW s n mx).2=dD s-n:=by
 have hc:=(CX mx hn hs ht).1
 have h:=Kd hc s.length (acb _)
 rw[abX,<-hc,abX,Pr mx hn (fun x hx=>(mR (hs x hx)).1) ht,hc]at h
 exact h
theorem Ke{s:List Lt}{n:Int}(mx:Bool)(hn:0<=n)(hs:∀x∈s,aO x=true)(ht:n<=dD s):(∀y∈(fW s n mx).1,aO y=true)/\(∀y∈(fW s n mx).2,aO y=true)/\(fW s n mx).1.length<=s.length/\(fW s n mx).2.length<=s.length:=
 H4 hs (CX mx hn hs ht) s.length (acb _)
end
section
open Go.TM
theorem y3{κ β:Type}[DecidableEq κ]{m:List (κ×β)}{k:κ}{x:β}{p:κ×β}(h:p∈aS m k x):p=(k,x)\/p∈m:=by
 induction m with
 |nil=>exact .inl (abN.1 h)
 |cons q r ih=>
  obtain⟨a,v⟩:=q
  simp only[aS]at h
  split at h
  ·rcases abO.1 h with h|h
   ·exact .inl h
   ·exact .inr (abP _ h)
  ·rcases abO.1 h with h|h
   ·exact .inr (by rw[h];exact abT)
   ·exact(ih h).imp id (abP _)
theorem LW{κ β:Type}[DecidableEq κ]{m:List (κ×β)}{k:κ}{x y:β}(h:aR m k=some y):(aS m k x).length=m.length:=by
 have:=congrArg List.length (uU m k x)
 rw[if_pos (ab9.2 ⟨_,mO h,rfl⟩),abH,abH]at this
 exact this
theorem tl:b9 []=0:=rfl
theorem tn(it:Int)(l:List Lt)(k:Ky):∀m:SM,cE (aS m k l) it=cE m it+if k.2=it then b9 l-b9 (b5 m k)else 0
 |[]=>by
  simp only[aS,cE,Ao,b5,aR,List.map_cons,List.map_nil,List.sum_cons,List.sum_nil,Option.getD_none,tl]
  split<;>omega
 |(q,v)::r=>by
  have ih:=tn it l k r
  unfold aS
  by_cases e:q=k
  ·subst e
   rw[if_pos rfl]
   simp only[cE,Ao,b5,aR,List.map_cons,List.sum_cons,if_pos,Option.getD_some]
   split<;>omega
  ·rw[if_neg e]
   have:b5 ((q,v)::r) k=b5 r k:=by unfold b5;simp only[aR];rw[if_neg e]
   rw[this]
   simp only[cE,List.map_cons,List.sum_cons]at*
   rw[ih];omega
theorem lx{s:List Lt}(h:cg s=true):b9 s=dD s:=by unfold b9;rw[h];rfl
theorem gz{l:List Lt}(h:∀x∈l,aO x=true)(h2:l.length<=4096):cg l=true:=by
 simp only[cg,acj,ab6,decide_eq_true_eq];exact⟨h,h2⟩
structure Good(R:RL):Prop where
 sh:0<=R.sh/\R.sh<=11
 sp:R.sp.length<=40
 fl:R.fl.length<=160
 nk:Nk R.st
 st:R.st.length<=R.fl.length
 yZ:∀p∈R.st,(∀x∈p.2,aO x=true)/\p.2.length<=R.fl.length
 tb:∀it,cE R.st it<=1099511627776
 Rc:∀f∈R.fl,f.ps.length<=160/\f.md.length<=160/\R.sh*4294967296<=f.id/\f.id<R.sh*4294967296+R.fl.length/\f.step<=R.sh*4294967296+R.sp.length/\(f.kind=5->∃g,0<=g/\f.ps=[⟨g,0,3⟩])
theorem Good.rg{R:RL}(h:Good R):RG R where
 sh:=by have:=h.sh;omega
 fl:=by have:=h.fl;omega
 sp:=by have:=h.sp;omega
 st:=by have:=h.fl;have:=h.st;omega
 yZ p hp:=⟨(h.yZ p hp).1,by have:=h.fl;have:=(h.yZ p hp).2;omega⟩
 ps f hf:=by have:=(h.Rc f hf).1;omega
theorem Good.th{R:RL}(h:Good R)(k:Ky):(∀x∈b5 R.st k,aO x=true)/\(b5 R.st k).length<=R.fl.length:=by
 by_cases hs:b5 R.st k=[]
 ·rw[hs];exact⟨fun x hx=>(by cases hx),abW _⟩
 ·exact h.yZ _ (Kb hs)
structure Ap(sh:Int)(s:dW)(m:fa):Prop where
 base:eG m=true
 ps:(s.kind=5/\m.fr=0/\∃g,0<=g/\g<=9223372036854775807/\m.ps=[⟨g,0,3⟩])\/(s.kind=9/\m.fr=0/\∃g,0<=g/\g<=9223372036854775807/\m.ps=[⟨g,0,3⟩]/\(g-sh*4294967296<0\/1000<=g-sh*4294967296))\/(s.kind≠5/\s.kind≠9/\m.ps=[])
theorem xc(R:RL)(s:dW)(m:fa)(hf:0<m.fr)(hp:m.ps=[]):cw R s m=if b9 (b5 R.st (m.fr,m.it))<m.n then(10,R)else(0,{ R with
 st:=if 0<m.to then aS (aS R.st (m.fr,m.it) (fW (b5 R.st (m.fr,m.it)) m.n (wK m.it)).2) (m.to,m.it) (bj (b5 (aS R.st (m.fr,m.it) (fW (b5 R.st (m.fr,m.it)) m.n (wK m.it)).2) (m.to,m.it)) ⟨R.sh*4294967296+R.fl.length,0,m.n⟩)else aS R.st (m.fr,m.it) (fW (b5 R.st (m.fr,m.it)) m.n (wK m.it)).2
 fl:=R.fl++[gG R s m (fW (b5 R.st (m.fr,m.it)) m.n (wK m.it)).1 []] }):=by
 have e:DY R s.kind m=bif decide (b9 (b5 R.st (m.fr,m.it))<m.n)then(10,[],R.st)else(0,(fW (b5 R.st (m.fr,m.it)) m.n (wK m.it)).1,aS R.st (m.fr,m.it) (fW (b5 R.st (m.fr,m.it)) m.n (wK m.it)).2):=by
  unfold DY;rw[if_pos hf,if_pos hp]
 unfold cw
 rw[e]
 by_cases hc:b9 (b5 R.st (m.fr,m.it))<m.n
 ·rw[ab4 hc,if_pos hc];exact if_pos (by simp)
 ·rw[ab5 hc,if_neg hc]
  simp only[cond_false]
  rw[if_neg (by simp),if_neg (by omega),if_neg (by omega:¬m.fr=0)]
def zT(R:RL)(k:Int)(m:fa):Int:=if k=5 then u5 R.sh R.fl m.ps else if k=9 then u6 R.fl m.it m.ps else 0
theorem C6(R:RL)(s:dW)(m:fa)(hf:m.fr=0)(ht:0<m.to):cw R s m=if zT R s.kind m≠0 then(zT R s.kind m,R)else if 1099511627776<cE R.st m.it+m.n then(4,R)else(0,{ R with
 st:=aS R.st (m.to,m.it) (bj (b5 R.st (m.to,m.it)) ⟨R.sh*4294967296+R.fl.length,0,m.n⟩)
 fl:=R.fl++[gG R s m (if s.kind=5\/s.kind=9 then m.ps else[]) (bif wM s.kind then sd R.fl (R.sh*4294967296+R.sp.length)else[])] }):=by
 have e:DY R s.kind m=(zT R s.kind m,if s.kind=5\/s.kind=9 then m.ps else[],R.st):=by
  unfold DY zT;rw[if_neg (by omega)]
 unfold cw
 rw[e]
 simp only[hf,true_and,if_true,if_pos ht]
theorem y4{l:List Lt}{x:Lt}{n:Nat}(hl:(∀y∈l,aO y=true)/\l.length<=n)(hx:0<=x.f/\0<=x.a/\1<=x.n/\x.a+x.n<=1099511627776)(hn:n<=4000):((∀y∈bj l x,aO y=true)/\(bj l x).length<=n+1)/\b9 (bj l x)=b9 l+x.n:=by
 have h1:=hZ hl.1 (x:=x) ⟨hx.1,hx.2.1,by omega,hx.2.2.2⟩
 have h2:=fp l x
 refine⟨⟨h1,by omega⟩,?_⟩
 rw[lx (gz h1 (by omega)),lx (gz hl.1 (by omega)),Ff]
theorem C7{R:RL}{s:dW}{m:fa}(hG:Good R)(hl:R.fl.length+1<=160)(hm:Ap R.sh s m)(h0:(cw R s m).1=0):
 Good (cw R s m).2/\(cw R s m).2.fl.length=R.fl.length+1/\∀j,cE (cw R s m).2.st j=if m.it=j then cE R.st j+(if m.fr=0 then m.n else 0)-(if m.to=0 then m.n else 0)else cE R.st j:=by
 have hb:=abY hm.base
 have hS:=hG.th (m.fr,m.it)
 have sa:=hG.sh
 have oH:=hG.fl
 have vJ:0<=R.sh*4294967296+R.fl.length:=by omega
 have Rc:∀f,(f.ps.length<=160/\f.md.length<=160/\f.id=R.sh*4294967296+R.fl.length/\f.step=R.sh*4294967296+R.sp.length/\(f.kind=5->∃g,0<=g/\f.ps=[⟨g,0,3⟩]))->∀x∈R.fl++[f],x.ps.length<=160/\x.md.length<=160/\R.sh*4294967296<=x.id/\x.id<R.sh*4294967296+(R.fl++[f]).length/\x.step<=R.sh*4294967296+R.sp.length/\(x.kind=5->∃g,0<=g/\x.ps=[⟨g,0,3⟩]):=by
  intro f hf x hx
  rw[abU,List.length_singleton]
  rcases abQ.1 hx with hx|hx
  ·obtain⟨a1,a2,a3,a4,a5,a6⟩:=hG.Rc x hx
   exact⟨a1,a2,a3,by omega,a5,a6⟩
  ·rw[abN]at hx;subst hx
   obtain⟨a1,a2,a3,a4,a5⟩:=hf
   exact⟨a1,a2,by omega,by omega,by omega,a5⟩
 by_cases dQ:0<m.fr
 ·have hk:s.kind≠5/\m.ps=[]:=by
   rcases hm.ps with h|h|h
   ·omega
   ·omega
   ·exact⟨h.1,h.2.2⟩
  rw[xc R s m dQ hk.2]at h0⊢
  by_cases hc:b9 (b5 R.st (m.fr,m.it))<m.n
  ·rw[if_pos hc]at h0;cases h0
  rw[if_neg hc]
  have hv:=gz hS.1 (by omega)
  have hn:m.n<=dD (b5 R.st (m.fr,m.it)):=by rw[lx hv]at hc;omega
  obtain⟨t1,t2,t3,t4⟩:=Ke (wK m.it) (by omega:0<=m.n) hS.1 hn
  have ts:=(FD (wK m.it) (by omega:0<=m.n) hS.1 hn).2
  generalize fW (b5 R.st (m.fr,m.it)) m.n (wK m.it)=tk at*
  have hex:∃y,aR R.st (m.fr,m.it)=some y:=by
   cases hg:aR R.st (m.fr,m.it)with
   |some y=>exact⟨y,rfl⟩
   |none=>
    have:b5 R.st (m.fr,m.it)=[]:=by unfold b5;rw[hg];rfl
    rw[this,tl]at hc;omega
  obtain⟨y,hy⟩:=hex
  have b7:b5 (aS R.st (m.fr,m.it) tk.2) (m.to,m.it)=b5 R.st (m.to,m.it):=by
   rw[iN,if_neg];intro h;injection h with h1;omega
  have Ze:∀j,cE (aS R.st (m.fr,m.it) tk.2) j=cE R.st j+if m.it=j then -m.n else 0:=by
   intro j
   rw[tn,lx (gz t2 (by omega)),lx hv,ts]
   split<;>omega
  have hT:=y4 (x:=⟨R.sh*4294967296+R.fl.length,0,m.n⟩) (hG.th (m.to,m.it)) ⟨vJ,by simp,by simp only;omega,by simp only;omega⟩ (by omega)
  have l1:=LW (x:=tk.2) hy
  have l2:=y1 (aS R.st (m.fr,m.it) tk.2) (m.to,m.it) (bj (b5 R.st (m.to,m.it)) ⟨R.sh*4294967296+R.fl.length,0,m.n⟩)
  have ai:=hG.st
  have LX:∀j,cE (if 0<m.to then aS (aS R.st (m.fr,m.it) tk.2) (m.to,m.it) (bj (b5 R.st (m.to,m.it)) ⟨R.sh*4294967296+R.fl.length,0,m.n⟩)else aS R.st (m.fr,m.it) tk.2) j=if m.it=j then cE R.st j+(if m.fr=0 then m.n else 0)-(if m.to=0 then m.n else 0)else cE R.st j:=by
   intro j
   rw[if_neg (by omega:¬m.fr=0)]
   by_cases ka:0<m.to
   ·rw[if_pos ka,if_neg (by omega:¬m.to=0),tn,Ze,b7,hT.2]
    simp only
    split<;>omega
   ·rw[if_neg ka,if_pos (by omega:m.to=0),Ze]
    split<;>omega
  rw[b7]
  refine⟨⟨sa,hG.sp,by simp only[abU,List.length_singleton];omega,?_,?_,?_,?_,?_⟩,by simp only[abU,List.length_singleton],LX⟩
  ·simp only
   split
   ·exact(hG.nk.put _ _).put _ _
   ·exact hG.nk.put _ _
  ·simp only[abU,List.length_singleton]
   split<;>omega
  ·intro p hp
   simp only[abU,List.length_singleton]at hp⊢
   have h1:p∈aS R.st (m.fr,m.it) tk.2->(∀x∈p.2,aO x=true)/\p.2.length<=R.fl.length+1:=fun hp=>by
    rcases y3 hp with rfl|hp
    ·exact⟨t2,by simp only;omega⟩
    ·exact⟨(hG.yZ p hp).1,by have:=(hG.yZ p hp).2;omega⟩
   split at hp
   ·rcases y3 hp with rfl|hp
    ·exact⟨hT.1.1,hT.1.2⟩
    ·exact h1 hp
   ·exact h1 hp
  ·intro j
   have:=LX j
   have:=hG.tb j
   simp only at*
   rw[LX j]
   split
   ·rw[if_neg (by omega:¬m.fr=0)]
    split<;>omega
   ·omega
  ·exact Rc _ ⟨by simp only[gG];omega,by simp[gG],rfl,rfl,fun h=>absurd h hk.1⟩
 ·have rP:m.fr=0:=by omega
  have ka:0<m.to:=by omega
  rw[C6 R s m rP ka]at h0⊢
  by_cases he:zT R s.kind m≠0
  ·rw[if_pos he]at h0;exact absurd h0 he
  rw[if_neg he]at h0⊢
  by_cases hc:1099511627776<cE R.st m.it+m.n
  ·rw[if_pos hc]at h0;cases h0
  rw[if_neg hc]
  have hT:=y4 (x:=⟨R.sh*4294967296+R.fl.length,0,m.n⟩) (hG.th (m.to,m.it)) ⟨vJ,by simp,by simp only;omega,by simp only;omega⟩ (by omega)
  have l2:=y1 R.st (m.to,m.it) (bj (b5 R.st (m.to,m.it)) ⟨R.sh*4294967296+R.fl.length,0,m.n⟩)
  have ai:=hG.st
  have LX:∀j,cE (aS R.st (m.to,m.it) (bj (b5 R.st (m.to,m.it)) ⟨R.sh*4294967296+R.fl.length,0,m.n⟩)) j=if m.it=j then cE R.st j+(if m.fr=0 then m.n else 0)-(if m.to=0 then m.n else 0)else cE R.st j:=by
   intro j
   rw[if_pos rP,if_neg (by omega:¬m.to=0),tn,hT.2]
   simp only
   split<;>omega
  refine⟨⟨sa,hG.sp,by simp only[abU,List.length_singleton];omega,hG.nk.put _ _,?_,?_,?_,?_⟩,by simp only[abU,List.length_singleton],LX⟩
  ·simp only[abU,List.length_singleton]
   omega
  ·intro p hp
   simp only[abU,List.length_singleton]at hp⊢
   rcases y3 hp with rfl|hp
   ·exact⟨hT.1.1,hT.1.2⟩
   ·exact⟨(hG.yZ p hp).1,by have:=(hG.yZ p hp).2;omega⟩
  ·intro j
   have:=hG.tb j
   simp only at*
   rw[LX j]
   split
   ·rename_i e;subst e
    (repeat' split)<;>omega
   ·omega
  ·have h1:(bif wM s.kind then sd R.fl (R.sh*4294967296+R.sp.length)else[]).length<=160:=by
    have:=C5 R.fl (R.sh*4294967296+R.sp.length)
    cases wM s.kind
    ·exact abW _
    ·exact Nat.le_trans this (by omega)
   refine Rc _ ⟨?_,h1,rfl,rfl,?_⟩
   ·simp only[gG]
    rcases hm.ps with⟨h,_,g,_,_,h2⟩|⟨h,_,g,_,_,h2,_⟩|⟨h,h3,h2⟩
    ·rw[if_pos (.inl h),h2];simp
    ·rw[if_pos (.inr h),h2];simp
    ·rw[h2];split<;>simp
   ·intro h
    rcases hm.ps with⟨_,_,g,g0,_,h2⟩|⟨h9,_⟩|⟨h5,_⟩
    ·exact⟨g,g0,by simp only[gG];rw[if_pos (.inl h),h2]⟩
    ·rw[show s.kind=5 from h]at h9;cases h9
    ·exact absurd h h5
end
end Go.Proofs.YtknnpcfhekkjjaaGreatDoor
