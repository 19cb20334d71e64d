import Derived.Test.YtmojfblpbcficaaGreatDoorCM33
import Derived.Test.YtmojfblpbcficaaGreatDoorCM38
set_option linter.all false
open Go.TM.oA Go.TM.oB Go.TM.oC Go.TM.oD Go.TM.oE
namespace Go.Proofs.YtmojfblpbcficaaGreatDoor
set_option maxRecDepth 100000
set_option maxHeartbeats 4000000
open Go.TM
def RQ(P:PL)(c:Ch)(x:Lt):Int:=if(kp [x] ((sn c.ret P.ret x.f).getD [])).1=[]then 0 else 10
def QA(P:PL)(c:Ch)(x:Lt):Ch:=if(kp [x] ((sn c.ret P.ret x.f).getD [])).1=[]then { c with ret:=aI c.ret x.f (cL ((sn c.ret P.ret x.f).getD []++[x])) }else c
theorem Xa(x:Lt):(az x).aU:=fun d hd=>by
 have hd:d∈[I x.f,I x.a,I x.n]:=hd
 simp only[acp,List.mem_nil_iff,or_false]at hd
 rcases hd with rfl|rfl|rfl<;>rfl
variable [bp]
theorem MD(P:PL)(c:Ch)(m:di)(x:Lt)(f:gC)(hp:m.ps=[x])(hx:aD x=true)(hxf:x.f<=9223372036854775807)(hs:0<=P.sh/\P.sh<=12)(oF:0<=x.f-P.sh*4294967296)(hf:P.fl[(x.f-P.sh*4294967296).toNat]?=some f)(cw:f.to=0/\f.kind≠6/\f.it=m.it/\x.a+x.n<=f.n)
 (hq:∀l,sn c.ret P.ret x.f=some l->l≠[]/\NS l/\(∀y∈l,aD y=true)/\l.length<=4000):
 ao Tryz.prog 211 [.ptr 0 0,cF (aq m)] 14 (dI 0 0 P c) 0 [.dv (I (RQ P c x))] (dI 0 0 P (QA P c x)):=by
 have lp:(m.ps.map az).length=1:=by rw[hp];rfl
 have ix:(m.ps.map az)[(0:Int).toNat]?=some (az x):=by rw[hp];rfl
 have lf:(P.fl.map aM).length=P.fl.length:=ach ..
 have hb:=ai.1 hx
 have lT:=(aci.1 hf).1
 have hfi:(P.fl.map aM)[(x.f-P.sh*4294967296).toNat]?=some (aM f):=by rw[acj,hf];rfl
 refine cO Tryz.func211 rfl (by kernel_rfl) ?_
 repeat refine gG ?_
 refine⟨Nat,fun i=>⟨15,[(0,.ptr 0 0),(3,.ptr 14 0),(13,.dv (.sl 3 (m.ps.map az))),(14,.dv (I (m.ps.map az).length)),(15,.dv (I i))],dI 0 0 P (match i with|0=>c|_=>QA P c x)++[(14,.cells (eV (aq m).cells))]⟩,fun i=>i<=1/\(i=1->RQ P c x=0),fun i=>1-i,0,fun _=>rfl,jn rfl rfl rfl rfl,by omega,?_⟩
 rintro i ⟨hi,hz⟩
 refine acg ?_ ?_
 ·intro h
  have h0:i=0:=by have:=acA h;omega
  subst h0
  refine⟨az x,fun _=>⟨by omega,ix⟩,?_⟩
  repeat first|refine gG ?_|refine⟨fun _=>by omega,?_⟩
  refine acg (by kernel_rfl) ?_
  repeat refine gG ?_
  refine acg (fun h=>?_) fun _=>?_
  ·rw[lf]at h;simp at h;omega
  refine⟨fun _=>⟨oF,by rw[lf];omega⟩,aM f,fun _=>hfi,?_⟩
  repeat first|refine gG ?_|refine⟨fun _=>by omega,?_⟩
  refine acg (fun h=>?_) fun _=>?_
  ·simp[cw.1,cw.2.1,cw.2.2.1]at h;omega
  refine .inr (cl [4,13] (zd c.ret P.ret x.f) (by kernel_rfl) rfl rfl ?_)
  cases hu:sn c.ret P.ret x.f with
  |some l=>
   refine acg (by kernel_rfl) ?_
   refine .inl ⟨[az x],rfl,⟨rf,rf,rf,tv⟩,(by simp;rfl),?_⟩
   obtain⟨q0,q1,q2,q3⟩:=hq l hu
   have lS:l.length+1<=4001:=by omega
   refine .inl ⟨_,fun _=>(jU [x] l (by simpa using hx) q1 q2 (by simp) (by omega) (by simp;omega)).ok,?_⟩
   repeat refine gG ?_
   refine acg (fun h=>?_) fun h=>?_
   ·have he:¬(kp [x] ((sn c.ret P.ret x.f).getD [])).1=[]:=by
     rw[hu,Option.getD_some];intro e;rw[e]at h;cases h
    rw[show RQ P c x=10 from if_neg he,show QA P c x=c from if_neg he]
    exact ext (by kernel_rfl) rfl rfl
   have he:(kp [x] ((sn c.ret P.ret x.f).getD [])).1=[]:=by
    rw[hu,Option.getD_some]
    have h:¬(0:Int)<((kp [x] l).1.map az).length:=acB h
    rw[ach]at h
    exact List.length_eq_zero_iff.1 (by omega)
   have e1:RQ P c x=0:=if_pos he
   have e2:QA P c x={ c with ret:=aI c.ret x.f (cL (l++[x])) }:=by unfold QA;rw[if_pos he,hu];rfl
   rw[e1,e2]
   refine .inl ⟨_,fun _=>(I2 l q0).ok,?_⟩
   refine .inl ⟨[az x],rfl,⟨rf,rf,rf,tv⟩,(by simp;rfl),?_⟩
   refine .inl ⟨[az x],ca.refl _,(fun y hy d hd=>by rw[aco]at hy;subst hy;exact Xa x d hd),by simp,bL (n:=(l.map az).length+[az x].length) (by simp;omega),by simp;omega,?_⟩
   refine .inl (.inr ⟨_,fun _=>⟨[aS (l++[x])],⟨(by have:=n0 (l++[x]);rw[acC]at this;exact this),tv⟩,mY (l++[x]) (fun y hy=>by
    rcases acr.1 hy with hy|hy
    ·exact q2 y hy
    ·rw[aco]at hy;subst hy;exact hx) (by simp;omega)⟩,?_⟩)
   refine⟨jT,eI x.f,rfl,rfl,aS (cL (l++[x])),⟨rf,tv⟩,rfl,false,fun _=>⟨Dp c.ret _,fE _⟩,?_⟩
   rw[show cR (mZ c.ret) (eI x.f) (aS (cL (l++[x])))=mZ (aI c.ret x.f (cL (l++[x])))from cY iT c.ret _ _]
   refine acg (by kernel_rfl) ?_
   exact⟨fun _=>by omega,1,jn rfl rfl rfl rfl,⟨by omega,fun _=>rfl⟩,mlt (by omega)⟩
  |none=>
   have he:(kp [x] ((sn c.ret P.ret x.f).getD [])).1=[]:=by rw[hu];exact Dq x
   have e1:RQ P c x=0:=if_pos he
   have e2:QA P c x={ c with ret:=aI c.ret x.f (cL [x]) }:=by unfold QA;rw[if_pos he,hu];rfl
   refine acg (by kernel_rfl) ?_
   refine .inl ⟨[az x],rfl,⟨rf,rf,rf,tv⟩,(by simp;rfl),?_⟩
   have hd:=jU [x] [] (by simpa using hx) NS.nil (by simp) (by simp) (by simp) (by simp)
   rw[Dq]at hd
   refine .inl ⟨_,fun _=>⟨[aS [x],aS []],⟨rf,DV.aK 3,tv⟩,hd⟩,?_⟩
   repeat refine gG ?_
   refine acg (fun h=>(by cases h)) fun _=>?_
   rw[e1,e2]
   refine .inl ⟨_,fun _=>zg.ok,?_⟩
   refine .inl ⟨[az x],rfl,⟨rf,rf,rf,tv⟩,(by simp;rfl),?_⟩
   refine .inr ⟨[az x],ca.refl _,Nat.le_of_ble_eq_true rfl,Nat.le_of_ble_eq_true rfl,?_⟩
   refine .inl (.inr ⟨_,fun _=>⟨[aS [x]],⟨rf,tv⟩,mY [x] (by simpa using hx) (by simp)⟩,?_⟩)
   refine⟨jT,eI x.f,rfl,rfl,aS (cL [x]),⟨rf,tv⟩,rfl,false,fun _=>⟨Dp c.ret _,fE _⟩,?_⟩
   rw[show cR (mZ c.ret) (eI x.f) (aS (cL [x]))=mZ (aI c.ret x.f (cL [x]))from cY iT c.ret _ _]
   refine acg (by kernel_rfl) ?_
   exact⟨fun _=>by omega,1,jn rfl rfl rfl rfl,⟨by omega,fun _=>rfl⟩,mlt (by omega)⟩
 ·intro h
  have h1:i=1:=by have:=acB h;omega
  subst h1
  rw[hz rfl]
  exact ext (by kernel_rfl) rfl rfl
theorem Gm(P:PL)(c:Ch)(m:di)(x:Lt)(f:gC)(eZ:m.fr=0)(h9:c.sp.kind=9)(hp:m.ps=[x])(hx:aD x=true)(hxf:x.f<=9223372036854775807)(hs:0<=P.sh/\P.sh<=12)(oF:0<=x.f-P.sh*4294967296)(hf:P.fl[(x.f-P.sh*4294967296).toNat]?=some f)(cw:f.to=0/\f.kind≠6/\f.it=m.it/\x.a+x.n<=f.n)
 (hq:∀l,sn c.ret P.ret x.f=some l->l≠[]/\NS l/\(∀y∈l,aD y=true)/\l.length<=4000):
 ao Tryz.prog 142 [.ptr 0 0,cF (aq m)] 14 (dI 0 0 P c) 0 [.dv (aS [x]),.dv (I (RQ P c x))] (dI 0 0 P (QA P c x)):=by
 refine cO Tryz.func142 rfl (by kernel_rfl) ?_
 repeat refine gG ?_
 refine acg (fun h=>absurd eZ (by simpa using h)) fun _=>?_
 refine acg (fun h=>absurd (h9.symm.trans (beq_iff_eq.1 h)) (by decide)) fun _=>?_
 refine acg (fun _=>?_) fun h=>absurd h9 (beq_eq_false_iff_ne.1 h)
 refine .inr (cl [] (ey m.ps (by rw[hp];simp)) (by kernel_rfl) rfl rfl ?_)
 refine .inr (cl [0,1,2,3,4,5,6,7,8,9,10,11,12,13] (MD P c m x f hp hx hxf hs oF hf cw hq) (by kernel_rfl) rfl rfl ?_)
 refine acg (by kernel_rfl) ?_
 rw[hp]
 exact⟨_,_,⟨rfl,rfl⟩,by kernel_rfl,⟨n0 _,rf,tv⟩,aX (k:=dI 0 0 P (QA P c x)) rfl⟩
end Go.Proofs.YtmojfblpbcficaaGreatDoor
