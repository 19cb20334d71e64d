import Derived.Test.YtmojfblpbcficaaGreatDoorUM33
import Derived.Test.YtmojfblpbcficaaGreatDoorUM38
set_option linter.all false
open Go.TM.oA Go.TM.oB Go.TM.oC Go.TM.oD Go.TM.oE
namespace Go.Proofs.YtmojfblpbcficaaGreatDoor
set_option maxRecDepth 100000
set_option maxHeartbeats 4000000
open Go.TM
def SS(P:PL)(c:Ch)(x:Lt):Int:=if(kG [x] ((sI c.ret P.ret x.f).getD [])).1=[]then 0 else 10
def RA(P:PL)(c:Ch)(x:Lt):Ch:=if(kG [x] ((sI c.ret P.ret x.f).getD [])).1=[]then { c with ret:=aH c.ret x.f (ct ((sI c.ret P.ret x.f).getD []++[x])) }else c
theorem Yx(x:Lt):(aA x).aT:=fun d hd=>by
 have hd:d∈[I x.f,I x.a,I x.n]:=hd
 simp only[adp,List.mem_nil_iff,or_false]at hd
 rcases hd with rfl|rfl|rfl<;>rfl
variable [bp]
theorem NI(P:PL)(c:Ch)(m:dc)(x:Lt)(f:eS)(hp:m.ps=[x])(hx:az x=true)(hxf:x.f<=9223372036854775807)(hs:0<=P.sh/\P.sh<=12)(nE:0<=x.f-P.sh*4294967296)(hf:P.fl[(x.f-P.sh*4294967296).toNat]?=some f)(cC:f.to=0/\f.kind≠6/\f.it=m.it/\x.a+x.n<=f.n)
 (hq:∀l,sI c.ret P.ret x.f=some l->l≠[]/\NS l/\(∀y∈l,az y=true)/\l.length<=4000):
 aj Tryz.prog 211 [.ptr 0 0,cH (ao m)] 14 (dM 0 0 P c) 0 [.dv (I (SS P c x))] (dM 0 0 P (RA P c x)):=by
 have lp:(m.ps.map aA).length=1:=by rw[hp];rfl
 have ix:(m.ps.map aA)[(0:Int).toNat]?=some (aA x):=by rw[hp];rfl
 have lf:(P.fl.map aG).length=P.fl.length:=WY ..
 have hb:=ai.1 hx
 have kP:=(W8.1 hf).1
 have hfi:(P.fl.map aG)[(x.f-P.sh*4294967296).toNat]?=some (aG f):=by rw[abW,hf];rfl
 refine cO Tryz.func211 rfl (by kernel_rfl) ?_
 repeat refine gG ?_
 refine⟨Nat,fun i=>⟨15,[(0,.ptr 0 0),(3,.ptr 14 0),(13,.dv (.sl 3 (m.ps.map aA))),(14,.dv (I (m.ps.map aA).length)),(15,.dv (I i))],dM 0 0 P (match i with|0=>c|_=>RA P c x)++[(14,.cells (ed (ao m).cells))]⟩,fun i=>i<=1/\(i=1->SS P c x=0),fun i=>1-i,0,fun _=>rfl,jn rfl rfl rfl rfl,by omega,?_⟩
 rintro i ⟨hi,hz⟩
 refine T5 ?_ ?_
 ·intro h
  have h0:i=0:=by have:=adz h;omega
  subst h0
  refine⟨aA x,fun _=>⟨by omega,ix⟩,?_⟩
  repeat first|refine gG ?_|refine⟨fun _=>by omega,?_⟩
  refine T5 (by kernel_rfl) ?_
  repeat refine gG ?_
  refine T5 (fun h=>?_) fun _=>?_
  ·rw[lf]at h;simp at h;omega
  refine⟨fun _=>⟨nE,by rw[lf];omega⟩,aG f,fun _=>hfi,?_⟩
  repeat first|refine gG ?_|refine⟨fun _=>by omega,?_⟩
  refine T5 (fun h=>?_) fun _=>?_
  ·simp[cC.1,cC.2.1,cC.2.2.1]at h;omega
  refine .inr (cl [4,13] (zK c.ret P.ret x.f) (by kernel_rfl) rfl rfl ?_)
  cases hu:sI c.ret P.ret x.f with
  |some l=>
   refine T5 (by kernel_rfl) ?_
   refine .inl ⟨[aA x],rfl,⟨rf,rf,rf,tv⟩,(by simp;rfl),?_⟩
   obtain⟨q0,q1,q2,q3⟩:=hq l hu
   have lS:l.length+1<=4001:=by omega
   refine .inl ⟨_,fun _=>(j9 [x] l (by simpa using hx) q1 q2 (by simp) (by omega) (by simp;omega)).ok,?_⟩
   repeat refine gG ?_
   refine T5 (fun h=>?_) fun h=>?_
   ·have he:¬(kG [x] ((sI c.ret P.ret x.f).getD [])).1=[]:=by
     rw[hu,Option.getD_some];intro e;rw[e]at h;cases h
    rw[show SS P c x=10 from if_neg he,show RA P c x=c from if_neg he]
    exact ext (by kernel_rfl) rfl rfl
   have he:(kG [x] ((sI c.ret P.ret x.f).getD [])).1=[]:=by
    rw[hu,Option.getD_some]
    have h:¬(0:Int)<((kG [x] l).1.map aA).length:=adA h
    rw[WY]at h
    exact List.length_eq_zero_iff.1 (by omega)
   have e1:SS P c x=0:=if_pos he
   have e2:RA P c x={ c with ret:=aH c.ret x.f (ct (l++[x])) }:=by unfold RA;rw[if_pos he,hu];rfl
   rw[e1,e2]
   refine .inl ⟨_,fun _=>(JU l q0).ok,?_⟩
   refine .inl ⟨[aA x],rfl,⟨rf,rf,rf,tv⟩,(by simp;rfl),?_⟩
   refine .inl ⟨[aA x],b7.refl _,(fun y hy d hd=>by rw[ado]at hy;subst hy;exact Yx x d hd),by simp,bL (n:=(l.map aA).length+[aA x].length) (by simp;omega),by simp;omega,?_⟩
   refine .inl (.inr ⟨_,fun _=>⟨[aM (l++[x])],⟨(by have:=mC (l++[x]);rw[adB]at this;exact this),tv⟩,lV (l++[x]) (fun y hy=>by
    rcases adr.1 hy with hy|hy
    ·exact q2 y hy
    ·rw[ado]at hy;subst hy;exact hx) (by simp;omega)⟩,?_⟩)
   refine⟨j8,eI x.f,rfl,rfl,aM (ct (l++[x])),⟨rf,tv⟩,rfl,false,fun _=>⟨D0 c.ret _,fQ _⟩,?_⟩
   rw[show c7 (mU c.ret) (eI x.f) (aM (ct (l++[x])))=mU (aH c.ret x.f (ct (l++[x])))from c5 je c.ret _ _]
   refine T5 (by kernel_rfl) ?_
   exact⟨fun _=>by omega,1,jn rfl rfl rfl rfl,⟨by omega,fun _=>rfl⟩,mlt (by omega)⟩
  |none=>
   have he:(kG [x] ((sI c.ret P.ret x.f).getD [])).1=[]:=by rw[hu];exact D1 x
   have e1:SS P c x=0:=if_pos he
   have e2:RA P c x={ c with ret:=aH c.ret x.f (ct [x]) }:=by unfold RA;rw[if_pos he,hu];rfl
   refine T5 (by kernel_rfl) ?_
   refine .inl ⟨[aA x],rfl,⟨rf,rf,rf,tv⟩,(by simp;rfl),?_⟩
   have hd:=j9 [x] [] (by simpa using hx) NS.nil (by simp) (by simp) (by simp) (by simp)
   rw[D1]at hd
   refine .inl ⟨_,fun _=>⟨[aM [x],aM []],⟨rf,DV.aI 3,tv⟩,hd⟩,?_⟩
   repeat refine gG ?_
   refine T5 (fun h=>(by cases h)) fun _=>?_
   rw[e1,e2]
   refine .inl ⟨_,fun _=>zM.ok,?_⟩
   refine .inl ⟨[aA x],rfl,⟨rf,rf,rf,tv⟩,(by simp;rfl),?_⟩
   refine .inr ⟨[aA x],b7.refl _,Nat.le_of_ble_eq_true rfl,Nat.le_of_ble_eq_true rfl,?_⟩
   refine .inl (.inr ⟨_,fun _=>⟨[aM [x]],⟨rf,tv⟩,lV [x] (by simpa using hx) (by simp)⟩,?_⟩)
   refine⟨j8,eI x.f,rfl,rfl,aM (ct [x]),⟨rf,tv⟩,rfl,false,fun _=>⟨D0 c.ret _,fQ _⟩,?_⟩
   rw[show c7 (mU c.ret) (eI x.f) (aM (ct [x]))=mU (aH c.ret x.f (ct [x]))from c5 je c.ret _ _]
   refine T5 (by kernel_rfl) ?_
   exact⟨fun _=>by omega,1,jn rfl rfl rfl rfl,⟨by omega,fun _=>rfl⟩,mlt (by omega)⟩
 ·intro h
  have h1:i=1:=by have:=adA h;omega
  subst h1
  rw[hz rfl]
  exact ext (by kernel_rfl) rfl rfl
theorem G6(P:PL)(c:Ch)(m:dc)(x:Lt)(f:eS)(fb:m.fr=0)(h9:c.sp.kind=9)(hp:m.ps=[x])(hx:az x=true)(hxf:x.f<=9223372036854775807)(hs:0<=P.sh/\P.sh<=12)(nE:0<=x.f-P.sh*4294967296)(hf:P.fl[(x.f-P.sh*4294967296).toNat]?=some f)(cC:f.to=0/\f.kind≠6/\f.it=m.it/\x.a+x.n<=f.n)
 (hq:∀l,sI c.ret P.ret x.f=some l->l≠[]/\NS l/\(∀y∈l,az y=true)/\l.length<=4000):
 aj Tryz.prog 142 [.ptr 0 0,cH (ao m)] 14 (dM 0 0 P c) 0 [.dv (aM [x]),.dv (I (SS P c x))] (dM 0 0 P (RA P c x)):=by
 refine cO Tryz.func142 rfl (by kernel_rfl) ?_
 repeat refine gG ?_
 refine T5 (fun h=>absurd fb (by simpa using h)) fun _=>?_
 refine T5 (fun h=>absurd (h9.symm.trans (beq_iff_eq.1 h)) (by decide)) fun _=>?_
 refine T5 (fun _=>?_) fun h=>absurd h9 (beq_eq_false_iff_ne.1 h)
 refine .inr (cl [] (eD m.ps (by rw[hp];simp)) (by kernel_rfl) rfl rfl ?_)
 refine .inr (cl [0,1,2,3,4,5,6,7,8,9,10,11,12,13] (NI P c m x f hp hx hxf hs nE hf cC hq) (by kernel_rfl) rfl rfl ?_)
 refine T5 (by kernel_rfl) ?_
 rw[hp]
 exact⟨_,_,⟨rfl,rfl⟩,by kernel_rfl,⟨mC _,rf,tv⟩,aV (k:=dM 0 0 P (RA P c x)) rfl⟩
end Go.Proofs.YtmojfblpbcficaaGreatDoor
