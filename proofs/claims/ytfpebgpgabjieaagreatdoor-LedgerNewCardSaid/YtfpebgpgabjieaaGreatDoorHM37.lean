import Derived.Test.YtfpebgpgabjieaaGreatDoorHM31
import Derived.Test.YtfpebgpgabjieaaGreatDoorHM33
import Derived.Test.YtfpebgpgabjieaaGreatDoorHM34
import Derived.Test.YtfpebgpgabjieaaGreatDoorHM35
import Derived.Test.YtfpebgpgabjieaaGreatDoorHM36
import Derived.Test.YtfpebgpgabjieaaGreatDoorHM29
import Derived.Test.YtfpebgpgabjieaaGreatDoorHM25
import Derived.Test.YtfpebgpgabjieaaGreatDoorHM21
import Derived.Test.YtfpebgpgabjieaaGreatDoorHM30
import Derived.Test.YtfpebgpgabjieaaGreatDoorHM26
set_option linter.all false
open Go.TM.oA Go.TM.oB Go.TM.oC Go.TM.oD Go.TM.oE
namespace Go.Proofs.YtfpebgpgabjieaaGreatDoor
set_option maxRecDepth 100000
set_option maxHeartbeats 4000000
section
open Go.TM
def MM(fl:List j4)(g:Int):Bool:=fl.any fun f=>f.kind==5&&f.ps.any fun x=>x.f==g
def wB(fl:List j4)(g:Int):Option (List Lt):=bif MM fl g then some [⟨g,0,3⟩]else none
theorem ns3(g:Int):NS [⟨g,0,3⟩]:=⟨adQ _ _,fun x hx=>by rw[ado]at hx;subst hx;show(1:Int)<=3;decide⟩
theorem abc(g:Int):cW [⟨g,0,3⟩]=[⟨g,0,3⟩]:=J9 (ns3 g)
theorem Yj{g:Int}(h:0<=g):aJ ⟨g,0,3⟩=true:=ak.2 ⟨h,by simp,by simp,by simp⟩
theorem U0{g:Int}(h:0<=g):bE [⟨g,0,3⟩]=true:=gj (fun x hx=>by rw[ado]at hx;subst hx;exact Yj h) (by simp)
theorem wo3(a b:Int):mu [⟨a,0,3⟩] [⟨b,0,3⟩]=if a=b then[]else[⟨a,0,3⟩]:=by
 by_cases h:a=b
 ·subst h;rw[if_pos rfl];simp[mu,mQ,jq,gV]
 ·rw[if_neg h];simp[mu,mQ,jq,gV,h,aT]
theorem acn(a:Int):mu [⟨a,0,3⟩] []=[⟨a,0,3⟩]:=by simp[mu,mQ,aT]
theorem aco{a b:Int}(ha:0<=a)(hb:0<=b):CO [⟨a,0,3⟩] [⟨b,0,3⟩]=if a=b then[⟨a,0,3⟩]else[]:=by
 have e:∀P,uP [⟨a,0,3⟩] P=bif bE P then mu [⟨a,0,3⟩] P else[]:=fun P=>by
  simp only[uP,kF,U0 ha,cond_true,abc,Im,Bool.true_and]
 rw[CO,U0 hb,cond_true,e,e,U0 hb,cond_true,wo3]
 by_cases h:a=b
 ·rw[if_pos h,if_pos h,acn];rfl
 ·rw[if_neg h,if_neg h,U0 ha,cond_true,wo3,if_pos rfl]
theorem Gb{α:Type}{p q:α->Bool}:∀{l:List α},(∀x∈l,p x=q x)->l.any p=l.any q
 |[],_=>rfl
 |a::l,h=>by rw[List.any_cons,List.any_cons,h a adu,Gb fun x hx=>h x (adq _ hx)]
theorem Yk{R:RL}(hG:Good R){g:Int}(hg:0<=g):R.fl.any (Qa ⟨g,0,3⟩)=MM R.fl g:=Gb fun f hf=>by
 unfold Qa
 by_cases h:f.kind=5
 ·obtain⟨a,ha,e⟩:=(hG.NL f hf).2.2.2.2.2 h
  rw[h,e,aco ha hg]
  by_cases h2:a=g<;>simp[h2]
 ·simp[h]
structure km(P:PL)(s:dI)(c:Ch)(R:RL):Prop where
 sh:R.sh=P.sh
 sp:R.sp=P.sp
 U1:c.sp=spI P s
 nk:Nk c.st/\Nk c.cj/\Nk c.imp/\Nk c.ret
 ret:∀g,ss c.ret P.ret g=kI R.fl g
 fl:R.fl=P.fl++c.fl
 st:∀k,eH P c k=bY R.st k
 cj:∀j,(aV c.cj j).getD (FK P.cj j)=b8 R.st j
 imp:∀g,ss c.imp P.imp g=wB R.fl g
 sk:c.sk=q7 R.fl (R.sh*4294967296+R.sp.length)
theorem U2(fl:List j4)(f:j4)(st:Int)(h:f.step=st):q7 (fl++[f]) st=q7 fl st++bif f.to==0 then[f.id]else[]:=by
 unfold q7
 rw[List.filter_append,adB,List.filter_cons,List.filter_nil,h]
 cases f.to==0<;>simp
theorem km.next{P:PL}{s:dI}{c c2:Ch}{R R2:RL}{f:j4}{it:Int}(d:Int)(h:km P s c R)(e1:c2.sp=c.sp)(e2:Nk c2.st/\Nk c2.imp/\Nk c2.ret)(e3:∀g,ss c2.ret P.ret g=kI (R.fl++[f]) g)(e4:c2.fl=c.fl++[f])(e5:c2.cj=aN c.cj it (b8 R.st it+d))(e6:c2.sk=c.sk++bif f.to==0 then[f.id]else[])
 (e7:R2.sh=R.sh/\R2.sp=R.sp/\R2.fl=R.fl++[f]) (e8:f.step=R.sh*4294967296+R.sp.length) (e9:∀k,eH P c2 k=bY R2.st k) (e10:∀j,b8 R2.st j=if it=j then b8 R.st j+d else b8 R.st j) (e11:∀g,ss c2.imp P.imp g=wB (R.fl++[f]) g):km P s c2 R2 where
 sh:=e7.1.trans h.sh
 sp:=e7.2.1.trans h.sp
 U1:=e1.trans h.U1
 nk:=⟨e2.1,by rw[e5];exact h.nk.2.1.put _ _,e2.2⟩
 ret g:=by rw[e7.2.2];exact e3 g
 fl:=by rw[e7.2.2,e4,h.fl,adJ]
 st:=e9
 cj j:=by
  rw[e5,iY,e10]
  by_cases hj:it=j
  ·rw[if_pos hj,if_pos hj,hj];rfl
  ·rw[if_neg hj,if_neg hj];exact h.cj j
 imp g:=by rw[e7.2.2];exact e11 g
 sk:=by rw[e6,e7.1,e7.2.1,e7.2.2,U2 _ _ _ e8,h.sk]
theorem Dr(P:PL)(c:Ch)(k:Ky)(l:List Lt)(m:SM)(hm:∀j,(aV m j).getD (bY P.st j)=eH P c j)(j:Ky):(aV (aN m k l) j).getD (bY P.st j)=if k=j then l else eH P c j:=by
 rw[iY];split
 ·rfl
 ·exact hm j
theorem QZ{P:PL}{s:dI}{c:Ch}{R:RL}(h:km P s c R)(m:eS)(l:List Lt)(md:List Int):dQ P c m l md=fe R s m l md:=by
 unfold dQ fe
 rw[h.U1,h.fl,h.sh,h.sp]
 unfold spI
 simp only[adv,j4.mk.injEq,and_true,true_and]
 omega
theorem Ds{fl:List j4}{f:j4}(h:f.kind≠5)(g:Int):wB (fl++[f]) g=wB fl g:=by
 unfold wB MM
 rw[List.any_append,List.any_cons,List.any_nil,beq_eq_false_iff_ne.2 h,Bool.false_and,Bool.or_false,Bool.or_false]
theorem IT{fl:List j4}{f:j4}(h:¬(f.kind=9/\f.fr=0))(g:Int):kI (fl++[f]) g=kI fl g:=by unfold kI;rw[abb h]
def wR(R:RL)(s:dI)(m:eS):Int×RL:=if F3 R s.kind m≠0 then(F3 R s.kind m,R)else if 1099511627776<b8 R.st m.it+m.n then(4,R)else(0,wL R s m (if s.kind=5\/s.kind=9 then m.ps else[]) (bif tx s.kind then q7 R.fl (R.sh*4294967296+R.sp.length)else[]))
theorem w9(R:RL)(s:dI)(m:eS)(hf:m.fr=0)(ht:0<m.to):bz R s m=wR R s m:=QK R s m hf ht
theorem km.bd{P:PL}{s:dI}{c:Ch}{R:RL}(h:km P s c R)(hG:Good R)(it:Int):(0<=P.sh/\P.sh<=12)/\(P.fl.length<=900000/\c.fl.length<=900000/\c.sk.length<=900000)/\0<=b8 R.st it/\b8 R.st it<=1099511627776:=by
 have fC:=hG.sh
 rw[h.sh]at fC
 have ou:=hG.fl
 have h1:=congrArg List.length h.fl
 have h2:=CX R.fl (R.sh*4294967296+R.sp.length)
 rw[<-h.sk]at h2
 rw[adv]at h1
 exact⟨by omega,by omega,(CS it R.st).1,hG.tb _⟩
variable [aW]
theorem Q0{P:PL}{s:dI}{c:Ch}{R:RL}{m:eS}(h:km P s c R)(hG:Good R)(hl:R.fl.length+1<=160)(hb:dG m=true)(fo:0<m.fr)(h5:s.kind≠5)(tk:List Lt×List Lt)(hq:∀j,b8 (G5 R s m tk).st j=if m.it=j then b8 R.st j+(if m.fr=0 then m.n else 0)-(if m.to=0 then m.n else 0)else b8 R.st j)
 (hw:aw Tryz.prog 145 [.ptr 0 0,cP (ay m)] 14 (dP 0 0 P c) 0 [.dv (aR tk.1),.dv (I 0)] (dP 0 0 P { c with st:=aN c.st (m.fr,m.it) tk.2 })):
 ∃c',aw Tryz.prog 99 [.ptr 0 0,cP (ay m)] 14 (dP 0 0 P c) 0 [.dv (I 0)] (dP 1 1 P c')/\km P s c' (G5 R s m tk):=by
 have hb:=adz hb
 obtain⟨fC,hlen,IU⟩:=h.bd hG m.it
 have hv:dX P c m=b8 R.st m.it:=h.cj m.it
 have SY:0<=dX P c m/\dX P c m<=1099511627776:=by rw[hv];exact IU
 have hT:=hG.tz (m.to,m.it)
 have Mm:=QZ h m tk.1 []
 have N7:=Dr P c (m.fr,m.it) tk.2 c.st (fun j=>rfl)
 have hfk:(fe R s m tk.1 []).kind≠5:=h5
 have MN:∀g,ss c.ret P.ret g=kI (R.fl++[fe R s m tk.1 []]) g:=fun g=>by
  rw[IT (fun hh=>absurd hh.2 (show¬m.fr=0 by omega))];exact h.ret g
 by_cases kp:m.to=0
 ·refine⟨_,jg (QW P c { c with st:=aN c.st (m.fr,m.it) tk.2 } m _ ⟨hb.2.2.1,hb.2.2.2.1⟩ SY fC hlen (by omega) kp hw),?_⟩
  refine km.next (f:=fe R s m tk.1 []) (it:=m.it) (-m.n) h rfl ⟨h.nk.1.put _ _,h.nk.2.2⟩ MN ?_ ?_ ?_ ⟨rfl,rfl,rfl⟩ rfl ?_ ?_ ?_
  ·exact congrArg (fun f=>c.fl++[f]) Mm
  ·exact congrArg (fun t=>aN c.cj m.it (t-m.n)) hv
  ·rw[show(fe R s m tk.1 []).to=0 from kp]
   exact congrArg (fun f:j4=>c.sk++[f.id]) Mm
  ·intro k
   unfold G5
   simp only[if_neg (by omega:¬0<m.to),jb]
   exact(N7 k).trans (by rw[h.st])
  ·intro j
   refine(hq j).trans ?_
   rw[if_neg (by omega:¬m.fr=0),if_pos kp]
   split<;>omega
  ·intro g;rw[Ds hfk];exact h.imp g
 ·have dw:∀l,bY (aN R.st (m.fr,m.it) l) (m.to,m.it)=bY R.st (m.to,m.it):=fun l=>by
   rw[jb,if_neg];intro h;injection h with h1;omega
  have Fz:eH P { c with st:=aN c.st (m.fr,m.it) tk.2 } (m.to,m.it)=bY R.st (m.to,m.it):=by
   refine(N7 _).trans ?_
   rw[if_neg (by intro h;injection h with h1;omega),h.st]
  have Wp:=QY P c { c with st:=aN c.st (m.fr,m.it) tk.2 } m _ ⟨hb.2.2.1,hb.2.2.2.1⟩ SY fC hlen (by omega) kp (by rw[Fz];exact gj hT.1 (by omega)) (by rw[Fz];omega) hw
  rw[Fz]at Wp
  refine⟨_,jg Wp,?_⟩
  refine km.next (f:=fe R s m tk.1 []) (it:=m.it) 0 h rfl ⟨(h.nk.1.put _ _).put _ _,h.nk.2.2⟩ MN ?_ ?_ ?_ ⟨rfl,rfl,rfl⟩ rfl ?_ ?_ ?_
  ·exact congrArg (fun f=>c.fl++[f]) Mm
  ·exact congrArg (fun t=>aN c.cj m.it t) (hv.trans (by omega))
  ·rw[show((fe R s m tk.1 []).to==0)=false from beq_eq_false_iff_ne.2 kp]
   exact(List.append_nil _).symm
  ·intro k
   unfold G5
   simp only[if_pos (by omega:0<m.to)]
   rw[jb]
   refine(Dr P { c with st:=aN c.st (m.fr,m.it) tk.2 } (m.to,m.it) _ _ (fun j=>rfl) k).trans ?_
   rw[show dQ P { c with st:=aN c.st (m.fr,m.it) tk.2 } m tk.1 []=_ from Mm]
   split
   ·rfl
   ·rw[jb];exact(N7 k).trans (by rw[h.st])
  ·intro j
   refine(hq j).trans ?_
   rw[if_neg (by omega:¬m.fr=0),if_neg kp]
   split<;>omega
  ·intro g;rw[Ds hfk];exact h.imp g
theorem Wq{P:PL}{s:dI}{c:Ch}{R:RL}{m:eS}(h:km P s c R)(hG:Good R)(hl:R.fl.length+1<=160)(hb:dG m=true)(oH:m.fr=0)(hc:¬1099511627776<b8 R.st m.it+m.n)(tH tI:IM (List Lt))(l:List Lt)(hni:Nk tH/\Nk tI)
 (hq:∀j,b8 (wL R s m l (bif tx s.kind then q7 R.fl (R.sh*4294967296+R.sp.length)else[])).st j=if m.it=j then b8 R.st j+(if m.fr=0 then m.n else 0)-(if m.to=0 then m.n else 0)else b8 R.st j)
 (himp:∀md g,ss tH P.imp g=wB (R.fl++[fe R s m l md]) g) (MN:∀md g,ss tI P.ret g=kI (R.fl++[fe R s m l md]) g)
 (ht:aw Tryz.prog 145 [.ptr 0 0,cP (ay m)] 14 (dP 0 0 P c) 0 [.dv (aR l),.dv (I 0)] (dP 0 0 P ⟨c.sp,c.st,c.cj,tH,tI,c.fl,c.sk⟩)):
 ∃c',aw Tryz.prog 99 [.ptr 0 0,cP (ay m)] 14 (dP 0 0 P c) 0 [.dv (I 0)] (dP 1 1 P c')/\km P s c' (wL R s m l (bif tx s.kind then q7 R.fl (R.sh*4294967296+R.sp.length)else[])):=by
 have hb:=adz hb
 obtain⟨fC,hlen,IU⟩:=h.bd hG m.it
 have hv:dX P c m=b8 R.st m.it:=h.cj m.it
 have SY:0<=dX P c m/\dX P c m<=1099511627776:=by rw[hv];exact IU
 have po:c.sp.kind=s.kind:=by rw[h.U1];rfl
 have hT:=hG.tz (m.to,m.it)
 have kp:0<m.to:=by omega
 have Zn:m.to≠0:=by omega
 have Fz:eH P ⟨c.sp,c.st,c.cj,tH,tI,c.fl,c.sk⟩ (m.to,m.it)=bY R.st (m.to,m.it):=h.st _
 have nxt:∀md,md=(bif tx s.kind then q7 R.fl (R.sh*4294967296+R.sp.length)else[])->km P s { Ai P ⟨c.sp,c.st,c.cj,tH,tI,c.fl,c.sk⟩ m (dX P c m+m.n) l md with st:=aN c.st (m.to,m.it) (aT (bY R.st (m.to,m.it)) ⟨(dQ P c m l md).id,0,m.n⟩) } { R with
  st:=aN R.st (m.to,m.it) (aT (bY R.st (m.to,m.it)) ⟨R.sh*4294967296+R.fl.length,0,m.n⟩)
  fl:=R.fl++[fe R s m l (bif tx s.kind then q7 R.fl (R.sh*4294967296+R.sp.length)else[])] }:=by
  rintro md rfl
  have Mm:=QZ h m l (bif tx s.kind then q7 R.fl (R.sh*4294967296+R.sp.length)else[])
  rw[Mm,hv]
  refine km.next (f:=fe R s m l _) (it:=m.it) m.n h rfl ⟨h.nk.1.put _ _,hni⟩ (MN _) ?_ rfl ?_ ⟨rfl,rfl,rfl⟩ rfl ?_ ?_ ?_
  ·exact congrArg (fun f=>c.fl++[f]) Mm
  ·rw[show((fe R s m l (bif tx s.kind then q7 R.fl (R.sh*4294967296+R.sp.length)else[])).to==0)=false from beq_eq_false_iff_ne.2 Zn]
   exact(List.append_nil _).symm
  ·intro k
   rw[jb]
   refine(Dr P c (m.to,m.it) _ c.st (fun j=>rfl) k).trans ?_
   rw[h.st];rfl
  ·intro j
   refine(hq j).trans ?_
   rw[if_pos oH,if_neg Zn]
   split<;>omega
  ·intro g;exact himp _ g
 by_cases hM:s.kind=4\/s.kind=10
 ·have hi:tx s.kind=true:=by unfold tx;rcases hM with h|h<;>rw[h]<;>rfl
  have Wp:=QV P c ⟨c.sp,c.st,c.cj,tH,tI,c.fl,c.sk⟩ m l ⟨hb.2.2.1,hb.2.2.2.1⟩ SY fC hlen oH Zn (by rw[<-po]at hM;exact hM) (by show¬_<dX P c m+m.n;rw[hv];exact hc) (by rw[Fz];exact gj hT.1 (by omega)) (by rw[Fz];omega) ht
  rw[Fz]at Wp
  exact⟨_,jg Wp,nxt c.sk (by rw[hi,h.sk];rfl)⟩
 ·have hi:tx s.kind=false:=by
   unfold tx;rw[Bool.or_eq_false_iff];exact⟨beq_eq_false_iff_ne.2 fun e=>hM (.inl e),beq_eq_false_iff_ne.2 fun e=>hM (.inr e)⟩
  have Wp:=QX P c ⟨c.sp,c.st,c.cj,tH,tI,c.fl,c.sk⟩ m l ⟨hb.2.2.1,hb.2.2.2.1⟩ SY fC hlen oH Zn (by rw[<-po]at hM;exact⟨fun e=>hM (.inl e),fun e=>hM (.inr e)⟩) (by show¬_<dX P c m+m.n;rw[hv];exact hc) (by rw[Fz];exact gj hT.1 (by omega)) (by rw[Fz];omega) ht
  rw[Fz]at Wp
  exact⟨_,jg Wp,nxt [] (by rw[hi];rfl)⟩
theorem Q1(hS:nU){P:PL}{s:dI}{c:Ch}{R:RL}{m:eS}(h:km P s c R)(hG:Good R)(hl:R.fl.length+1<=160)(hm:IL R.sh s m):
 ∃c',aw Tryz.prog 99 [.ptr 0 0,cP (ay m)] 14 (dP 0 0 P c) 0 [.dv (I (bz R s m).1)] (dP 1 1 P c')/\((bz R s m).1=0->km P s c' (bz R s m).2):=by
 have hb:=adz hm.base
 have LY:=KE hG hl hm
 obtain⟨fC,hlen,IU⟩:=h.bd hG m.it
 have hv:dX P c m=b8 R.st m.it:=h.cj m.it
 have SY:0<=dX P c m/\dX P c m<=1099511627776:=by rw[hv];exact IU
 have po:c.sp.kind=s.kind:=by rw[h.U1];rfl
 by_cases fo:0<m.fr
 ·have hk:s.kind≠5/\m.ps=[]:=by
   rcases hm.ps with h|h
   ·omega
   ·exact⟨h.1,h.2.2⟩
  have e:=h.st (m.fr,m.it)
  have hS2:=hG.tz (m.fr,m.it)
  have wm:=gj hS2.1 (by have:=hG.fl;omega)
  have dw:bY (aN R.st (m.fr,m.it) (fJ (bY R.st (m.fr,m.it)) m.n (w6 m.it)).2) (m.to,m.it)=bY R.st (m.to,m.it):=by
   rw[jb,if_neg];intro h;injection h with h1;omega
  rw[Dh R s m fo hk.2]at LY⊢
  by_cases hc:cT (bY R.st (m.fr,m.it))<m.n
  ·rw[if_pos hc]
   exact⟨c,jg (y7 P c c m [] 10 (by decide) (r9 P c c m [] 10 (by omega) (Qy hS P c m hk.2 ⟨hb.1,hb.2.1⟩ (by omega) (by rw[e];exact wm) (by rw[e];exact adF hc)))),fun h=>absurd h (show¬(10:Int)=0 by decide)⟩
  rw[if_neg hc]at LY⊢
  have hw:=r9 P c _ m _ 0 (by omega) (Qz hS P c m hk.2 ⟨hb.1,hb.2.1⟩ (by omega) (by rw[e];exact wm) (by rw[e];exact adG hc))
  rw[e]at hw
  simp only[dw]at LY⊢
  obtain⟨c',h1,h2⟩:=Q0 h hG hl hm.base fo hk.1 _ (LY (by trivial)).2.2 hw
  exact⟨c',h1,fun _=>h2⟩
 ·have oH:m.fr=0:=by omega
  have kp:0<m.to:=by omega
  have Zn:m.to≠0:=by omega
  rw[w9 R s m oH kp]at LY⊢
  have fin:∀(tH tI:IM (List Lt)) (l:List Lt),F3 R s.kind m=0->Nk tH/\Nk tI->(if s.kind=5\/s.kind=9 then m.ps else[])=l->(∀md g,ss tH P.imp g=wB (R.fl++[fe R s m l md]) g)->(∀md g,ss tI P.ret g=kI (R.fl++[fe R s m l md]) g)->aw Tryz.prog 145 [.ptr 0 0,cP (ay m)] 14 (dP 0 0 P c) 0 [.dv (aR l),.dv (I 0)] (dP 0 0 P ⟨c.sp,c.st,c.cj,tH,tI,c.fl,c.sk⟩)->
   ∃c',aw Tryz.prog 99 [.ptr 0 0,cP (ay m)] 14 (dP 0 0 P c) 0 [.dv (I (wR R s m).1)] (dP 1 1 P c')/\((wR R s m).1=0->km P s c' (wR R s m).2):=by
   intro tH tI l he hni hle himp MN ht
   unfold wR at LY⊢
   rw[if_neg (fun hh=>hh he)]at LY⊢
   by_cases hc:1099511627776<b8 R.st m.it+m.n
   ·rw[if_pos hc]
    exact⟨_,jg (Ga P c ⟨c.sp,c.st,c.cj,tH,tI,c.fl,c.sk⟩ m l ⟨hb.2.2.1,hb.2.2.2.1⟩ SY fC hlen oH Zn (by show _<dX P c m+m.n;rw[hv];exact hc) ht),fun h=>absurd h (show¬(4:Int)=0 by decide)⟩
   rw[if_neg hc]at LY⊢
   rw[hle]at LY⊢
   obtain⟨c',h1,h2⟩:=Wq h hG hl hm.base oH hc tH tI l hni (LY rfl).2.2 himp MN ht
   exact⟨c',h1,fun _=>h2⟩
  rcases hm.ps with⟨h5,_,g,g0,g1,mM⟩|⟨h5,h9,mM⟩
  ·have hu:=h.imp g
   have ht:=IJ P c m ⟨g,0,3⟩ oH (po.trans h5) mM (Yj g0) g1 (fun l hl=>by
    rw[hu]at hl
    unfold wB at hl
    cases hi:MM R.fl g with
    |false=>rw[hi]at hl;cases hl
    |true=>
     rw[hi]at hl;injection hl with hl;subst hl
     refine⟨ns3 g,fun y hy=>by rw[ado]at hy;subst hy;exact Yj g0,by simp,fun hn=>?_⟩
     exact(Kb (ns3 g).pos (ns3 g)).1 hn g 0 ⟨_,ado.2 rfl,rfl,by simp,by simp⟩ ⟨_,ado.2 rfl,rfl,by simp,by simp⟩)
   have he:F3 R s.kind m=MH P c ⟨g,0,3⟩:=by
    unfold F3 MH
    rw[if_pos h5,mM]
    unfold uS
    rw[Yk hG g0,hu,h.sh]
    unfold wB
    by_cases a1:g.tdiv 4294967296=P.sh
    ·simp[a1]
    ·by_cases a2:11<g.tdiv 4294967296
     ·rw[if_pos (.inr a2),beq_eq_false_iff_ne.2 a1,adF (show 12<=g.tdiv 4294967296 by omega)];rfl
     ·rw[if_neg (by simp only[not_or];exact⟨a1,a2⟩)]
      have:¬12<=g.tdiv 4294967296:=by omega
      simp only[beq_eq_false_iff_ne.2 a1,adG this,cond_false]
      cases MM R.fl g<;>rfl
   by_cases hz:MH P c ⟨g,0,3⟩=0
   ·rw[show QA P c ⟨g,0,3⟩={ c with imp:=aN c.imp g (cW [⟨g,0,3⟩]) }from if_pos hz,hz]at ht
    refine fin (aN c.imp g (cW [⟨g,0,3⟩])) c.ret _ (he.trans hz) ⟨h.nk.2.2.1.put _ _,h.nk.2.2.2⟩ (by rw[if_pos (.inl h5),mM]) (fun md j=>?_) (fun md j=>by rw[IT (f:=fe R s m _ md) (fun hh=>by have:=hh.1.symm.trans h5;cases this)];exact h.ret j) ht
    have hj:=h.imp j
    unfold ss at hj⊢
    rw[iY]
    unfold wB MM at hj⊢
    rw[List.any_append]
    have hf:([fe R s m [⟨g,0,3⟩] md].any fun f=>f.kind==5&&f.ps.any fun x=>x.f==j)=(g==j):=by
     simp[fe,h5]
    rw[hf]
    by_cases hgj:g=j
    ·subst hgj;rw[if_pos rfl,abc,beq_self_eq_true,Bool.or_true];rfl
    ·rw[if_neg hgj,hj,beq_eq_false_iff_ne.2 hgj,Bool.or_false]
   ·unfold wR
    rw[if_pos (by rw[he];exact hz),he]
    exact⟨_,jg (y7 P c _ m _ _ hz ht),fun h0=>absurd h0 hz⟩
  ·have he:F3 R s.kind m=0:=by unfold F3;rw[if_neg h5,if_neg h9]
   have ht:=II P c m oH (by rw[po];exact h5) (by rw[po];exact h9)
   exact fin c.imp c.ret _ he h.nk.2.2 (by rw[if_neg (by omega)]) (fun md g=>by rw[Ds (f:=fe R s m [] md) h5];exact h.imp g) (fun md g=>by rw[IT (f:=fe R s m [] md) (fun hh=>h9 hh.1)];exact h.ret g) ht
end
section
open Go.TM
def Gc(l set:List Lt):Prop:=∀x∈l,∀p∈kC set x,p.2=true
variable [aW]
def kWi(rc:RC):ae:=[(0,.dF rc .ready ((List.replicate 14 .any).set 4 (.ptr 1 0))),(1,.cells [.dv (B false)])]
theorem IV(x:Lt):dr Tryz.prog [cP (aD x),.dv (B true)] 2 (kWi (qX Tryz.f247)) 0 fun r k=>r=[.dv (B true)]/\k=kWi (qX Tryz.f247):=by
 refine mL aG mixed rfl (by kernel_rfl) ?_
 refine adh (fun h=>by cases h) fun _=>?_
 exact ext (by kernel_rfl) rfl rfl
def kWt(rc:RC)(l set:List Lt):ae:=kWi rc++[(2,.cells [.dv (aR l)]),(3,.cells [.dv (aR set)])]
structure IuS where
 j:Nat
 x:Lt
theorem IW(rc:RC)(l set:List Lt)(hl:∀x∈l,aJ x=true)(hs:NS set)(hp:∀x∈set,aJ x=true)(CN:l.length<=5000)(gP:set.length<=5000)(dz:Gc l set)
 (hY:∀x:Lt,dr Tryz.prog [cP (aD x),.dv (B true)] 2 (kWi rc) 0 fun r k=>r=[.dv (B true)]/\k=kWi rc):
 aw Tryz.prog 269 [.eC 0,.ptr 2 0,.ptr 3 0] 4 (kWt rc l set) 0 [] (kWt rc l set):=by
 refine cO Tryz.func269 rfl (by kernel_rfl) ?_
 have ll:(l.map aD).length=l.length:=adi ..
 have ls:(set.map aD).length=set.length:=adi ..
 refine⟨Nat,fun i=>⟨4,[(0,.eC 0),(1,.ptr 2 0),(2,.ptr 3 0),(9,.dv (aR l)),(10,.dv (I l.length)),(11,.dv (I i))],kWt rc l set⟩,fun i=>i<=l.length,fun i=>l.length-i,0,fun _=>rfl,jn (by simp only[ll];rfl) rfl rfl rfl,adx _,?_⟩
 rintro i hi
 refine adh (fun h=>?_) fun h=>?_
 ·have aB:i<l.length:=by have:=adz h;omega
  obtain⟨x,hx⟩:∃x,l[i]?=some x:=⟨_,abK aB⟩
  have ix:(l.map aD)[(i:Int).toNat]?=some (aD x):=by rw[adk];simp[hx]
  have ND:=hl x (adl hx)
  have Fh:=ak.1 ND
  have hpp:=(jI hs (by omega:0<=x.n)).pos
  have abd:=dz x (adl hx)
  have hlb:lB set:=⟨by omega,fun y hy=>by have:=ak.1 (hp y hy);omega⟩
  obtain⟨hk,aS,ql,JK⟩:=H9 hs x
  refine⟨aD x,fun _=>⟨by omega,ix⟩,?_⟩
  have hse:=tg set x hs hlb
  rw[<-ls]at hse
  refine .inr (cl [3,4] hse (by kernel_rfl) rfl rfl ?_)
  have hM:kC set x=zJ x (set.drop (H8 set x)):=by unfold kC;rw[aS]
  refine⟨IuS,fun q=>⟨5,[(0,.eC 0),(1,.ptr 2 0),(2,.ptr 3 0),(9,.dv (aR l)),(10,.dv (I l.length)),(11,.dv (I i)),(5,.ptr 4 0),(6,.dv (I q.j))],kWt rc l set++[(4,.cells (fp (aD q.x).cells))]⟩,fun q=>q.j<=set.length/\q.x.f=x.f/\x.a<=q.x.a/\q.x.a+q.x.n=x.a+x.n/\0<=q.x.n/\∃pre,kC set x=pre++zJ q.x (set.drop q.j),fun q=>set.length-q.j,⟨H8 set x,x⟩,fun _=>rfl,jn rfl rfl rfl rfl,⟨hk,rfl,Int.le_refl _,rfl,by show 0<=x.n;omega,[],hM⟩,?_⟩
  rintro⟨j,y⟩ ⟨hj,hf,ha,hn,Ul,pre,kj⟩
  dsimp only at hj hf ha hn Ul kj⊢
  obtain⟨s,rU⟩:∃s,j<set.length->set[j]?=some s:=by
   by_cases h:j<set.length
   ·exact⟨set[j],fun _=>abK h⟩
   ·exact⟨x,fun h2=>absurd h2 h⟩
  have is:bw (bif decide (0<y.n)then decide ((j:Int)<(((set.map aD).length:Nat):Int))else false) true=true->(0:Int)<=j/\(set.map aD)[(j:Int).toNat]?=some (aD s):=fun hg=>by
   have qO:j<set.length:=by have:=adz (bZ (gL hg)).2;omega
   refine⟨by omega,?_⟩
   rw[adk];simp[rU qO]
  repeat refine gG ?_
  refine⟨aD s,fun h=>is h,?_⟩
  repeat refine gG ?_
  refine⟨aD s,fun h=>is (nP (bZ (gL h)).1),?_⟩
  repeat refine gG ?_
  refine⟨fun _=>by omega,?_⟩
  repeat refine gG ?_
  refine⟨by kernel_rfl,adh (fun hc=>?_) fun hc=>?_⟩
  ·have c1:=bZ hc
   have c2:=bZ c1.1
   have c3:=bZ c2.1
   have qO:j<set.length:=by have:=adz c3.2;omega
   have rU:=rU qO
   have hsb:=ak.1 (hp s (adl rU))
   have hg:NH y s=true:=by unfold NH;rw[c3.1,c2.2,c1.2];rfl
   have hdj:set.drop j=s::set.drop (j+1):=by
    rw[List.drop_eq_getElem_cons qO]
    rw[abK qO]at rU
    injection rU with rU
    rw[rU]
   rw[hdj,CK hg]at kj
   have io:(0:Int)<=j/\(set.map aD)[(j:Int).toNat]?=some (aD s):=⟨by omega,by rw[adk];simp[rU]⟩
   refine⟨aD s,fun _=>io,fun _=>by omega,?_⟩
   refine⟨by kernel_rfl,?_⟩
   repeat refine gG ?_
   have hO:¬0<dO y s:=fun hO=>by
    rw[if_pos hO]at kj
    have:=abd (⟨y.f,y.a,dO y s⟩,false) (by rw[kj];simp)
    cases this
   have Wc:bw (decide (0<dO y s)) true=false:=by rw[adG hO];rfl
   have h0:0<=dO y s:=by unfold dO;split<;>omega
   rw[if_neg hO,List.nil_append]at kj
   have T8:=hpp (⟨y.f,y.a+dO y s,jr y s⟩,true) (by rw[kj];simp)
   dsimp only at T8
   refine .inr ⟨Wc,.dv (B false),fun h=>h,fun _ h=>nP h,adh (fun h=>absurd (adz (bZ h).1) hO) fun _=>?_⟩
   refine⟨fun _=>by omega,fun _=>by omega,?_⟩
   refine⟨aD s,fun _=>io,aD s,fun _=>io,fun _=>by omega,fun _=>by omega,?_⟩
   refine⟨by kernel_rfl,?_⟩
   refine .inl (PR [0,1] (hY ⟨y.f,y.a+dO y s,jr y s⟩) (by kernel_rfl) rfl rfl ?_)
   refine adh (fun h=>by cases h) fun _=>?_
   refine⟨fun _=>by omega,fun _=>by omega,fun _=>by omega,⟨j+1,⟨y.f,y.a+dO y s+jr y s,y.n-dO y s-jr y s⟩⟩,jn rfl rfl rfl rfl,⟨qO,hf,by dsimp only;omega,by dsimp only;omega,by dsimp only;omega,pre++[(⟨y.f,y.a+dO y s,jr y s⟩,true)],by rw[kj];simp⟩,by dsimp only;omega⟩
  ·have iO:zJ y (set.drop j)=if 0<y.n then[(y,false)]else[]:=by
    by_cases BS:j<set.length
    ·have rU:=rU BS
     rw[List.drop_eq_getElem_cons BS]
     rw[abK BS]at rU
     injection rU with rU
     rw[rU]
     refine Ia ?_
     have h2:=gI hc
     rw[Bool.eq_false_iff]
     intro hg
     simp only[NH,adT]at hg
     exact h2 ⟨by rw[hg.1,adF (by omega),hg.2.1];rfl,hg.2.2⟩
    ·rw[List.drop_eq_nil_of_le (by omega)]
     conv=>lhs;unfold zJ
   rw[iO]at kj
   repeat refine gG ?_
   have hO:¬0<y.n:=fun hO=>by
    rw[if_pos hO]at kj
    have:=abd (y,false) (by rw[kj];simp)
    cases this
   have Wc:bw (decide (0<y.n)) true=false:=by rw[adG hO];rfl
   refine .inr ⟨Wc,.dv (B false),fun h=>h,fun _ h=>nP h,adh (fun h=>absurd (adz (bZ h).1) hO) fun _=>?_⟩
   exact⟨fun _=>by omega,i+1,jn rfl rfl rfl rfl,aB,mlt aB⟩
 ·exact ext (by kernel_rfl) rfl rfl
theorem Dt(l set:List Lt)(hl:∀x∈l,aJ x=true)(hs:NS set)(hp:∀x∈set,aJ x=true)(CN:l.length<=5000)(gP:set.length<=5000)(dz:Gc l set):ai Tryz.prog 247 [aR l,aR set] [B true]:=by
 refine pO Tryz.func247 rfl (by kernel_rfl) rfl ?_
 have hi:=IW (qX Tryz.f247) l set hl hs hp CN gP dz fun x=>IV x
 refine .inr (cl [] (vF l set) (by kernel_rfl) rfl rfl ?_)
 refine⟨qX Tryz.f247,by kernel_rfl,?_⟩
 refine⟨[3,0,1,2],[.eC 0,.ptr 2 0,.ptr 3 0],kWt (qX Tryz.f247) l set,0,_,hi,by kernel_rfl,⟨rfl,rfl,rfl,tv⟩,⟨⟨rfl,rfl,?_⟩,⟨rf,tv⟩,⟨rf,tv⟩,⟨rf,tv⟩,tv⟩,?_⟩
 ·exact iG (by kernel_rfl)
 rintro rs K2 ⟨rfl,rfl⟩
 exact⟨by kernel_rfl,rf,tv⟩
theorem Du(P s:List Lt)(hP:bE P=true)(hs:bE s=true)(dz:Gc P (cW s)):ai Tryz.prog 234 [aR P,aR s] [B true]:=by
 obtain⟨h1,h2⟩:=fI hs
 obtain⟨h3,h4⟩:=fI hP
 have hn:∀x∈s,1<=x.n:=fun x hx=>(ak.1 (h2 x hx)).2.2.1
 have hso:=gA hn
 have kY:kF s=cW s:=by unfold kF;rw[hs];rfl
 have gP:=pN s
 rw[kY]at gP
 have hw:=Dt P (cW s) h4 hso.1 gP.2 (by omega) (by omega) dz
 refine pO Tryz.func234 rfl (by kernel_rfl) rfl ?_
 refine .inl ⟨_,fun _=>(fO P (by omega)).ok,?_⟩
 repeat refine gG ?_
 refine .inl ⟨_,fun _=>(fO s (by omega)).ok,?_⟩
 rw[hs,hP]
 repeat refine gG ?_
 refine Or.inl ?_
 refine⟨_,fun _=>(mW s h2 (by omega)).ok,?_⟩
 repeat refine gG ?_
 refine Or.inl ?_
 refine⟨_,fun _=>hw.ok,?_⟩
 repeat refine gG ?_
 exact⟨rf,tv⟩
end
section
open Go.TM
variable [aW]
theorem Q2(s P:List Lt)(hs:bE s=true)(hP:bE P=true)(ck:s.length*(2*P.length+1)<=90000):ai Tryz.prog 235 [aR s,aR P] [aR (mu s P)]:=by
 obtain⟨h1,h2⟩:=fI hs
 obtain⟨h3,h4⟩:=fI hP
 have hn:∀x∈P,1<=x.n:=fun x hx=>(ak.1 (h4 x hx)).2.2.1
 have hso:=gA hn
 have kY:kF P=cW P:=by unfold kF;rw[hP];rfl
 have gP:=pN P
 rw[kY]at gP
 have hle:s.length*(2*(cW P).length+1)<=90000:=Nat.le_trans (Nat.mul_le_mul_left _ (by omega)) ck
 have He:=j3 s (cW P) h2 hso.1 gP.2 (by omega) (by omega) hle
 have Wr:=TR (l:=s) (P:=P) (fun x hx=>(ak.1 (h2 x hx)).2.2.1) hn hso.1 hso.2
 refine pO Tryz.func235 rfl (by kernel_rfl) rfl ?_
 refine .inl ⟨_,fun _=>(fO s (by omega)).ok,?_⟩
 repeat refine gG ?_
 refine .inl ⟨_,fun _=>(fO P (by omega)).ok,?_⟩
 rw[hs,hP]
 repeat refine gG ?_
 refine adh (fun h=>by cases h) fun _=>?_
 refine .inl ⟨_,fun _=>(mW P h4 (by omega)).ok,?_⟩
 refine .inl ⟨_,fun _=>He.ok,?_⟩
 exact⟨DV.Le.of_eq (by rw[Wr]),tv⟩
end
section
open Go.TM
variable [aW]
theorem Q3(P:PL)(c:Ch)(m:eS)(dw:m.ps≠[])(hv:bE (eH P c (m.fr,m.it))=true)(hp:bE m.ps=true)(dz:Gc m.ps (cW (eH P c (m.fr,m.it))))(ck:(eH P c (m.fr,m.it)).length*(2*m.ps.length+1)<=90000):
 aw Tryz.prog 215 [.ptr 0 0,cP (ay m)] 14 (dP 0 0 P c) 0 [.dv (aR m.ps),.dv (I 0)] (dP 0 0 P { c with st:=aN c.st (m.fr,m.it) (mu (eH P c (m.fr,m.it)) m.ps) }):=by
 have hw:=(Du m.ps (eH P c (m.fr,m.it)) hp hv dz).ok
 have ho:=(Q2 (eH P c (m.fr,m.it)) m.ps hv hp ck).ok
 have hl:=(fI hp).1
 refine cO Tryz.func215 rfl (by kernel_rfl) ?_
 repeat refine gG ?_
 refine .inr (cl [0,1,2,3,4,5,6,7,8,9,10,11,12,13] (iH P c m.fr _) (by kernel_rfl) rfl rfl ?_)
 repeat refine gG ?_
 refine adh (fun h=>?_) fun _=>?_
 ·have h:=beq_iff_eq.1 h
  rw[adi]at h
  exact absurd (List.length_eq_zero_iff.1 (by omega)) dw
 refine .inl ⟨_,fun _=>hw,?_⟩
 refine adh (fun h=>by cases h) fun _=>?_
 refine .inl ⟨_,fun _=>ho,?_⟩
 refine⟨mX,r5 (m.fr,m.it),rfl,rfl,?_⟩
 refine⟨aR (mu (eH P c (m.fr,m.it)) m.ps),⟨rf,tv⟩,rfl,false,fun _=>⟨nW c.st _,gi _⟩,?_⟩
 rw[show dh (qR c.st) (r5 (m.fr,m.it)) (aR (mu (eH P c (m.fr,m.it)) m.ps))=qR (aN c.st (m.fr,m.it) (mu (eH P c (m.fr,m.it)) m.ps))from cY jc c.st _ _]
 refine adh (by kernel_rfl) ?_
 refine .inr (cl [] (fj m.ps (by omega)) (by kernel_rfl) rfl rfl ?_)
 exact⟨_,_,⟨rfl,rfl⟩,by kernel_rfl,⟨nS _,rf,tv⟩,bl (k:=dP 0 0 P { c with st:=aN c.st (m.fr,m.it) (mu (eH P c (m.fr,m.it)) m.ps) }) rfl⟩
end
section
open Go.TM Go.RowKit
variable [aW]
theorem IX(l:List Lt)(hl:l≠[]):ai Tryz.prog 238 [aR l] [.GS 3 (l.map aD)]:=by
 refine⟨FZ,fun w M vs dz hg hr=>?_⟩
 match vs,hr with
 |[v],hr=>
  have hv:bq M (.sl 3 (l.map aD)) v:=hr.2 0 _ v rfl rfl
  have dw:l.map aD≠[]:=fun h=>hl (List.map_eq_nil_iff.1 h)
  generalize l.map aD=k at hv dw
  cases hv with
  |slnil=>exact absurd rfl dw
  |sl sz ls a cap cell eP hlen hc To=>
   refine(y5 a _ cap eP w).mono ?_
   rintro e w' ⟨rfl,rfl⟩
   exact⟨_,M,rfl,Below.refl _ _,Mem.Le.refl _,dz,fun _ _=>rfl,.GS _ _ a cell hlen hc To⟩
end
section
open Go.TM
def SZ(P:PL)(c:Ch)(x:Lt):Int:=if(kD [x] ((ss c.ret P.ret x.f).getD [])).1=[]then 0 else 10
def Q4(P:PL)(c:Ch)(x:Lt):Ch:=if(kD [x] ((ss c.ret P.ret x.f).getD [])).1=[]then { c with ret:=aN c.ret x.f (cW ((ss c.ret P.ret x.f).getD []++[x])) }else c
theorem Yl(x:Lt):(aD x).aQ:=fun d hd=>by
 have hd:d∈[I x.f,I x.a,I x.n]:=hd
 simp only[adp,List.mem_nil_iff,or_false]at hd
 rcases hd with rfl|rfl|rfl<;>rfl
variable [aW]
theorem MO(P:PL)(c:Ch)(m:eS)(x:Lt)(f:j4)(hp:m.ps=[x])(hx:aJ x=true)(hxf:x.f<=9223372036854775807)(hs:0<=P.sh/\P.sh<=12)(oH:0<=x.f-P.sh*4294967296)(hf:P.fl[(x.f-P.sh*4294967296).toNat]?=some f)(cI:f.to=0/\f.kind≠6/\f.it=m.it/\x.a+x.n<=f.n)
 (hq:∀l,ss c.ret P.ret x.f=some l->l≠[]/\NS l/\(∀y∈l,aJ y=true)/\l.length<=4000):
 aw Tryz.prog 217 [.ptr 0 0,cP (ay m)] 14 (dP 0 0 P c) 0 [.dv (I (SZ P c x))] (dP 0 0 P (Q4 P c x)):=by
 have lp:(m.ps.map aD).length=1:=by rw[hp];rfl
 have ix:(m.ps.map aD)[(0:Int).toNat]?=some (aD x):=by rw[hp];rfl
 have lf:(P.fl.map bB).length=P.fl.length:=adi ..
 have hb:=ak.1 hx
 have ou:=(adj.1 hf).1
 have hfi:(P.fl.map bB)[(x.f-P.sh*4294967296).toNat]?=some (bB f):=by rw[adk,hf];rfl
 refine cO Tryz.func217 rfl (by kernel_rfl) ?_
 repeat refine gG ?_
 refine⟨Nat,fun i=>⟨15,[(0,.ptr 0 0),(3,.ptr 14 0),(13,.dv (.sl 3 (m.ps.map aD))),(14,.dv (I (m.ps.map aD).length)),(15,.dv (I i))],dP 0 0 P (match i with|0=>c|_=>Q4 P c x)++[(14,.cells (fp (ay m).cells))]⟩,fun i=>i<=1/\(i=1->SZ P c x=0),fun i=>1-i,0,fun _=>rfl,jn rfl rfl rfl rfl,by omega,?_⟩
 rintro i ⟨hi,hz⟩
 refine adh ?_ ?_
 ·intro h
  have h0:i=0:=by have:=adz h;omega
  subst h0
  refine⟨aD x,fun _=>⟨by omega,ix⟩,?_⟩
  repeat first|refine gG ?_|refine⟨fun _=>by omega,?_⟩
  refine adh (by kernel_rfl) ?_
  repeat refine gG ?_
  refine adh (fun h=>?_) fun _=>?_
  ·rw[lf]at h;simp at h;omega
  refine⟨fun _=>⟨oH,by rw[lf];omega⟩,bB f,fun _=>hfi,?_⟩
  repeat first|refine gG ?_|refine⟨fun _=>by omega,?_⟩
  refine adh (fun h=>?_) fun _=>?_
  ·simp[cI.1,cI.2.1,cI.2.2.1]at h;omega
  refine .inr (cl [4,13] (y4 c.ret P.ret x.f) (by kernel_rfl) rfl rfl ?_)
  cases hu:ss c.ret P.ret x.f with
  |some l=>
   refine adh (by kernel_rfl) ?_
   refine .inl ⟨[aD x],rfl,⟨rf,rf,rf,tv⟩,(by simp;rfl),?_⟩
   obtain⟨q0,q1,q2,q3⟩:=hq l hu
   have lS:l.length+1<=4001:=by omega
   refine .inl ⟨_,fun _=>(j3 [x] l (by simpa using hx) q1 q2 (by simp) (by omega) (by simp;omega)).ok,?_⟩
   repeat refine gG ?_
   refine adh (fun h=>?_) fun h=>?_
   ·have he:¬(kD [x] ((ss c.ret P.ret x.f).getD [])).1=[]:=by
     rw[hu,Option.getD_some];intro e;rw[e]at h;cases h
    rw[show SZ P c x=10 from if_neg he,show Q4 P c x=c from if_neg he]
    exact ext (by kernel_rfl) rfl rfl
   have he:(kD [x] ((ss c.ret P.ret x.f).getD [])).1=[]:=by
    rw[hu,Option.getD_some]
    have h:¬(0:Int)<((kD [x] l).1.map aD).length:=adA h
    rw[adi]at h
    exact List.length_eq_zero_iff.1 (by omega)
   have e1:SZ P c x=0:=if_pos he
   have e2:Q4 P c x={ c with ret:=aN c.ret x.f (cW (l++[x])) }:=by unfold Q4;rw[if_pos he,hu];rfl
   rw[e1,e2]
   refine .inl ⟨_,fun _=>(IX l q0).ok,?_⟩
   refine .inl ⟨[aD x],rfl,⟨rf,rf,rf,tv⟩,(by simp;rfl),?_⟩
   refine .inl ⟨[aD x],bW.refl _,(fun y hy d hd=>by rw[ado]at hy;subst hy;exact Yl x d hd),by simp,bL (n:=(l.map aD).length+[aD x].length) (by simp;omega),by simp;omega,?_⟩
   refine .inl (.inr ⟨_,fun _=>⟨[aR (l++[x])],⟨(by have:=nS (l++[x]);rw[adB]at this;exact this),tv⟩,mW (l++[x]) (fun y hy=>by
    rcases adr.1 hy with hy|hy
    ·exact q2 y hy
    ·rw[ado]at hy;subst hy;exact hx) (by simp;omega)⟩,?_⟩)
   refine⟨j7,eI x.f,rfl,rfl,aR (cW (l++[x])),⟨rf,tv⟩,rfl,false,fun _=>⟨De c.ret _,gi _⟩,?_⟩
   rw[show dh (pQ c.ret) (eI x.f) (aR (cW (l++[x])))=pQ (aN c.ret x.f (cW (l++[x])))from cY jd c.ret _ _]
   refine adh (by kernel_rfl) ?_
   exact⟨fun _=>by omega,1,jn rfl rfl rfl rfl,⟨by omega,fun _=>rfl⟩,mlt (by omega)⟩
  |none=>
   have he:(kD [x] ((ss c.ret P.ret x.f).getD [])).1=[]:=by rw[hu];exact Df x
   have e1:SZ P c x=0:=if_pos he
   have e2:Q4 P c x={ c with ret:=aN c.ret x.f (cW [x]) }:=by unfold Q4;rw[if_pos he,hu];rfl
   refine adh (by kernel_rfl) ?_
   refine .inl ⟨[aD x],rfl,⟨rf,rf,rf,tv⟩,(by simp;rfl),?_⟩
   have hd:=j3 [x] [] (by simpa using hx) NS.nil (by simp) (by simp) (by simp) (by simp)
   rw[Df]at hd
   refine .inl ⟨_,fun _=>⟨[aR [x],aR []],⟨rf,DV.aY 3,tv⟩,hd⟩,?_⟩
   repeat refine gG ?_
   refine adh (fun h=>(by cases h)) fun _=>?_
   rw[e1,e2]
   refine .inl ⟨_,fun _=>y6.ok,?_⟩
   refine .inl ⟨[aD x],rfl,⟨rf,rf,rf,tv⟩,(by simp;rfl),?_⟩
   refine .inr ⟨[aD x],bW.refl _,Nat.le_of_ble_eq_true rfl,Nat.le_of_ble_eq_true rfl,?_⟩
   refine .inl (.inr ⟨_,fun _=>⟨[aR [x]],⟨rf,tv⟩,mW [x] (by simpa using hx) (by simp)⟩,?_⟩)
   refine⟨j7,eI x.f,rfl,rfl,aR (cW [x]),⟨rf,tv⟩,rfl,false,fun _=>⟨De c.ret _,gi _⟩,?_⟩
   rw[show dh (pQ c.ret) (eI x.f) (aR (cW [x]))=pQ (aN c.ret x.f (cW [x]))from cY jd c.ret _ _]
   refine adh (by kernel_rfl) ?_
   exact⟨fun _=>by omega,1,jn rfl rfl rfl rfl,⟨by omega,fun _=>rfl⟩,mlt (by omega)⟩
 ·intro h
  have h1:i=1:=by have:=adA h;omega
  subst h1
  rw[hz rfl]
  exact ext (by kernel_rfl) rfl rfl
theorem Gd(P:PL)(c:Ch)(m:eS)(x:Lt)(f:j4)(fo:m.fr=0)(h9:c.sp.kind=9)(hp:m.ps=[x])(hx:aJ x=true)(hxf:x.f<=9223372036854775807)(hs:0<=P.sh/\P.sh<=12)(oH:0<=x.f-P.sh*4294967296)(hf:P.fl[(x.f-P.sh*4294967296).toNat]?=some f)(cI:f.to=0/\f.kind≠6/\f.it=m.it/\x.a+x.n<=f.n)
 (hq:∀l,ss c.ret P.ret x.f=some l->l≠[]/\NS l/\(∀y∈l,aJ y=true)/\l.length<=4000):
 aw Tryz.prog 145 [.ptr 0 0,cP (ay m)] 14 (dP 0 0 P c) 0 [.dv (aR [x]),.dv (I (SZ P c x))] (dP 0 0 P (Q4 P c x)):=by
 refine cO Tryz.func145 rfl (by kernel_rfl) ?_
 repeat refine gG ?_
 refine adh (fun h=>absurd fo (by simpa using h)) fun _=>?_
 refine adh (fun h=>absurd (h9.symm.trans (beq_iff_eq.1 h)) (by decide)) fun _=>?_
 refine adh (fun _=>?_) fun h=>absurd h9 (beq_eq_false_iff_ne.1 h)
 refine .inr (cl [] (fj m.ps (by rw[hp];simp)) (by kernel_rfl) rfl rfl ?_)
 refine .inr (cl [0,1,2,3,4,5,6,7,8,9,10,11,12,13] (MO P c m x f hp hx hxf hs oH hf cI hq) (by kernel_rfl) rfl rfl ?_)
 refine adh (by kernel_rfl) ?_
 rw[hp]
 exact⟨_,_,⟨rfl,rfl⟩,by kernel_rfl,⟨nS _,rf,tv⟩,bl (k:=dP 0 0 P (Q4 P c x)) rfl⟩
end
section
open Go.TM
structure Q5(R:RL)(s:dI)(m:eS)(x:Lt):Prop where
 base:dG m=true
 kind:s.kind=7
 fr:0<m.fr
 ps:m.ps=[x]
 pos:aJ x=true
 n:x.n=m.n
 lot:∃y∈bY R.st (m.fr,m.it),y.f=x.f/\y.a<=x.a/\x.a+x.n<=y.a+y.n
structure Q6(R:RL)(s:dI)(m:eS)(x:Lt)(f:j4):Prop where
 base:dG m=true
 kind:s.kind=9
 fr:m.fr=0
 ps:m.ps=[x]
 pos:aJ x=true
 mem:f∈R.fl
 id:f.id=x.f
 ok:f.to=0/\f.kind≠6/\f.it=m.it/\x.a+x.n<=f.n
theorem KM{R:RL}{s:dI}{m:eS}{x:Lt}(hG:Good R)(hD:Dx R)(hl:R.fl.length+1<=160)(h:Q5 R s m x):
 bz R s m=(0,G5 R s m ([x],mu (bY R.st (m.fr,m.it)) [x]))/\(Good (G5 R s m ([x],mu (bY R.st (m.fr,m.it)) [x]))/\(G5 R s m ([x],mu (bY R.st (m.fr,m.it)) [x])).fl.length=R.fl.length+1/\∀j,b8 (G5 R s m ([x],mu (bY R.st (m.fr,m.it)) [x])).st j=if m.it=j then b8 R.st j+(if m.fr=0 then m.n else 0)-(if m.to=0 then m.n else 0)else b8 R.st j)/\Dx (G5 R s m ([x],mu (bY R.st (m.fr,m.it)) [x])):=by
 obtain⟨y,hy,hi⟩:=h.lot
 have Fh:=ak.1 h.pos
 have hS:=hG.tz (m.fr,m.it)
 have VB:∀z∈bY R.st (m.fr,m.it),1<=z.n:=fun z hz=>(ak.1 (hS.1 z hz)).2.2.1
 have hP1:∀z∈[x],1<=z.n:=fun z hz=>by rw[ado]at hz;subst hz;exact Fh.2.2.1
 obtain⟨d1,d2⟩:=hD.tz (m.fr,m.it)
 obtain⟨w1,w2⟩:=aba d1 VB hy Fh.2.2.1 hi
 have wp:∀z∈mu (bY R.st (m.fr,m.it)) [x],aJ z=true:=by
  have:=(yL (s:=bY R.st (m.fr,m.it)) (P:=[x]) hS.1 (fun z hz=>by rw[ado]at hz;subst hz;exact h.pos) (bY R.st (m.fr,m.it)).length).1
  rw[KI]at this;exact this
 have hn:m.n<=cM (bY R.st (m.fr,m.it)):=by
  have:=(CE (l:=mu (bY R.st (m.fr,m.it)) [x]) fun z hz=>mU (wp z hz)).1
  rw[w1]at this;have:=h.n;omega
 refine⟨(UW hG h.base h.fr h.ps h.pos hy hi).2,Wm hG hl h.base h.fr (by rw[h.kind];decide) _ hn (by simp) wp (by have:=hS.2;simp only;omega) (by rw[w1,h.n]),QP hD hG h.base h.fr _ (aa9 d1 VB hP1) fun z hz=>?_⟩
 have hz1:=ak.1 (wp z hz)
 obtain⟨q,hq,hu⟩:=((Cy VB hP1).2 z.f z.a).1 ⟨z,hz,rfl,Int.le_refl _,by omega⟩ |>.1
 have:=d2 q hq
 rw[<-hu.1];exact this
theorem U3{R:RL}{s:dI}{m:eS}{x:Lt}{f:j4}(hG:Good R)(hD:Dx R)(hl:R.fl.length+1<=160)(h:Q6 R s m x f)(h0:(bz R s m).1=0):
 bz R s m=(0,wL R s m [x] [])/\¬1099511627776<b8 R.st m.it+m.n/\(kD [x] ((kI R.fl x.f).getD [])).1=[]/\(Good (wL R s m [x] [])/\(wL R s m [x] []).fl.length=R.fl.length+1/\∀j,b8 (wL R s m [x] []).st j=if m.it=j then b8 R.st j+(if m.fr=0 then m.n else 0)-(if m.to=0 then m.n else 0)else b8 R.st j)/\Dx (wL R s m [x] []):=by
 have hb:=adz h.base
 have kp:0<m.to:=by have:=h.fr;omega
 have fC:=hG.sh
 have SQ:=KK hD h.ps h.pos (by omega) h.mem h.id h.ok
 rw[w9 R s m h.fr kp]at h0⊢
 have he:F3 R s.kind m=tw R.fl m.it m.ps:=by unfold F3;rw[h.kind];rfl
 unfold wR at h0⊢
 rw[he,SQ]at h0⊢
 by_cases c1:(kD [x] ((kI R.fl x.f).getD [])).1=[]
 ·rw[if_pos c1]at h0⊢
  by_cases c2:1099511627776<b8 R.st m.it+m.n
  ·rw[if_neg (by simp),if_pos c2]at h0;cases h0
  rw[if_neg (by simp),if_neg c2]
  rw[if_pos (.inr h.kind),h.ps,show tx s.kind=false by rw[h.kind];rfl,cond_false]
  refine⟨rfl,c2,c1,Yf hG hl h.base h.fr [x] [] c2 (by simp) (by simp) (fun k=>by rw[h.kind]at k;cases k),Wn hD hG h.base kp [x] [] fun _ _=>⟨x,h.pos,rfl,?_⟩⟩
  have:=(hG.NL f h.mem).2.2.2.1
  rw[h.id]at this;exact this
 ·rw[if_neg c1,if_pos (by simp)]at h0;cases h0
theorem U4{R:RL}{s:dI}{m:eS}(hG:Good R)(hD:Dx R)(hm:IL R.sh s m)(h0:(bz R s m).1=0):Dx (bz R s m).2:=by
 have hb:=adz hm.base
 have hS:=hG.tz (m.fr,m.it)
 have ou:=hG.fl
 have fC:=hG.sh
 by_cases fo:0<m.fr
 ·have hp:m.ps=[]:=by
   rcases hm.ps with h|h
   ·omega
   ·exact h.2.2
  have dw:bY (aN R.st (m.fr,m.it) (fJ (bY R.st (m.fr,m.it)) m.n (w6 m.it)).2) (m.to,m.it)=bY R.st (m.to,m.it):=by
   rw[jb,if_neg];intro h;injection h with h1;omega
  rw[Dh R s m fo hp]at h0⊢
  by_cases hc:cT (bY R.st (m.fr,m.it))<m.n
  ·rw[if_pos hc]at h0;cases h0
  rw[if_neg hc]
  have hn:m.n<=cM (bY R.st (m.fr,m.it)):=by rw[Dg (gj hS.1 (by omega))]at hc;omega
  obtain⟨d1,d2⟩:=hD.tz (m.fr,m.it)
  obtain⟨t1,t2⟩:=UQ (w6 m.it) d1 (by omega:0<=m.n) hS.1 hn
  have tp:=(KC (w6 m.it) (by omega:0<=m.n) hS.1 hn).2.1
  simp only[dw]
  refine QP hD hG hm.base fo _ t1 fun z hz=>?_
  have hz1:=ak.1 (tp z hz)
  obtain⟨q,hq,hu⟩:=t2 z.f z.a ⟨z,hz,rfl,Int.le_refl _,by omega⟩
  have:=d2 q hq
  rw[<-hu.1];exact this
 ·have oH:m.fr=0:=by omega
  rw[w9 R s m oH (by omega)]at h0⊢
  unfold wR at h0⊢
  by_cases he:F3 R s.kind m≠0
  ·rw[if_pos he]at h0;exact absurd h0 he
  rw[if_neg he]at h0⊢
  by_cases hc:1099511627776<b8 R.st m.it+m.n
  ·rw[if_pos hc]at h0;cases h0
  rw[if_neg hc]
  refine Wn hD hG hm.base (by omega) _ _ fun k9 _=>?_
  rcases hm.ps with⟨h5,_⟩|⟨_,h9,_⟩
  ·rw[k9]at h5;cases h5
  ·exact absurd k9 h9
theorem KN{α β:Type}{g:α->List β}:∀{l:List α},(∀x∈l,(g x).length<=1)->(l.flatMap g).length<=l.length
 |[],_=>adM _
 |a::l,h=>by
  have h1:=h a adu
  have h2:=KN (g:=g) fun x hx=>h x (adq _ hx)
  rw[List.flatMap_cons,adv,List.length_cons];omega
theorem Ym{R:RL}(h:Dx R)(g:Int):(G6 R.fl g).length<=R.fl.length:=by
 unfold G6
 refine Nat.le_trans (List.length_filter_le _ _) (Nat.le_trans (KN fun f hf=>?_) (List.length_filter_le _ _))
 rw[List.mem_filter,adT,beq_iff_eq,beq_iff_eq]at hf
 obtain⟨x,_,h2,_⟩:=h.rv f hf.1 hf.2.1 hf.2.2
 rw[h2];exact adM _
theorem Yn{R:RL}(hD:Dx R)(ou:R.fl.length<=160){g:Int}{l:List Lt}(h:kI R.fl g=some l):l≠[]/\NS l/\(∀y∈l,aJ y=true)/\l.length<=4000:=by
 unfold kI at h
 split at h
 ·cases h
 ·rename_i dw
  injection h with h
  subst h
  have hp:=IQ hD (g:=g)
  have h1:=qw hp
  have h2:=Ym hD g
  have so:=gA fun z hz=>(ak.1 (hp z hz)).2.2.1
  refine⟨fun e=>?_,so.1,h1.1,by omega⟩
  obtain⟨z,hz⟩:=List.exists_mem_of_ne_nil _ dw
  have:=(so.2 z.f z.a).2 ⟨z,hz,rfl,Int.le_refl _,by have:=ak.1 (hp z hz);omega⟩
  rw[e]at this;exact cA this
def zb(R:RL)(s:dI):Prop:=(∀m∈s.mv,IL R.sh s m)\/∃m x,s.mv=[m]/\(Q5 R s m x\/∃f,Q6 R s m x f)
theorem U5{R:RL}{s:dI}{m:eS}{x:Lt}(hG:Good R)(hD:Dx R)(hl:R.fl.length+1<=160)(hm:Q5 R s m x\/∃f,Q6 R s m x f)(h0:(bz R s m).1=0):
 (Good (bz R s m).2/\(bz R s m).2.fl.length=R.fl.length+1/\∀j,b8 (bz R s m).2.st j=if m.it=j then b8 R.st j+(if m.fr=0 then m.n else 0)-(if m.to=0 then m.n else 0)else b8 R.st j)/\Dx (bz R s m).2:=by
 rcases hm with hm|⟨f,hm⟩
 ·obtain⟨e,h1,h2⟩:=KM hG hD hl hm
  rw[e];exact⟨h1,h2⟩
 ·obtain⟨e,_,_,h1,h2⟩:=U3 hG hD hl hm h0
  rw[e];exact⟨h1,h2⟩
variable [aW]
theorem Yo{P:PL}{s:dI}{c:Ch}{R:RL}{m:eS}{x:Lt}(hs:km P s c R)(hG:Good R)(hD:Dx R)(hl:R.fl.length+1<=160)(h:Q5 R s m x):
 ∃c',aw Tryz.prog 99 [.ptr 0 0,cP (ay m)] 14 (dP 0 0 P c) 0 [.dv (I (bz R s m).1)] (dP 1 1 P c')/\((bz R s m).1=0->km P s c' (bz R s m).2):=by
 obtain⟨e,⟨_,_,hq⟩,_⟩:=KM hG hD hl h
 obtain⟨y,hy,hi⟩:=h.lot
 have hS:=hG.tz (m.fr,m.it)
 have ou:=hG.fl
 have hv:=gj hS.1 (by omega)
 have est:=hs.st (m.fr,m.it)
 have ji:=(ak.1 h.pos).2.2.1
 have dz:Gc m.ps (cW (eH P c (m.fr,m.it))):=by
  rw[est,h.ps]
  have so:=gA (Dl hv)
  have:=(TT (a:=[x]) (fun z hz=>by rw[ado]at hz;subst hz;exact ji) so.1).2 fun f u hu=>(so.2 f u).2 ⟨y,hy,by have hu:=dY.1 hu;unfold fa at hu⊢;omega⟩
  intro z hz p hp
  exact this p (List.mem_flatMap.2 ⟨z,hz,hp⟩)
 have hw:=r9 P c _ m _ 0 (by have:=h.fr;omega) (Q3 P c m (by rw[h.ps];simp) (by rw[est];exact hv) (by rw[h.ps];exact val_one h.pos) dz (by
  rw[est,h.ps]
  have:=hS.2
  have h3:(bY R.st (m.fr,m.it)).length*(2*[x].length+1)<=160*3:=Nat.mul_le_mul (by omega) (by simp)
  omega))
 rw[est,h.ps]at hw
 obtain⟨c',h1,h2⟩:=Q0 hs hG hl h.base h.fr (by rw[h.kind];decide) ([x],mu (bY R.st (m.fr,m.it)) [x]) hq hw
 rw[e]
 exact⟨c',h1,fun _=>h2⟩
theorem Yp{P:PL}{s:dI}{c:Ch}{R:RL}{m:eS}{x:Lt}{f:j4}(hs:km P s c R)(hc:c.fl=[])(hG:Good R)(hD:Dx R)(hl:R.fl.length+1<=160)(h:Q6 R s m x f)(hxf:x.f<=9223372036854775807):
 ∃c',aw Tryz.prog 99 [.ptr 0 0,cP (ay m)] 14 (dP 0 0 P c) 0 [.dv (I (bz R s m).1)] (dP 1 1 P c')/\((bz R s m).1=0->km P s c' (bz R s m).2):=by
 have hb:=adz h.base
 have kp:0<m.to:=by have:=h.fr;omega
 obtain⟨fC,hlen,IU⟩:=hs.bd hG m.it
 have hv:dX P c m=b8 R.st m.it:=hs.cj m.it
 have SY:0<=dX P c m/\dX P c m<=1099511627776:=by rw[hv];exact IU
 have Mm:R.fl=P.fl:=by rw[hs.fl,hc,List.append_nil]
 have hu:=hs.ret x.f
 obtain⟨i,hi⟩:=adE h.mem
 have ry:=hD.ids i f hi
 rw[h.id]at ry
 have hP:P.fl[(x.f-P.sh*4294967296).toNat]?=some f:=by
  rw[<-hs.sh,ry,show(R.sh*4294967296+(i:Int)-R.sh*4294967296).toNat=i by omega,<-Mm];exact hi
 have ht:=Gd P c m x f h.fr (by rw[hs.U1];exact h.kind) h.ps h.pos hxf fC (by rw[<-hs.sh,ry];omega) hP h.ok (fun l hl=>by rw[hu]at hl;exact Yn hD (by omega) hl)
 have SQ:=KK hD h.ps h.pos hG.sh.1 h.mem h.id h.ok
 have he:F3 R s.kind m=SZ P c x:=by
  unfold F3 SZ;rw[h.kind,hu];exact SQ
 rw[w9 R s m h.fr kp]
 unfold wR
 by_cases c1:(kD [x] ((ss c.ret P.ret x.f).getD [])).1=[]
 ·have e0:SZ P c x=0:=if_pos c1
  rw[show Q4 P c x={ c with ret:=aN c.ret x.f (cW ((ss c.ret P.ret x.f).getD []++[x])) }from if_pos c1,e0]at ht
  rw[if_neg (by rw[he,e0];simp)]
  by_cases c2:1099511627776<b8 R.st m.it+m.n
  ·rw[if_pos c2]
   exact⟨_,jg (Ga P c { c with ret:=aN c.ret x.f (cW ((ss c.ret P.ret x.f).getD []++[x])) } m [x] ⟨hb.2.2.1,hb.2.2.2.1⟩ SY fC hlen h.fr (by omega) (by show _<dX P c m+m.n;rw[hv];exact c2) ht),fun h=>absurd h (show¬(4:Int)=0 by decide)⟩
  rw[if_neg c2,if_pos (.inr h.kind),h.ps]
  have hmd:(bif tx s.kind then q7 R.fl (R.sh*4294967296+R.sp.length)else[])=[]:=by rw[show tx s.kind=false by rw[h.kind];rfl];rfl
  have hw:=(Yf hG hl h.base h.fr [x] (bif tx s.kind then q7 R.fl (R.sh*4294967296+R.sp.length)else[]) c2 (by simp) (by rw[hmd];simp) (fun k=>by rw[h.kind]at k;cases k)).2.2
  obtain⟨c',h1,h2⟩:=Wq hs hG hl h.base h.fr c2 c.imp (aN c.ret x.f (cW ((ss c.ret P.ret x.f).getD []++[x]))) [x] ⟨hs.nk.2.2.1,hs.nk.2.2.2.put _ _⟩ hw
   (fun md g=>by rw[Ds (f:=fe R s m [x] md) (show s.kind≠5 by rw[h.kind];decide)];exact hs.imp g)
   (fun md g=>by
    rw[QR (f:=fe R s m [x] md) hD h.kind h.fr rfl h.pos,<-hu]
    have hg:=hs.ret g
    unfold ss at hg⊢
    rw[iY]
    by_cases e:x.f=g
    ·rw[if_pos e,if_pos e];rfl
    ·rw[if_neg e,if_neg e];exact hg) ht
  exact⟨c',h1,fun _=>h2⟩
 ·have e0:SZ P c x=10:=if_neg c1
  rw[show Q4 P c x=c from if_neg c1,e0]at ht
  rw[if_pos (by rw[he,e0];decide),he,e0]
  exact⟨_,jg (y7 P c c m [x] 10 (by decide) ht),fun h=>absurd h (show¬(10:Int)=0 by decide)⟩
end
section
open Go.TM
def pfF(s:dI)(a:Int×RL)(m:eS):Int×RL:=if a.1=0 then bz a.2 s m else a
def fy(R:RL)(s:dI)(i:Nat):Int×RL:=(s.mv.take i).foldl (pfF s) (0,R)
theorem mZ{R:RL}{s:dI}{i:Nat}{m:eS}(h:s.mv[i]?=some m)(h0:(fy R s i).1=0):fy R s (i+1)=bz (fy R s i).2 s m:=by
 unfold fy at*
 rw[ads,h,adI]
 exact if_pos h0
theorem qB{R:RL}{s:dI}{i:Nat}(h0:(fy R s i).1≠0):∀j,fy R s (i+j)=fy R s i
 |0=>rfl
 |j+1=>by
  have ih:=qB h0 j
  unfold fy at*
  rw[show i+(j+1)=i+j+1 by omega,ads,adI,ih]
  cases s.mv[i+j]? with
  |none=>rfl
  |some m=>exact if_neg h0
theorem qC(R:RL)(s:dI)(m:eS):(bz R s m).2.sp=R.sp/\(bz R s m).2.sh=R.sh:=by
 unfold bz;split;exact⟨rfl,rfl⟩;split<;>exact⟨rfl,rfl⟩
theorem zd(R:RL)(s:dI):∀i,(fy R s i).2.sp=R.sp/\(fy R s i).2.sh=R.sh
 |0=>⟨rfl,rfl⟩
 |i+1=>by
  have ih:=zd R s i
  unfold fy at*
  rw[ads,adI]
  cases s.mv[i]? with
  |none=>exact ih
  |some m=>
   show(pfF s _ m).2.sp=_/\(pfF s _ m).2.sh=_
   unfold pfF
   split
   ·rw[(qC _ s m).1,(qC _ s m).2];exact ih
   ·exact ih
theorem Q7{n:Int}{s:dI}(h:lO n s=true):1<=s.mv.length:=by
 simp only[lO,adT,decide_eq_true_eq]at h
 exact h.1.1.2.2.2.1
def kn(R:RL)(s:dI):dI:={ s with id:=R.sh*4294967296+R.sp.length }
def Zo(R R1:RL):ae:=[(0,.cells (.dv (I R1.sh)::fp oF++[.own 6 0 0 [],.own 7 0 0 [],.own 3 0 0 []])),(1,.tree 1 0 (.aI 3 (R1.st.map kG))),(2,.tree 1 0 (.aI 11 (R1.fl.map bB))),(3,.tree 0 0 (.aI 7 (R1.sp.map aZ))),(6,.tree 0 0 (.aI 3 (R.st.map kG))),(7,.tree 0 0 (.aI 11 (R.fl.map bB)))]
variable [aW]
theorem cOR{f:Nat}{fn:Func}{c:Code}{args:List AV}{m ex:Nat}{K:ae}{Q:List AV->ae->Prop}(hf:Tryz.prog.funcs[f]?=some fn)(hb:fn.body=some c)
 (ha:((!(fn.name== "runtime.NumGoroutine"))&&(Nat.ble args.length fn.ntmps&&cU.wf ⟨m,dA 0 args,K⟩))=true) (h:fG Tryz.prog jk .fn fn.ntmps m c (pe jk fn m ex Q) m (dA 0 args) K):bX Tryz.prog f args m K ex Q:=by
 rw[adT,adV]at ha
 exact mF aG mixed (eY _) (fL _) hf hb ha.1 ha.2 h
theorem Ge(R:RL)(s:dI)(hn:R.sp.length<=900000)(hr:LM s.aX)(hl:s.mv.length<=1000)(mM:∀m∈s.mv,m.ps.length<=4000)(hc:65536<=R.sp.length\/lO (fw R.sp) s=false):aw Tryz.prog 34 [.ptr 0 0,cP (aZ s)] 4 (gn R) 0 [.dv (I 0),.dv (I (if 65536<=R.sp.length then 4 else 1))] (gn R):=by
 refine cO Tryz.func34 rfl (by kernel_rfl) ?_
 have lp:(R.sp.map aZ).length=R.sp.length:=adi ..
 refine adh (fun h=>?_) fun h=>?_
 ·have h:65536<=R.sp.length:=by have:=adz h;omega
  rw[if_pos h]
  exact ext (by kernel_rfl) rfl rfl
 ·have h:¬65536<=R.sp.length:=by have:=adA h;omega
  rw[if_neg h]
  refine .inr (cl [0,1,2,3] (yO R s hr (by omega) hl mM) (by kernel_rfl) rfl rfl ?_)
  rw[hc.resolve_left h]
  refine adh (fun _=>?_) fun h=>by cases h
  exact ext (by kernel_rfl) rfl rfl
theorem Q8(R:RL)(s:dI)(hr:LM s.aX)(hl:s.mv.length<=1000)(mM:∀m∈s.mv,m.ps.length<=20)(hn:R.sp.length<65536)(hp:lO (fw R.sp) s=true)(hG:∀i,RG (fy R s i).2)(hB:∀m∈s.mv,dG m=true)(hb:s.kind=5->∀m∈s.mv,∀x∈m.ps,0<=x.f/\x.f<=9223372036854775807):bX Tryz.prog 34 [.ptr 0 0,cP (aZ s)] 4 (gn R) 5 fun rs k=>
 ((fy R s s.mv.length).1=0/\rs=[.dv (I (R.sh*4294967296+R.sp.length)),.dv (I 0)]/\k=j6 1 1 1 { (fy R s s.mv.length).2 with sp:=R.sp++[kn R s] })\/
 ((fy R s s.mv.length).1≠0/\rs=[.dv (I 0),.dv (I (fy R s s.mv.length).1)]/\∃R1:RL,k=Zo R R1/\R1.sh=R.sh/\R1.sp=R.sp):=by
 refine cOR Tryz.func34 rfl (by kernel_rfl) ?_
 have lp:(R.sp.map aZ).length=R.sp.length:=adi ..
 have lm:(s.mv.map ay).length=s.mv.length:=adi ..
 have hR:=hG 0
 have aq:=hR.st
 have ou:=hR.fl
 have fC:=hR.sh
 have aq:R.st.length<=900:=aq
 have ou:R.fl.length<=900000:=ou
 have fC:0<=R.sh/\R.sh<=1000:=fC
 refine adh (fun h=>?_) fun h=>?_
 ·have:=adz h;omega
 refine .inr (cl [0,1,2,3] (yO R s hr (by omega) hl fun m hm=>by have:=mM m hm;omega) (by kernel_rfl) rfl rfl ?_)
 rw[hp]
 refine adh (fun h=>by cases h) fun _=>?_
 refine .inr (cl [0,1,2,3] (Ip R (by omega) (by omega) (by omega)) (by kernel_rfl) rfl rfl ?_)
 refine⟨Bool×Nat,fun x=>⟨9,[(0,.ptr 0 0),(3,.ptr 4 0),(7,.ptr 5 0),(8,.dv (I x.2))],j6 (bif x.1 then 1 else 0) (bif x.1 then 1 else 0) 0 (fy R s x.2).2++[(4,.cells (fp (aZ s).cells)),(5,.cells (.dv (I R.sh)::fp oF++[.own 6 0 0 [],.own 7 0 0 [],.own 8 0 0 []])),(6,.tree 0 0 (.aI 3 (R.st.map kG))),(7,.tree 0 0 (.aI 11 (R.fl.map bB))),(8,.tree 0 0 (.aI 7 (R.sp.map aZ)))]⟩,fun x=>x.2<=s.mv.length/\(fy R s x.2).1=0/\(x.1=false->x.2=0),fun x=>s.mv.length-x.2,(false,0),(fun x=>(by rcases x with⟨_|_,i⟩<;>rfl)),jn rfl rfl rfl rfl,⟨adx _,rfl,fun _=>rfl⟩,?_⟩
 rintro⟨b,i⟩ ⟨hi,h0,np⟩
 have np:b=false->i=0:=np
 have hi:i<=s.mv.length:=hi
 have h0:(fy R s i).1=0:=h0
 have ns:=zd R s i
 cases b
 ·refine adh ?_ ?_
  ·intro h
   have aB:i<s.mv.length:=by have:=adz h;omega
   obtain⟨m,hm⟩:∃m,s.mv[i]?=some m:=⟨_,abK aB⟩
   have nT:=adl hm
   have im:(s.mv.map ay)[(i:Int).toNat]?=some (ay m):=by rw[adk];simp[hm]
   have fM:=mZ hm h0
   have hpf:=yR (fy R s i).2 s m (hG i) (hB m nT) (mM m nT) fun hk=>hb hk m nT
   refine⟨ay m,fun _=>⟨Int.natCast_nonneg _,im⟩,?_⟩
   refine .inr (cl [0,1,2,3] hpf (by kernel_rfl) rfl rfl ?_)
   refine⟨by kernel_rfl,adh (fun he=>?_) fun he=>?_⟩
   ·have he:(bz (fy R s i).2 s m).1≠0:=fun h=>(by rw[h]at he;cases he)
    have iO:fy R s s.mv.length=bz (fy R s i).2 s m:=by
     have:=qB (R:=R) (s:=s) (i:=i+1) (by rw[fM];exact he) (s.mv.length-(i+1))
     rw[show i+1+(s.mv.length-(i+1))=s.mv.length by omega]at this
     rw[this,fM]
    refine⟨[.dv (I 0),.dv (I (bz (fy R s i).2 s m).1)],Zo R (bz (fy R s i).2 s m).2,.inr ⟨by rw[iO];exact he,by rw[iO],_,rfl,(qC _ s m).2.trans ns.2,(qC _ s m).1.trans ns.1⟩,by kernel_rfl,⟨rf,rf,tv⟩,bl (k:=Zo R (bz (fy R s i).2 s m).2) rfl⟩
   ·have he:(bz (fy R s i).2 s m).1=0:=by simpa using he
    exact⟨fun _=>by omega,(true,i+1),jn rfl (by simp only[fM];rfl) rfl rfl,⟨aB,by rw[fM];exact he,fun h=>(by cases h)⟩,mlt aB⟩
  ·intro h
   have:=adA h
   have FJ:=np rfl
   have:1<=s.mv.length:=Q7 hp
   omega
 ·refine adh ?_ ?_
  ·intro h
   have aB:i<s.mv.length:=by have:=adz h;omega
   obtain⟨m,hm⟩:∃m,s.mv[i]?=some m:=⟨_,abK aB⟩
   have nT:=adl hm
   have im:(s.mv.map ay)[(i:Int).toNat]?=some (ay m):=by rw[adk];simp[hm]
   have fM:=mZ hm h0
   have hpf:=yR (fy R s i).2 s m (hG i) (hB m nT) (mM m nT) fun hk=>hb hk m nT
   refine⟨ay m,fun _=>⟨Int.natCast_nonneg _,im⟩,?_⟩
   refine .inr (cl [0,1,2,3] hpf (by kernel_rfl) rfl rfl ?_)
   refine⟨by kernel_rfl,adh (fun he=>?_) fun he=>?_⟩
   ·have he:(bz (fy R s i).2 s m).1≠0:=fun h=>(by rw[h]at he;cases he)
    have iO:fy R s s.mv.length=bz (fy R s i).2 s m:=by
     have:=qB (R:=R) (s:=s) (i:=i+1) (by rw[fM];exact he) (s.mv.length-(i+1))
     rw[show i+1+(s.mv.length-(i+1))=s.mv.length by omega]at this
     rw[this,fM]
    refine⟨[.dv (I 0),.dv (I (bz (fy R s i).2 s m).1)],Zo R (bz (fy R s i).2 s m).2,.inr ⟨by rw[iO];exact he,by rw[iO],_,rfl,(qC _ s m).2.trans ns.2,(qC _ s m).1.trans ns.1⟩,by kernel_rfl,⟨rf,rf,tv⟩,bl (k:=Zo R (bz (fy R s i).2 s m).2) rfl⟩
   ·have he:(bz (fy R s i).2 s m).1=0:=by simpa using he
    exact⟨fun _=>by omega,(true,i+1),jn rfl (by simp only[fM];rfl) rfl rfl,⟨aB,by rw[fM];exact he,fun h=>(by cases h)⟩,mlt aB⟩
  intro h
  have he:i=s.mv.length:=by have:=adA h;omega
  subst he
  have x1:-9223372036854775808<=(fy R s s.mv.length).2.sh*4294967296/\(fy R s s.mv.length).2.sh*4294967296<=9223372036854775807:=by rw[ns.2];omega
  have x2:-9223372036854775808<=(fy R s s.mv.length).2.sh*4294967296+(((fy R s s.mv.length).2.sp.map aZ).length:Int)/\(fy R s s.mv.length).2.sh*4294967296+(((fy R s s.mv.length).2.sp.map aZ).length:Int)<=9223372036854775807:=by rw[ns.2,ns.1];omega
  refine⟨fun _=>x1,fun _=>x2,by kernel_rfl,?_⟩
  have Ub:(((fy R s s.mv.length).2.sp.map aZ).length:Int)=R.sp.length:=by rw[ns.1,lp]
  refine .inl ⟨[aZ (kn R s)],rfl,⟨aM (by rw[ns.2,Ub];rfl),rf,rf,rf,rf,rf,rf,tv⟩,(by simp;rfl),?_⟩
  refine .inr ⟨[aZ (kn R s)],bW.refl _,bS (by simp[ns.1];omega),by simp[ns.1];omega,?_⟩
  refine⟨by kernel_rfl,?_⟩
  refine⟨[.dv (I (R.sh*4294967296+R.sp.length)),.dv (I 0)],j6 1 1 1 { (fy R s s.mv.length).2 with sp:=R.sp++[kn R s] },.inl ⟨h0,rfl,rfl⟩,by kernel_rfl,⟨aM (by rw[ns.2,Ub]),rf,tv⟩,bl (k:=j6 1 1 1 { (fy R s s.mv.length).2 with sp:=R.sp++[kn R s] }) ?_⟩
  simp only[j6,adB,<-ns.1]
  rfl
end
end Go.Proofs.YtfpebgpgabjieaaGreatDoor
