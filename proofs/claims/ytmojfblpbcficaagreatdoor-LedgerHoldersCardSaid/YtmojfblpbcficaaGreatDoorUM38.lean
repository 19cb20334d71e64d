import Derived.Test.YtmojfblpbcficaaGreatDoorUM23
import Derived.Test.YtmojfblpbcficaaGreatDoorUM33
import Derived.Test.YtmojfblpbcficaaGreatDoorUM34
import Derived.Test.YtmojfblpbcficaaGreatDoorUM35
import Derived.Test.YtmojfblpbcficaaGreatDoorUM36
import Derived.Test.YtmojfblpbcficaaGreatDoorUM37
import Derived.Test.YtmojfblpbcficaaGreatDoorUM30
import Derived.Test.YtmojfblpbcficaaGreatDoorUM29
set_option linter.all false
open Go.TM.oA Go.TM.oB Go.TM.oC Go.TM.oD Go.TM.oE
namespace Go.Proofs.YtmojfblpbcficaaGreatDoor
set_option maxRecDepth 100000
set_option maxHeartbeats 4000000
section
open Go.TM
def ND(fl:List eS)(g:Int):Bool:=fl.any fun f=>f.kind==5&&f.ps.any fun x=>x.f==g
def w9(fl:List eS)(g:Int):Option (List Lt):=bif ND fl g then some [⟨g,0,3⟩]else none
theorem ns3(g:Int):NS [⟨g,0,3⟩]:=⟨adQ _ _,fun x hx=>by rw[ado]at hx;subst hx;show(1:Int)<=3;decide⟩
theorem abm(g:Int):ct [⟨g,0,3⟩]=[⟨g,0,3⟩]:=Lj (ns3 g)
theorem Ys{g:Int}(h:0<=g):az ⟨g,0,3⟩=true:=ai.2 ⟨h,by simp,by simp,by simp⟩
theorem UL{g:Int}(h:0<=g):bB [⟨g,0,3⟩]=true:=dF (fun x hx=>by rw[ado]at hx;subst hx;exact Ys h) (by simp)
theorem wo3(a b:Int):my [⟨a,0,3⟩] [⟨b,0,3⟩]=if a=b then[]else[⟨a,0,3⟩]:=by
 by_cases h:a=b
 ·subst h;rw[if_pos rfl];simp[my,nv,jc,gJ]
 ·rw[if_neg h];simp[my,nv,jc,gJ,h,aR]
theorem acz(a:Int):my [⟨a,0,3⟩] []=[⟨a,0,3⟩]:=by simp[my,nv,aR]
theorem acA{a b:Int}(ha:0<=a)(hb:0<=b):AN [⟨a,0,3⟩] [⟨b,0,3⟩]=if a=b then[⟨a,0,3⟩]else[]:=by
 have e:∀P,vj [⟨a,0,3⟩] P=bif bB P then my [⟨a,0,3⟩] P else[]:=fun P=>by
  simp only[vj,kI,UL ha,cond_true,abm,Jd,Bool.true_and]
 rw[AN,UL hb,cond_true,e,e,UL hb,cond_true,wo3]
 by_cases h:a=b
 ·rw[if_pos h,if_pos h,acz];rfl
 ·rw[if_neg h,if_neg h,UL ha,cond_true,wo3,if_pos rfl]
theorem GY{α:Type}{p q:α->Bool}:∀{l:List α},(∀x∈l,p x=q x)->l.any p=l.any q
 |[],_=>rfl
 |a::l,h=>by rw[List.any_cons,List.any_cons,h a adu,GY fun x hx=>h x (adq _ hx)]
theorem Yt{R:RL}(hG:Good R){g:Int}(hg:0<=g):R.fl.any (QD ⟨g,0,3⟩)=ND R.fl g:=GY fun f hf=>by
 unfold QD
 by_cases h:f.kind=5
 ·obtain⟨a,ha,e⟩:=(hG.AP f hf).2.2.2.2.2 h
  rw[h,e,acA ha hg]
  by_cases h2:a=g<;>simp[h2]
 ·simp[h]
structure ku(P:PL)(s:cJ)(c:Ch)(R:RL):Prop where
 sh:R.sh=P.sh
 sp:R.sp=P.sp
 UM:c.sp=spI P s
 nk:Nk c.st/\Nk c.b9/\Nk c.imp/\Nk c.ret
 ret:∀g,sI c.ret P.ret g=kK R.fl g
 fl:R.fl=P.fl++c.fl
 st:∀k,eH P c k=aW R.st k
 b9:∀j,(aX c.b9 j).getD (GG P.b9 j)=bK R.st j
 imp:∀g,sI c.imp P.imp g=w9 R.fl g
 sk:c.sk=rD R.fl (R.sh*4294967296+R.sp.length)
theorem UN(fl:List eS)(f:eS)(st:Int)(h:f.step=st):rD (fl++[f]) st=rD fl st++bif f.to==0 then[f.id]else[]:=by
 unfold rD
 rw[List.filter_append,adB,List.filter_cons,List.filter_nil,h]
 cases f.to==0<;>simp
theorem ku.next{P:PL}{s:cJ}{c c2:Ch}{R R2:RL}{f:eS}{it:Int}(d:Int)(h:ku P s c R)(e1:c2.sp=c.sp)(e2:Nk c2.st/\Nk c2.imp/\Nk c2.ret)(e3:∀g,sI c2.ret P.ret g=kK (R.fl++[f]) g)(e4:c2.fl=c.fl++[f])(e5:c2.b9=aH c.b9 it (bK R.st it+d))(e6:c2.sk=c.sk++bif f.to==0 then[f.id]else[])
 (e7:R2.sh=R.sh/\R2.sp=R.sp/\R2.fl=R.fl++[f]) (e8:f.step=R.sh*4294967296+R.sp.length) (e9:∀k,eH P c2 k=aW R2.st k) (e10:∀j,bK R2.st j=if it=j then bK R.st j+d else bK R.st j) (e11:∀g,sI c2.imp P.imp g=w9 (R.fl++[f]) g):ku P s c2 R2 where
 sh:=e7.1.trans h.sh
 sp:=e7.2.1.trans h.sp
 UM:=e1.trans h.UM
 nk:=⟨e2.1,by rw[e5];exact h.nk.2.1.put _ _,e2.2⟩
 ret g:=by rw[e7.2.2];exact e3 g
 fl:=by rw[e7.2.2,e4,h.fl,adJ]
 st:=e9
 b9 j:=by
  rw[e5,j4,e10]
  by_cases hj:it=j
  ·rw[if_pos hj,if_pos hj,hj];rfl
  ·rw[if_neg hj,if_neg hj];exact h.b9 j
 imp g:=by rw[e7.2.2];exact e11 g
 sk:=by rw[e6,e7.1,e7.2.1,e7.2.2,UN _ _ _ e8,h.sk]
theorem D6(P:PL)(c:Ch)(k:Ky)(l:List Lt)(m:SM)(hm:∀j,(aX m j).getD (aW P.st j)=eH P c j)(j:Ky):(aX (aH m k l) j).getD (aW P.st j)=if k=j then l else eH P c j:=by
 rw[j4];split
 ·rfl
 ·exact hm j
theorem Ro{P:PL}{s:cJ}{c:Ch}{R:RL}(h:ku P s c R)(m:dc)(l:List Lt)(md:List Int):dN P c m l md=cS R s m l md:=by
 unfold dN cS
 rw[h.UM,h.fl,h.sh,h.sp]
 unfold spI
 simp only[adv,eS.mk.injEq,and_true,true_and]
 omega
theorem D7{fl:List eS}{f:eS}(h:f.kind≠5)(g:Int):w9 (fl++[f]) g=w9 fl g:=by
 unfold w9 ND
 rw[List.any_append,List.any_cons,List.any_nil,beq_eq_false_iff_ne.2 h,Bool.false_and,Bool.or_false,Bool.or_false]
theorem JQ{fl:List eS}{f:eS}(h:¬(f.kind=9/\f.fr=0))(g:Int):kK (fl++[f]) g=kK fl g:=by unfold kK;rw[aa8 h]
def wR(R:RL)(s:cJ)(m:dc):Int×RL:=if EI R s.kind m≠0 then(EI R s.kind m,R)else if 1099511627776<bK R.st m.it+m.n then(4,R)else(0,wL R s m (if s.kind=5\/s.kind=9 then m.ps else[]) (bif tG s.kind then rD R.fl (R.sh*4294967296+R.sp.length)else[]))
theorem tT(R:RL)(s:cJ)(m:dc)(hf:m.fr=0)(ht:0<m.to):bl R s m=wR R s m:=QL R s m hf ht
theorem ku.bd{P:PL}{s:cJ}{c:Ch}{R:RL}(h:ku P s c R)(hG:Good R)(it:Int):(0<=P.sh/\P.sh<=12)/\(P.fl.length<=900000/\c.fl.length<=900000/\c.sk.length<=900000)/\0<=bK R.st it/\bK R.st it<=1099511627776:=by
 have pf:=hG.sh
 rw[h.sh]at pf
 have kP:=hG.fl
 have h1:=congrArg List.length h.fl
 have h2:=DA R.fl (R.sh*4294967296+R.sp.length)
 rw[<-h.sk]at h2
 rw[adv]at h1
 exact⟨by omega,by omega,(Dv it R.st).1,hG.tb _⟩
variable [bp]
theorem Rp{P:PL}{s:cJ}{c:Ch}{R:RL}{m:dc}(h:ku P s c R)(hG:Good R)(hl:R.fl.length+1<=160)(hb:du m=true)(fb:0<m.fr)(h5:s.kind≠5)(tk:List Lt×List Lt)(hq:∀j,bK (Gn R s m tk).st j=if m.it=j then bK R.st j+(if m.fr=0 then m.n else 0)-(if m.to=0 then m.n else 0)else bK R.st j)
 (hw:aj Tryz.prog 142 [.ptr 0 0,cH (ao m)] 14 (dM 0 0 P c) 0 [.dv (aM tk.1),.dv (I 0)] (dM 0 0 P { c with st:=aH c.st (m.fr,m.it) tk.2 })):
 ∃c',aj Tryz.prog 87 [.ptr 0 0,cH (ao m)] 14 (dM 0 0 P c) 0 [.dv (I 0)] (dM 1 1 P c')/\ku P s c' (Gn R s m tk):=by
 have hb:=adz hb
 obtain⟨pf,hlen,JR⟩:=h.bd hG m.it
 have hv:dU P c m=bK R.st m.it:=h.b9 m.it
 have SR:0<=dU P c m/\dU P c m<=1099511627776:=by rw[hv];exact JR
 have hT:=hG.mB (m.to,m.it)
 have GF:=Ro h m tk.1 []
 have OW:=D6 P c (m.fr,m.it) tk.2 c.st (fun j=>rfl)
 have hfk:(cS R s m tk.1 []).kind≠5:=h5
 have NF:∀g,sI c.ret P.ret g=kK (R.fl++[cS R s m tk.1 []]) g:=fun g=>by
  rw[JQ (fun hh=>absurd hh.2 (show¬m.fr=0 by omega))];exact h.ret g
 by_cases jH:m.to=0
 ·refine⟨_,jg (Rl P c { c with st:=aH c.st (m.fr,m.it) tk.2 } m _ ⟨hb.2.2.1,hb.2.2.2.1⟩ SR pf hlen (by omega) jH hw),?_⟩
  refine ku.next (f:=cS R s m tk.1 []) (it:=m.it) (-m.n) h rfl ⟨h.nk.1.put _ _,h.nk.2.2⟩ NF ?_ ?_ ?_ ⟨rfl,rfl,rfl⟩ rfl ?_ ?_ ?_
  ·exact congrArg (fun f=>c.fl++[f]) GF
  ·exact congrArg (fun t=>aH c.b9 m.it (t-m.n)) hv
  ·rw[show(cS R s m tk.1 []).to=0 from jH]
   exact congrArg (fun f:eS=>c.sk++[f.id]) GF
  ·intro k
   unfold Gn
   simp only[if_neg (by omega:¬0<m.to),eX]
   exact(OW k).trans (by rw[h.st])
  ·intro j
   refine(hq j).trans ?_
   rw[if_neg (by omega:¬m.fr=0),if_pos jH]
   split<;>omega
  ·intro g;rw[D7 hfk];exact h.imp g
 ·have cF:∀l,aW (aH R.st (m.fr,m.it) l) (m.to,m.it)=aW R.st (m.to,m.it):=fun l=>by
   rw[eX,if_neg];intro h;injection h with h1;omega
  have Gu:eH P { c with st:=aH c.st (m.fr,m.it) tk.2 } (m.to,m.it)=aW R.st (m.to,m.it):=by
   refine(OW _).trans ?_
   rw[if_neg (by intro h;injection h with h1;omega),h.st]
  have V7:=Rn P c { c with st:=aH c.st (m.fr,m.it) tk.2 } m _ ⟨hb.2.2.1,hb.2.2.2.1⟩ SR pf hlen (by omega) jH (by rw[Gu];exact dF hT.1 (by omega)) (by rw[Gu];omega) hw
  rw[Gu]at V7
  refine⟨_,jg V7,?_⟩
  refine ku.next (f:=cS R s m tk.1 []) (it:=m.it) 0 h rfl ⟨(h.nk.1.put _ _).put _ _,h.nk.2.2⟩ NF ?_ ?_ ?_ ⟨rfl,rfl,rfl⟩ rfl ?_ ?_ ?_
  ·exact congrArg (fun f=>c.fl++[f]) GF
  ·exact congrArg (fun t=>aH c.b9 m.it t) (hv.trans (by omega))
  ·rw[show((cS R s m tk.1 []).to==0)=false from beq_eq_false_iff_ne.2 jH]
   exact(List.append_nil _).symm
  ·intro k
   unfold Gn
   simp only[if_pos (by omega:0<m.to)]
   rw[eX]
   refine(D6 P { c with st:=aH c.st (m.fr,m.it) tk.2 } (m.to,m.it) _ _ (fun j=>rfl) k).trans ?_
   rw[show dN P { c with st:=aH c.st (m.fr,m.it) tk.2 } m tk.1 []=_ from GF]
   split
   ·rfl
   ·rw[eX];exact(OW k).trans (by rw[h.st])
  ·intro j
   refine(hq j).trans ?_
   rw[if_neg (by omega:¬m.fr=0),if_neg jH]
   split<;>omega
  ·intro g;rw[D7 hfk];exact h.imp g
theorem V8{P:PL}{s:cJ}{c:Ch}{R:RL}{m:dc}(h:ku P s c R)(hG:Good R)(hl:R.fl.length+1<=160)(hb:du m=true)(nE:m.fr=0)(hc:¬1099511627776<bK R.st m.it+m.n)(tU tV:IM (List Lt))(l:List Lt)(hni:Nk tU/\Nk tV)
 (hq:∀j,bK (wL R s m l (bif tG s.kind then rD R.fl (R.sh*4294967296+R.sp.length)else[])).st j=if m.it=j then bK R.st j+(if m.fr=0 then m.n else 0)-(if m.to=0 then m.n else 0)else bK R.st j)
 (himp:∀md g,sI tU P.imp g=w9 (R.fl++[cS R s m l md]) g) (NF:∀md g,sI tV P.ret g=kK (R.fl++[cS R s m l md]) g)
 (ht:aj Tryz.prog 142 [.ptr 0 0,cH (ao m)] 14 (dM 0 0 P c) 0 [.dv (aM l),.dv (I 0)] (dM 0 0 P ⟨c.sp,c.st,c.b9,tU,tV,c.fl,c.sk⟩)):
 ∃c',aj Tryz.prog 87 [.ptr 0 0,cH (ao m)] 14 (dM 0 0 P c) 0 [.dv (I 0)] (dM 1 1 P c')/\ku P s c' (wL R s m l (bif tG s.kind then rD R.fl (R.sh*4294967296+R.sp.length)else[])):=by
 have hb:=adz hb
 obtain⟨pf,hlen,JR⟩:=h.bd hG m.it
 have hv:dU P c m=bK R.st m.it:=h.b9 m.it
 have SR:0<=dU P c m/\dU P c m<=1099511627776:=by rw[hv];exact JR
 have pS:c.sp.kind=s.kind:=by rw[h.UM];rfl
 have hT:=hG.mB (m.to,m.it)
 have jH:0<m.to:=by omega
 have ZC:m.to≠0:=by omega
 have Gu:eH P ⟨c.sp,c.st,c.b9,tU,tV,c.fl,c.sk⟩ (m.to,m.it)=aW R.st (m.to,m.it):=h.st _
 have nxt:∀md,md=(bif tG s.kind then rD R.fl (R.sh*4294967296+R.sp.length)else[])->ku P s { AU P ⟨c.sp,c.st,c.b9,tU,tV,c.fl,c.sk⟩ m (dU P c m+m.n) l md with st:=aH c.st (m.to,m.it) (aR (aW R.st (m.to,m.it)) ⟨(dN P c m l md).id,0,m.n⟩) } { R with
  st:=aH R.st (m.to,m.it) (aR (aW R.st (m.to,m.it)) ⟨R.sh*4294967296+R.fl.length,0,m.n⟩)
  fl:=R.fl++[cS R s m l (bif tG s.kind then rD R.fl (R.sh*4294967296+R.sp.length)else[])] }:=by
  rintro md rfl
  have GF:=Ro h m l (bif tG s.kind then rD R.fl (R.sh*4294967296+R.sp.length)else[])
  rw[GF,hv]
  refine ku.next (f:=cS R s m l _) (it:=m.it) m.n h rfl ⟨h.nk.1.put _ _,hni⟩ (NF _) ?_ rfl ?_ ⟨rfl,rfl,rfl⟩ rfl ?_ ?_ ?_
  ·exact congrArg (fun f=>c.fl++[f]) GF
  ·rw[show((cS R s m l (bif tG s.kind then rD R.fl (R.sh*4294967296+R.sp.length)else[])).to==0)=false from beq_eq_false_iff_ne.2 ZC]
   exact(List.append_nil _).symm
  ·intro k
   rw[eX]
   refine(D6 P c (m.to,m.it) _ c.st (fun j=>rfl) k).trans ?_
   rw[h.st];rfl
  ·intro j
   refine(hq j).trans ?_
   rw[if_pos nE,if_neg ZC]
   split<;>omega
  ·intro g;exact himp _ g
 by_cases hM:s.kind=4\/s.kind=10
 ·have hi:tG s.kind=true:=by unfold tG;rcases hM with h|h<;>rw[h]<;>rfl
  have V7:=Rk P c ⟨c.sp,c.st,c.b9,tU,tV,c.fl,c.sk⟩ m l ⟨hb.2.2.1,hb.2.2.2.1⟩ SR pf hlen nE ZC (by rw[<-pS]at hM;exact hM) (by show¬_<dU P c m+m.n;rw[hv];exact hc) (by rw[Gu];exact dF hT.1 (by omega)) (by rw[Gu];omega) ht
  rw[Gu]at V7
  exact⟨_,jg V7,nxt c.sk (by rw[hi,h.sk];rfl)⟩
 ·have hi:tG s.kind=false:=by
   unfold tG;rw[Bool.or_eq_false_iff];exact⟨beq_eq_false_iff_ne.2 fun e=>hM (.inl e),beq_eq_false_iff_ne.2 fun e=>hM (.inr e)⟩
  have V7:=Rm P c ⟨c.sp,c.st,c.b9,tU,tV,c.fl,c.sk⟩ m l ⟨hb.2.2.1,hb.2.2.2.1⟩ SR pf hlen nE ZC (by rw[<-pS]at hM;exact⟨fun e=>hM (.inl e),fun e=>hM (.inr e)⟩) (by show¬_<dU P c m+m.n;rw[hv];exact hc) (by rw[Gu];exact dF hT.1 (by omega)) (by rw[Gu];omega) ht
  rw[Gu]at V7
  exact⟨_,jg V7,nxt [] (by rw[hi];rfl)⟩
theorem Rq(hS:ou){P:PL}{s:cJ}{c:Ch}{R:RL}{m:dc}(h:ku P s c R)(hG:Good R)(hl:R.fl.length+1<=160)(hm:DD R.sh s m):
 ∃c',aj Tryz.prog 87 [.ptr 0 0,cH (ao m)] 14 (dM 0 0 P c) 0 [.dv (I (bl R s m).1)] (dM 1 1 P c')/\((bl R s m).1=0->ku P s c' (bl R s m).2):=by
 have hb:=adz hm.base
 have MX:=DF hG hl hm
 obtain⟨pf,hlen,JR⟩:=h.bd hG m.it
 have hv:dU P c m=bK R.st m.it:=h.b9 m.it
 have SR:0<=dU P c m/\dU P c m<=1099511627776:=by rw[hv];exact JR
 have pS:c.sp.kind=s.kind:=by rw[h.UM];rfl
 by_cases fb:0<m.fr
 ·have hk:s.kind≠5/\m.ps=[]:=by
   rcases hm.ps with h|h
   ·omega
   ·exact⟨h.1,h.2.2⟩
  have e:=h.st (m.fr,m.it)
  have hS2:=hG.mB (m.fr,m.it)
  have pZ:=dF hS2.1 (by have:=hG.fl;omega)
  have cF:aW (aH R.st (m.fr,m.it) (eP (aW R.st (m.fr,m.it)) m.n (ur m.it)).2) (m.to,m.it)=aW R.st (m.to,m.it):=by
   rw[eX,if_neg];intro h;injection h with h1;omega
  rw[xA R s m fb hk.2]at MX⊢
  by_cases hc:br (aW R.st (m.fr,m.it))<m.n
  ·rw[if_pos hc]
   exact⟨c,jg (zO P c c m [] 10 (by decide) (sy P c c m [] 10 (by omega) (Rc hS P c m hk.2 ⟨hb.1,hb.2.1⟩ (by omega) (by rw[e];exact pZ) (by rw[e];exact adF hc)))),fun h=>absurd h (show¬(10:Int)=0 by decide)⟩
  rw[if_neg hc]at MX⊢
  have hw:=sy P c _ m _ 0 (by omega) (Re hS P c m hk.2 ⟨hb.1,hb.2.1⟩ (by omega) (by rw[e];exact pZ) (by rw[e];exact adG hc))
  rw[e]at hw
  simp only[cF]at MX⊢
  obtain⟨c',h1,h2⟩:=Rp h hG hl hm.base fb hk.1 _ (MX (by trivial)).2.2 hw
  exact⟨c',h1,fun _=>h2⟩
 ·have nE:m.fr=0:=by omega
  have jH:0<m.to:=by omega
  have ZC:m.to≠0:=by omega
  rw[tT R s m nE jH]at MX⊢
  have fin:∀(tU tV:IM (List Lt)) (l:List Lt),EI R s.kind m=0->Nk tU/\Nk tV->(if s.kind=5\/s.kind=9 then m.ps else[])=l->(∀md g,sI tU P.imp g=w9 (R.fl++[cS R s m l md]) g)->(∀md g,sI tV P.ret g=kK (R.fl++[cS R s m l md]) g)->aj Tryz.prog 142 [.ptr 0 0,cH (ao m)] 14 (dM 0 0 P c) 0 [.dv (aM l),.dv (I 0)] (dM 0 0 P ⟨c.sp,c.st,c.b9,tU,tV,c.fl,c.sk⟩)->
   ∃c',aj Tryz.prog 87 [.ptr 0 0,cH (ao m)] 14 (dM 0 0 P c) 0 [.dv (I (wR R s m).1)] (dM 1 1 P c')/\((wR R s m).1=0->ku P s c' (wR R s m).2):=by
   intro tU tV l he hni hle himp NF ht
   unfold wR at MX⊢
   rw[if_neg (fun hh=>hh he)]at MX⊢
   by_cases hc:1099511627776<bK R.st m.it+m.n
   ·rw[if_pos hc]
    exact⟨_,jg (GX P c ⟨c.sp,c.st,c.b9,tU,tV,c.fl,c.sk⟩ m l ⟨hb.2.2.1,hb.2.2.2.1⟩ SR pf hlen nE ZC (by show _<dU P c m+m.n;rw[hv];exact hc) ht),fun h=>absurd h (show¬(4:Int)=0 by decide)⟩
   rw[if_neg hc]at MX⊢
   rw[hle]at MX⊢
   obtain⟨c',h1,h2⟩:=V8 h hG hl hm.base nE hc tU tV l hni (MX rfl).2.2 himp NF ht
   exact⟨c',h1,fun _=>h2⟩
  rcases hm.ps with⟨h5,_,g,g0,g1,kF⟩|⟨h5,h9,kF⟩
  ·have hu:=h.imp g
   have ht:=JN P c m ⟨g,0,3⟩ nE (pS.trans h5) kF (Ys g0) g1 (fun l hl=>by
    rw[hu]at hl
    unfold w9 at hl
    cases hi:ND R.fl g with
    |false=>rw[hi]at hl;cases hl
    |true=>
     rw[hi]at hl;injection hl with hl;subst hl
     refine⟨ns3 g,fun y hy=>by rw[ado]at hy;subst hy;exact Ys g0,by simp,fun hn=>?_⟩
     exact(Ll (ns3 g).pos (ns3 g)).1 hn g 0 ⟨_,ado.2 rfl,rfl,by simp,by simp⟩ ⟨_,ado.2 rfl,rfl,by simp,by simp⟩)
   have he:EI R s.kind m=Nz P c ⟨g,0,3⟩:=by
    unfold EI Nz
    rw[if_pos h5,kF]
    unfold vn
    rw[Yt hG g0,hu,h.sh]
    unfold w9
    by_cases a1:g.tdiv 4294967296=P.sh
    ·simp[a1]
    ·by_cases a2:11<g.tdiv 4294967296
     ·rw[if_pos (.inr a2),beq_eq_false_iff_ne.2 a1,adF (show 12<=g.tdiv 4294967296 by omega)];rfl
     ·rw[if_neg (by simp only[not_or];exact⟨a1,a2⟩)]
      have:¬12<=g.tdiv 4294967296:=by omega
      simp only[beq_eq_false_iff_ne.2 a1,adG this,cond_false]
      cases ND R.fl g<;>rfl
   by_cases hz:Nz P c ⟨g,0,3⟩=0
   ·rw[show Rf P c ⟨g,0,3⟩={ c with imp:=aH c.imp g (ct [⟨g,0,3⟩]) }from if_pos hz,hz]at ht
    refine fin (aH c.imp g (ct [⟨g,0,3⟩])) c.ret _ (he.trans hz) ⟨h.nk.2.2.1.put _ _,h.nk.2.2.2⟩ (by rw[if_pos (.inl h5),kF]) (fun md j=>?_) (fun md j=>by rw[JQ (f:=cS R s m _ md) (fun hh=>by have:=hh.1.symm.trans h5;cases this)];exact h.ret j) ht
    have hj:=h.imp j
    unfold sI at hj⊢
    rw[j4]
    unfold w9 ND at hj⊢
    rw[List.any_append]
    have hf:([cS R s m [⟨g,0,3⟩] md].any fun f=>f.kind==5&&f.ps.any fun x=>x.f==j)=(g==j):=by
     simp[cS,h5]
    rw[hf]
    by_cases hgj:g=j
    ·subst hgj;rw[if_pos rfl,abm,beq_self_eq_true,Bool.or_true];rfl
    ·rw[if_neg hgj,hj,beq_eq_false_iff_ne.2 hgj,Bool.or_false]
   ·unfold wR
    rw[if_pos (by rw[he];exact hz),he]
    exact⟨_,jg (zO P c _ m _ _ hz ht),fun h0=>absurd h0 hz⟩
  ·have he:EI R s.kind m=0:=by unfold EI;rw[if_neg h5,if_neg h9]
   have ht:=JM P c m nE (by rw[pS];exact h5) (by rw[pS];exact h9)
   exact fin c.imp c.ret _ he h.nk.2.2 (by rw[if_neg (by omega)]) (fun md g=>by rw[D7 (f:=cS R s m [] md) h5];exact h.imp g) (fun md g=>by rw[JQ (f:=cS R s m [] md) (fun hh=>h9 hh.1)];exact h.ret g) ht
end
section
open Go.TM
def GZ(l set:List Lt):Prop:=∀x∈l,∀p∈jm set x,p.2=true
variable [bp]
def kWi(rc:RC):ae:=[(0,.dr rc .ready ((List.replicate 14 .any).set 4 (.ptr 1 0))),(1,.cells [.dv (B false)])]
theorem JS(x:Lt):dQ Tryz.prog [cH (aA x),.dv (B true)] 2 (kWi (Au Tryz.f252)) 0 fun r k=>r=[.dv (B true)]/\k=kWi (Au Tryz.f252):=by
 refine uR gi mixed rfl (by kernel_rfl) ?_
 refine T5 (fun h=>by cases h) fun _=>?_
 exact ext (by kernel_rfl) rfl rfl
def kWt(rc:RC)(l set:List Lt):ae:=kWi rc++[(2,.cells [.dv (aM l)]),(3,.cells [.dv (aM set)])]
structure IuS where
 j:Nat
 x:Lt
theorem JT(rc:RC)(l set:List Lt)(hl:∀x∈l,az x=true)(hs:NS set)(hp:∀x∈set,az x=true)(AR:l.length<=5000)(gM:set.length<=5000)(dw:GZ l set)
 (hY:∀x:Lt,dQ Tryz.prog [cH (aA x),.dv (B true)] 2 (kWi rc) 0 fun r k=>r=[.dv (B true)]/\k=kWi rc):
 aj Tryz.prog 267 [.eN 0,.ptr 2 0,.ptr 3 0] 4 (kWt rc l set) 0 [] (kWt rc l set):=by
 refine cO Tryz.func267 rfl (by kernel_rfl) ?_
 have ll:(l.map aA).length=l.length:=WY ..
 have ls:(set.map aA).length=set.length:=WY ..
 refine⟨Nat,fun i=>⟨4,[(0,.eN 0),(1,.ptr 2 0),(2,.ptr 3 0),(9,.dv (aM l)),(10,.dv (I l.length)),(11,.dv (I i))],kWt rc l set⟩,fun i=>i<=l.length,fun i=>l.length-i,0,fun _=>rfl,jn (by simp only[ll];rfl) rfl rfl rfl,adx _,?_⟩
 rintro i hi
 refine T5 (fun h=>?_) fun h=>?_
 ·have au:i<l.length:=by have:=adz h;omega
  obtain⟨x,hx⟩:∃x,l[i]?=some x:=⟨_,IF au⟩
  have ix:(l.map aA)[(i:Int).toNat]?=some (aA x):=by rw[abW];simp[hx]
  have SP:=hl x (ab6 hx)
  have Dn:=ai.1 SP
  have hpp:=(jK hs (by omega:0<=x.n)).pos
  have abn:=dw x (ab6 hx)
  have hlb:lB set:=⟨by omega,fun y hy=>by have:=ai.1 (hp y hy);omega⟩
  obtain⟨hk,aO,qM,SH⟩:=JD hs x
  refine⟨aA x,fun _=>⟨by omega,ix⟩,?_⟩
  have hse:=tO set x hs hlb
  rw[<-ls]at hse
  refine .inr (cl [3,4] hse (by kernel_rfl) rfl rfl ?_)
  have hM:jm set x=Aq x (set.drop (JC set x)):=by unfold jm;rw[aO]
  refine⟨IuS,fun q=>⟨5,[(0,.eN 0),(1,.ptr 2 0),(2,.ptr 3 0),(9,.dv (aM l)),(10,.dv (I l.length)),(11,.dv (I i)),(5,.ptr 4 0),(6,.dv (I q.j))],kWt rc l set++[(4,.cells (ed (aA q.x).cells))]⟩,fun q=>q.j<=set.length/\q.x.f=x.f/\x.a<=q.x.a/\q.x.a+q.x.n=x.a+x.n/\0<=q.x.n/\∃pre,jm set x=pre++Aq q.x (set.drop q.j),fun q=>set.length-q.j,⟨JC set x,x⟩,fun _=>rfl,jn rfl rfl rfl rfl,⟨hk,rfl,Int.le_refl _,rfl,by show 0<=x.n;omega,[],hM⟩,?_⟩
  rintro⟨j,y⟩ ⟨hj,hf,ha,hn,Nt,pre,kr⟩
  dsimp only at hj hf ha hn Nt kr⊢
  obtain⟨s,ss⟩:∃s,j<set.length->set[j]?=some s:=by
   by_cases h:j<set.length
   ·exact⟨set[j],fun _=>IF h⟩
   ·exact⟨x,fun h2=>absurd h2 h⟩
  have is:bw (bif decide (0<y.n)then decide ((j:Int)<(((set.map aA).length:Nat):Int))else false) true=true->(0:Int)<=j/\(set.map aA)[(j:Int).toNat]?=some (aA s):=fun hg=>by
   have iN:j<set.length:=by have:=adz (c6 (gL hg)).2;omega
   refine⟨by omega,?_⟩
   rw[abW];simp[ss iN]
  repeat refine gG ?_
  refine⟨aA s,fun h=>is h,?_⟩
  repeat refine gG ?_
  refine⟨aA s,fun h=>is (rl (c6 (gL h)).1),?_⟩
  repeat refine gG ?_
  refine⟨fun _=>by omega,?_⟩
  repeat refine gG ?_
  refine⟨by kernel_rfl,T5 (fun hc=>?_) fun hc=>?_⟩
  ·have c1:=c6 hc
   have c2:=c6 c1.1
   have c3:=c6 c2.1
   have iN:j<set.length:=by have:=adz c3.2;omega
   have ss:=ss iN
   have hsb:=ai.1 (hp s (ab6 ss))
   have hg:Og y s=true:=by unfold Og;rw[c3.1,c2.2,c1.2];rfl
   have hdj:set.drop j=s::set.drop (j+1):=by
    rw[List.drop_eq_getElem_cons iN]
    rw[IF iN]at ss
    injection ss with ss
    rw[ss]
   rw[hdj,DN hg]at kr
   have io:(0:Int)<=j/\(set.map aA)[(j:Int).toNat]?=some (aA s):=⟨by omega,by rw[abW];simp[ss]⟩
   refine⟨aA s,fun _=>io,fun _=>by omega,?_⟩
   refine⟨by kernel_rfl,?_⟩
   repeat refine gG ?_
   have hO:¬0<dL y s:=fun hO=>by
    rw[if_pos hO]at kr
    have:=abn (⟨y.f,y.a,dL y s⟩,false) (by rw[kr];simp)
    cases this
   have V2:bw (decide (0<dL y s)) true=false:=by rw[adG hO];rfl
   have h0:0<=dL y s:=by unfold dL;split<;>omega
   rw[if_neg hO,List.nil_append]at kr
   have SO:=hpp (⟨y.f,y.a+dL y s,jq y s⟩,true) (by rw[kr];simp)
   dsimp only at SO
   refine .inr ⟨V2,.dv (B false),fun h=>h,fun _ h=>rl h,T5 (fun h=>absurd (adz (c6 h).1) hO) fun _=>?_⟩
   refine⟨fun _=>by omega,fun _=>by omega,?_⟩
   refine⟨aA s,fun _=>io,aA s,fun _=>io,fun _=>by omega,fun _=>by omega,?_⟩
   refine⟨by kernel_rfl,?_⟩
   refine .inl (Us [0,1] (hY ⟨y.f,y.a+dL y s,jq y s⟩) (by kernel_rfl) rfl rfl ?_)
   refine T5 (fun h=>by cases h) fun _=>?_
   refine⟨fun _=>by omega,fun _=>by omega,fun _=>by omega,⟨j+1,⟨y.f,y.a+dL y s+jq y s,y.n-dL y s-jq y s⟩⟩,jn rfl rfl rfl rfl,⟨iN,hf,by dsimp only;omega,by dsimp only;omega,by dsimp only;omega,pre++[(⟨y.f,y.a+dL y s,jq y s⟩,true)],by rw[kr];simp⟩,by dsimp only;omega⟩
  ·have iV:Aq y (set.drop j)=if 0<y.n then[(y,false)]else[]:=by
    by_cases CL:j<set.length
    ·have ss:=ss CL
     rw[List.drop_eq_getElem_cons CL]
     rw[IF CL]at ss
     injection ss with ss
     rw[ss]
     refine JE ?_
     have h2:=lM hc
     rw[Bool.eq_false_iff]
     intro hg
     simp only[Og,adT]at hg
     exact h2 ⟨by rw[hg.1,adF (by omega),hg.2.1];rfl,hg.2.2⟩
    ·rw[List.drop_eq_nil_of_le (by omega)]
     conv=>lhs;unfold Aq
   rw[iV]at kr
   repeat refine gG ?_
   have hO:¬0<y.n:=fun hO=>by
    rw[if_pos hO]at kr
    have:=abn (y,false) (by rw[kr];simp)
    cases this
   have V2:bw (decide (0<y.n)) true=false:=by rw[adG hO];rfl
   refine .inr ⟨V2,.dv (B false),fun h=>h,fun _ h=>rl h,T5 (fun h=>absurd (adz (c6 h).1) hO) fun _=>?_⟩
   exact⟨fun _=>by omega,i+1,jn rfl rfl rfl rfl,au,mlt au⟩
 ·exact ext (by kernel_rfl) rfl rfl
theorem D8(l set:List Lt)(hl:∀x∈l,az x=true)(hs:NS set)(hp:∀x∈set,az x=true)(AR:l.length<=5000)(gM:set.length<=5000)(dw:GZ l set):aN Tryz.prog 252 [aM l,aM set] [B true]:=by
 refine pO Tryz.func252 rfl (by kernel_rfl) rfl ?_
 have hi:=JT (Au Tryz.f252) l set hl hs hp AR gM dw fun x=>JS x
 refine .inr (cl [] (wz l set) (by kernel_rfl) rfl rfl ?_)
 refine⟨Au Tryz.f252,by kernel_rfl,?_⟩
 refine⟨[3,0,1,2],[.eN 0,.ptr 2 0,.ptr 3 0],kWt (Au Tryz.f252) l set,0,_,hi,by kernel_rfl,⟨rfl,rfl,rfl,tv⟩,⟨⟨rfl,rfl,?_⟩,⟨rf,tv⟩,⟨rf,tv⟩,⟨rf,tv⟩,tv⟩,?_⟩
 ·exact kZ (by kernel_rfl)
 rintro rs K2 ⟨rfl,rfl⟩
 exact⟨by kernel_rfl,rf,tv⟩
theorem D9(P s:List Lt)(hP:bB P=true)(hs:bB s=true)(dw:GZ P (ct s)):aN Tryz.prog 237 [aM P,aM s] [B true]:=by
 obtain⟨h1,h2⟩:=eU hs
 obtain⟨h3,h4⟩:=eU hP
 have hn:∀x∈s,1<=x.n:=fun x hx=>(ai.1 (h2 x hx)).2.2.1
 have hso:=fS hn
 have lC:kI s=ct s:=by unfold kI;rw[hs];rfl
 have gM:=qd s
 rw[lC]at gM
 have hw:=D8 P (ct s) h4 hso.1 gM.2 (by omega) (by omega) dw
 refine pO Tryz.func237 rfl (by kernel_rfl) rfl ?_
 refine .inl ⟨_,fun _=>(ey P (by omega)).ok,?_⟩
 repeat refine gG ?_
 refine .inl ⟨_,fun _=>(ey s (by omega)).ok,?_⟩
 rw[hs,hP]
 repeat refine gG ?_
 refine Or.inl ?_
 refine⟨_,fun _=>(lV s h2 (by omega)).ok,?_⟩
 repeat refine gG ?_
 refine Or.inl ?_
 refine⟨_,fun _=>hw.ok,?_⟩
 repeat refine gG ?_
 exact⟨rf,tv⟩
end
section
open Go.TM
variable [bp]
theorem Rr(s P:List Lt)(hs:bB s=true)(hP:bB P=true)(bP:s.length*(2*P.length+1)<=90000):aN Tryz.prog 238 [aM s,aM P] [aM (my s P)]:=by
 obtain⟨h1,h2⟩:=eU hs
 obtain⟨h3,h4⟩:=eU hP
 have hn:∀x∈P,1<=x.n:=fun x hx=>(ai.1 (h4 x hx)).2.2.1
 have hso:=fS hn
 have lC:kI P=ct P:=by unfold kI;rw[hP];rfl
 have gM:=qd P
 rw[lC]at gM
 have hle:s.length*(2*(ct P).length+1)<=90000:=Nat.le_trans (Nat.mul_le_mul_left _ (by omega)) bP
 have N4:=j9 s (ct P) h2 hso.1 gM.2 (by omega) (by omega) hle
 have V9:=TK (l:=s) (P:=P) (fun x hx=>(ai.1 (h2 x hx)).2.2.1) hn hso.1 hso.2
 refine pO Tryz.func238 rfl (by kernel_rfl) rfl ?_
 refine .inl ⟨_,fun _=>(ey s (by omega)).ok,?_⟩
 repeat refine gG ?_
 refine .inl ⟨_,fun _=>(ey P (by omega)).ok,?_⟩
 rw[hs,hP]
 repeat refine gG ?_
 refine T5 (fun h=>by cases h) fun _=>?_
 refine .inl ⟨_,fun _=>(lV P h4 (by omega)).ok,?_⟩
 refine .inl ⟨_,fun _=>N4.ok,?_⟩
 exact⟨DV.Le.of_eq (by rw[V9]),tv⟩
end
section
open Go.TM
variable [bp]
theorem Rs(P:PL)(c:Ch)(m:dc)(cF:m.ps≠[])(hv:bB (eH P c (m.fr,m.it))=true)(hp:bB m.ps=true)(dw:GZ m.ps (ct (eH P c (m.fr,m.it))))(bP:(eH P c (m.fr,m.it)).length*(2*m.ps.length+1)<=90000):
 aj Tryz.prog 209 [.ptr 0 0,cH (ao m)] 14 (dM 0 0 P c) 0 [.dv (aM m.ps),.dv (I 0)] (dM 0 0 P { c with st:=aH c.st (m.fr,m.it) (my (eH P c (m.fr,m.it)) m.ps) }):=by
 have hw:=(D9 m.ps (eH P c (m.fr,m.it)) hp hv dw).ok
 have ho:=(Rr (eH P c (m.fr,m.it)) m.ps hv hp bP).ok
 have hl:=(eU hp).1
 refine cO Tryz.func209 rfl (by kernel_rfl) ?_
 repeat refine gG ?_
 refine .inr (cl [0,1,2,3,4,5,6,7,8,9,10,11,12,13] (iK P c m.fr _) (by kernel_rfl) rfl rfl ?_)
 repeat refine gG ?_
 refine T5 (fun h=>?_) fun _=>?_
 ·have h:=beq_iff_eq.1 h
  rw[WY]at h
  exact absurd (List.length_eq_zero_iff.1 (by omega)) cF
 refine .inl ⟨_,fun _=>hw,?_⟩
 refine T5 (fun h=>by cases h) fun _=>?_
 refine .inl ⟨_,fun _=>ho,?_⟩
 refine⟨mD,qV (m.fr,m.it),rfl,rfl,?_⟩
 refine⟨aM (my (eH P c (m.fr,m.it)) m.ps),⟨rf,tv⟩,rfl,false,fun _=>⟨oz c.st _,fQ _⟩,?_⟩
 rw[show c7 (oq c.st) (qV (m.fr,m.it)) (aM (my (eH P c (m.fr,m.it)) m.ps))=oq (aH c.st (m.fr,m.it) (my (eH P c (m.fr,m.it)) m.ps))from c5 iC c.st _ _]
 refine T5 (by kernel_rfl) ?_
 refine .inr (cl [] (eD m.ps (by omega)) (by kernel_rfl) rfl rfl ?_)
 exact⟨_,_,⟨rfl,rfl⟩,by kernel_rfl,⟨mC _,rf,tv⟩,aV (k:=dM 0 0 P { c with st:=aH c.st (m.fr,m.it) (my (eH P c (m.fr,m.it)) m.ps) }) rfl⟩
end
section
open Go.TM Go.RowKit
variable [bp]
theorem JU(l:List Lt)(hl:l≠[]):aN Tryz.prog 241 [aM l] [.HQ 3 (l.map aA)]:=by
 refine⟨GQ,fun w M vs dw hg hr=>?_⟩
 match vs,hr with
 |[v],hr=>
  have hv:bz M (.sl 3 (l.map aA)) v:=hr.2 0 _ v rfl rfl
  have cF:l.map aA≠[]:=fun h=>hl (List.map_eq_nil_iff.1 h)
  generalize l.map aA=k at hv cF
  cases hv with
  |slnil=>exact absurd rfl cF
  |sl sz ls a cap cell eJ hlen hc Ms=>
   refine(zL a _ cap eJ w).mono ?_
   rintro e w' ⟨rfl,rfl⟩
   exact⟨_,M,rfl,Below.refl _ _,Mem.Le.refl _,dw,fun _ _=>rfl,.HQ _ _ a cell hlen hc Ms⟩
end
end Go.Proofs.YtmojfblpbcficaaGreatDoor
