import Derived.Test.YtmojfblpbcficaaGreatDoorCM24
import Derived.Test.YtmojfblpbcficaaGreatDoorCM33
import Derived.Test.YtmojfblpbcficaaGreatDoorCM34
import Derived.Test.YtmojfblpbcficaaGreatDoorCM35
import Derived.Test.YtmojfblpbcficaaGreatDoorCM36
import Derived.Test.YtmojfblpbcficaaGreatDoorCM37
import Derived.Test.YtmojfblpbcficaaGreatDoorCM31
import Derived.Test.YtmojfblpbcficaaGreatDoorCM30
set_option linter.all false
open Go.TM.oA Go.TM.oB Go.TM.oC Go.TM.oD Go.TM.oE
namespace Go.Proofs.YtmojfblpbcficaaGreatDoor
set_option maxRecDepth 100000
set_option maxHeartbeats 4000000
section
open Go.TM
def MB(fl:List gC)(g:Int):Bool:=fl.any fun f=>f.kind==5&&f.ps.any fun x=>x.f==g
def wD(fl:List gC)(g:Int):Option (List Lt):=bif MB fl g then some [⟨g,0,3⟩]else none
theorem ns3(g:Int):NS [⟨g,0,3⟩]:=⟨acR _ _,fun x hx=>by rw[aco]at hx;subst hx;show(1:Int)<=3;decide⟩
theorem aal(g:Int):cL [⟨g,0,3⟩]=[⟨g,0,3⟩]:=Ke (ns3 g)
theorem W8{g:Int}(h:0<=g):aD ⟨g,0,3⟩=true:=ai.2 ⟨h,by simp,by simp,by simp⟩
theorem TK{g:Int}(h:0<=g):bH [⟨g,0,3⟩]=true:=eD (fun x hx=>by rw[aco]at hx;subst hx;exact W8 h) (by simp)
theorem wo3(a b:Int):mu [⟨a,0,3⟩] [⟨b,0,3⟩]=if a=b then[]else[⟨a,0,3⟩]:=by
 by_cases h:a=b
 ·subst h;rw[if_pos rfl];simp[mu,mS,iO,gz]
 ·rw[if_neg h];simp[mu,mS,iO,gz,h,aR]
theorem abt(a:Int):mu [⟨a,0,3⟩] []=[⟨a,0,3⟩]:=by simp[mu,mS,aR]
theorem abu{a b:Int}(ha:0<=a)(hb:0<=b):Ak [⟨a,0,3⟩] [⟨b,0,3⟩]=if a=b then[⟨a,0,3⟩]else[]:=by
 have e:∀P,uL [⟨a,0,3⟩] P=bif bH P then mu [⟨a,0,3⟩] P else[]:=fun P=>by
  simp only[uL,kr,TK ha,cond_true,aal,Im,Bool.true_and]
 rw[Ak,TK hb,cond_true,e,e,TK hb,cond_true,wo3]
 by_cases h:a=b
 ·rw[if_pos h,if_pos h,abt];rfl
 ·rw[if_neg h,if_neg h,TK ha,cond_true,wo3,if_pos rfl]
theorem Gk{α:Type}{p q:α->Bool}:∀{l:List α},(∀x∈l,p x=q x)->l.any p=l.any q
 |[],_=>rfl
 |a::l,h=>by rw[List.any_cons,List.any_cons,h a acv,Gk fun x hx=>h x (acq _ hx)]
theorem W9{R:RL}(hG:Good R){g:Int}(hg:0<=g):R.fl.any (PF ⟨g,0,3⟩)=MB R.fl g:=Gk fun f hf=>by
 unfold PF
 by_cases h:f.kind=5
 ·obtain⟨a,ha,e⟩:=(hG.D5 f hf).2.2.2.2.2 h
  rw[h,e,abu ha hg]
  by_cases h2:a=g<;>simp[h2]
 ·simp[h]
structure ke(P:PL)(s:cM)(c:Ch)(R:RL):Prop where
 sh:R.sh=P.sh
 sp:R.sp=P.sp
 TL:c.sp=spI P s
 nk:Nk c.st/\Nk c.b7/\Nk c.imp/\Nk c.ret
 ret:∀g,sn c.ret P.ret g=ku R.fl g
 fl:R.fl=P.fl++c.fl
 st:∀k,ez P c k=bP R.st k
 b7:∀j,(aW c.b7 j).getD (F2 P.b7 j)=bG R.st j
 imp:∀g,sn c.imp P.imp g=wD R.fl g
 sk:c.sk=qY R.fl (R.sh*4294967296+R.sp.length)
theorem TN(fl:List gC)(f:gC)(st:Int)(h:f.step=st):qY (fl++[f]) st=qY fl st++bif f.to==0 then[f.id]else[]:=by
 unfold qY
 rw[List.filter_append,acC,List.filter_cons,List.filter_nil,h]
 cases f.to==0<;>simp
theorem ke.next{P:PL}{s:cM}{c c2:Ch}{R R2:RL}{f:gC}{it:Int}(d:Int)(h:ke P s c R)(e1:c2.sp=c.sp)(e2:Nk c2.st/\Nk c2.imp/\Nk c2.ret)(e3:∀g,sn c2.ret P.ret g=ku (R.fl++[f]) g)(e4:c2.fl=c.fl++[f])(e5:c2.b7=aI c.b7 it (bG R.st it+d))(e6:c2.sk=c.sk++bif f.to==0 then[f.id]else[])
 (e7:R2.sh=R.sh/\R2.sp=R.sp/\R2.fl=R.fl++[f]) (e8:f.step=R.sh*4294967296+R.sp.length) (e9:∀k,ez P c2 k=bP R2.st k) (e10:∀j,bG R2.st j=if it=j then bG R.st j+d else bG R.st j) (e11:∀g,sn c2.imp P.imp g=wD (R.fl++[f]) g):ke P s c2 R2 where
 sh:=e7.1.trans h.sh
 sp:=e7.2.1.trans h.sp
 TL:=e1.trans h.TL
 nk:=⟨e2.1,by rw[e5];exact h.nk.2.1.put _ _,e2.2⟩
 ret g:=by rw[e7.2.2];exact e3 g
 fl:=by rw[e7.2.2,e4,h.fl,acK]
 st:=e9
 b7 j:=by
  rw[e5,jQ,e10]
  by_cases hj:it=j
  ·rw[if_pos hj,if_pos hj,hj];rfl
  ·rw[if_neg hj,if_neg hj];exact h.b7 j
 imp g:=by rw[e7.2.2];exact e11 g
 sk:=by rw[e6,e7.1,e7.2.1,e7.2.2,TN _ _ _ e8,h.sk]
theorem Dv(P:PL)(c:Ch)(k:Ky)(l:List Lt)(m:SM)(hm:∀j,(aW m j).getD (bP P.st j)=ez P c j)(j:Ky):(aW (aI m k l) j).getD (bP P.st j)=if k=j then l else ez P c j:=by
 rw[jQ];split
 ·rfl
 ·exact hm j
theorem Qv{P:PL}{s:cM}{c:Ch}{R:RL}(h:ke P s c R)(m:di)(l:List Lt)(md:List Int):dJ P c m l md=eG R s m l md:=by
 unfold dJ eG
 rw[h.TL,h.fl,h.sh,h.sp]
 unfold spI
 simp only[acw,gC.mk.injEq,and_true,true_and]
 omega
theorem Dw{fl:List gC}{f:gC}(h:f.kind≠5)(g:Int):wD (fl++[f]) g=wD fl g:=by
 unfold wD MB
 rw[List.any_append,List.any_cons,List.any_nil,beq_eq_false_iff_ne.2 h,Bool.false_and,Bool.or_false,Bool.or_false]
theorem IY{fl:List gC}{f:gC}(h:¬(f.kind=9/\f.fr=0))(g:Int):ku (fl++[f]) g=ku fl g:=by unfold ku;rw[Z4 h]
def wR(R:RL)(s:cM)(m:di):Int×RL:=if FI R s.kind m≠0 then(FI R s.kind m,R)else if 1099511627776<bG R.st m.it+m.n then(4,R)else(0,wL R s m (if s.kind=5\/s.kind=9 then m.ps else[]) (bif ta s.kind then qY R.fl (R.sh*4294967296+R.sp.length)else[]))
theorem xb(R:RL)(s:cM)(m:di)(hf:m.fr=0)(ht:0<m.to):bl R s m=wR R s m:=PO R s m hf ht
theorem ke.bd{P:PL}{s:cM}{c:Ch}{R:RL}(h:ke P s c R)(hG:Good R)(it:Int):(0<=P.sh/\P.sh<=12)/\(P.fl.length<=900000/\c.fl.length<=900000/\c.sk.length<=900000)/\0<=bG R.st it/\bG R.st it<=1099511627776:=by
 have oQ:=hG.sh
 rw[h.sh]at oQ
 have lT:=hG.fl
 have h1:=congrArg List.length h.fl
 have h2:=C4 R.fl (R.sh*4294967296+R.sp.length)
 rw[<-h.sk]at h2
 rw[acw]at h1
 exact⟨by omega,by omega,(C0 it R.st).1,hG.tb _⟩
variable [bp]
theorem Qw{P:PL}{s:cM}{c:Ch}{R:RL}{m:di}(h:ke P s c R)(hG:Good R)(hl:R.fl.length+1<=160)(hb:dA m=true)(eZ:0<m.fr)(h5:s.kind≠5)(tk:List Lt×List Lt)(hq:∀j,bG (G7 R s m tk).st j=if m.it=j then bG R.st j+(if m.fr=0 then m.n else 0)-(if m.to=0 then m.n else 0)else bG R.st j)
 (hw:ao Tryz.prog 142 [.ptr 0 0,cF (aq m)] 14 (dI 0 0 P c) 0 [.dv (aS tk.1),.dv (I 0)] (dI 0 0 P { c with st:=aI c.st (m.fr,m.it) tk.2 })):
 ∃c',ao Tryz.prog 87 [.ptr 0 0,cF (aq m)] 14 (dI 0 0 P c) 0 [.dv (I 0)] (dI 1 1 P c')/\ke P s c' (G7 R s m tk):=by
 have hb:=acA hb
 obtain⟨oQ,hlen,IZ⟩:=h.bd hG m.it
 have hv:dQ P c m=bG R.st m.it:=h.b7 m.it
 have RP:0<=dQ P c m/\dQ P c m<=1099511627776:=by rw[hv];exact IZ
 have hT:=hG.sj (m.to,m.it)
 have IG:=Qv h m tk.1 []
 have NV:=Dv P c (m.fr,m.it) tk.2 c.st (fun j=>rfl)
 have hfk:(eG R s m tk.1 []).kind≠5:=h5
 have MC:∀g,sn c.ret P.ret g=ku (R.fl++[eG R s m tk.1 []]) g:=fun g=>by
  rw[IY (fun hh=>absurd hh.2 (show¬m.fr=0 by omega))];exact h.ret g
 by_cases jS:m.to=0
 ·refine⟨_,iU (Qs P c { c with st:=aI c.st (m.fr,m.it) tk.2 } m _ ⟨hb.2.2.1,hb.2.2.2.1⟩ RP oQ hlen (by omega) jS hw),?_⟩
  refine ke.next (f:=eG R s m tk.1 []) (it:=m.it) (-m.n) h rfl ⟨h.nk.1.put _ _,h.nk.2.2⟩ MC ?_ ?_ ?_ ⟨rfl,rfl,rfl⟩ rfl ?_ ?_ ?_
  ·exact congrArg (fun f=>c.fl++[f]) IG
  ·exact congrArg (fun t=>aI c.b7 m.it (t-m.n)) hv
  ·rw[show(eG R s m tk.1 []).to=0 from jS]
   exact congrArg (fun f:gC=>c.sk++[f.id]) IG
  ·intro k
   unfold G7
   simp only[if_neg (by omega:¬0<m.to),iQ]
   exact(NV k).trans (by rw[h.st])
  ·intro j
   refine(hq j).trans ?_
   rw[if_neg (by omega:¬m.fr=0),if_pos jS]
   split<;>omega
  ·intro g;rw[Dw hfk];exact h.imp g
 ·have cC:∀l,bP (aI R.st (m.fr,m.it) l) (m.to,m.it)=bP R.st (m.to,m.it):=fun l=>by
   rw[iQ,if_neg];intro h;injection h with h1;omega
  have FP:ez P { c with st:=aI c.st (m.fr,m.it) tk.2 } (m.to,m.it)=bP R.st (m.to,m.it):=by
   refine(NV _).trans ?_
   rw[if_neg (by intro h;injection h with h1;omega),h.st]
  have U5:=Qu P c { c with st:=aI c.st (m.fr,m.it) tk.2 } m _ ⟨hb.2.2.1,hb.2.2.2.1⟩ RP oQ hlen (by omega) jS (by rw[FP];exact eD hT.1 (by omega)) (by rw[FP];omega) hw
  rw[FP]at U5
  refine⟨_,iU U5,?_⟩
  refine ke.next (f:=eG R s m tk.1 []) (it:=m.it) 0 h rfl ⟨(h.nk.1.put _ _).put _ _,h.nk.2.2⟩ MC ?_ ?_ ?_ ⟨rfl,rfl,rfl⟩ rfl ?_ ?_ ?_
  ·exact congrArg (fun f=>c.fl++[f]) IG
  ·exact congrArg (fun t=>aI c.b7 m.it t) (hv.trans (by omega))
  ·rw[show((eG R s m tk.1 []).to==0)=false from beq_eq_false_iff_ne.2 jS]
   exact(List.append_nil _).symm
  ·intro k
   unfold G7
   simp only[if_pos (by omega:0<m.to)]
   rw[iQ]
   refine(Dv P { c with st:=aI c.st (m.fr,m.it) tk.2 } (m.to,m.it) _ _ (fun j=>rfl) k).trans ?_
   rw[show dJ P { c with st:=aI c.st (m.fr,m.it) tk.2 } m tk.1 []=_ from IG]
   split
   ·rfl
   ·rw[iQ];exact(NV k).trans (by rw[h.st])
  ·intro j
   refine(hq j).trans ?_
   rw[if_neg (by omega:¬m.fr=0),if_neg jS]
   split<;>omega
  ·intro g;rw[Dw hfk];exact h.imp g
theorem U6{P:PL}{s:cM}{c:Ch}{R:RL}{m:di}(h:ke P s c R)(hG:Good R)(hl:R.fl.length+1<=160)(hb:dA m=true)(oF:m.fr=0)(hc:¬1099511627776<bG R.st m.it+m.n)(tz tA:IM (List Lt))(l:List Lt)(hni:Nk tz/\Nk tA)
 (hq:∀j,bG (wL R s m l (bif ta s.kind then qY R.fl (R.sh*4294967296+R.sp.length)else[])).st j=if m.it=j then bG R.st j+(if m.fr=0 then m.n else 0)-(if m.to=0 then m.n else 0)else bG R.st j)
 (himp:∀md g,sn tz P.imp g=wD (R.fl++[eG R s m l md]) g) (MC:∀md g,sn tA P.ret g=ku (R.fl++[eG R s m l md]) g)
 (ht:ao Tryz.prog 142 [.ptr 0 0,cF (aq m)] 14 (dI 0 0 P c) 0 [.dv (aS l),.dv (I 0)] (dI 0 0 P ⟨c.sp,c.st,c.b7,tz,tA,c.fl,c.sk⟩)):
 ∃c',ao Tryz.prog 87 [.ptr 0 0,cF (aq m)] 14 (dI 0 0 P c) 0 [.dv (I 0)] (dI 1 1 P c')/\ke P s c' (wL R s m l (bif ta s.kind then qY R.fl (R.sh*4294967296+R.sp.length)else[])):=by
 have hb:=acA hb
 obtain⟨oQ,hlen,IZ⟩:=h.bd hG m.it
 have hv:dQ P c m=bG R.st m.it:=h.b7 m.it
 have RP:0<=dQ P c m/\dQ P c m<=1099511627776:=by rw[hv];exact IZ
 have pn:c.sp.kind=s.kind:=by rw[h.TL];rfl
 have hT:=hG.sj (m.to,m.it)
 have jS:0<m.to:=by omega
 have Ym:m.to≠0:=by omega
 have FP:ez P ⟨c.sp,c.st,c.b7,tz,tA,c.fl,c.sk⟩ (m.to,m.it)=bP R.st (m.to,m.it):=h.st _
 have nxt:∀md,md=(bif ta s.kind then qY R.fl (R.sh*4294967296+R.sp.length)else[])->ke P s { Ar P ⟨c.sp,c.st,c.b7,tz,tA,c.fl,c.sk⟩ m (dQ P c m+m.n) l md with st:=aI c.st (m.to,m.it) (aR (bP R.st (m.to,m.it)) ⟨(dJ P c m l md).id,0,m.n⟩) } { R with
  st:=aI R.st (m.to,m.it) (aR (bP R.st (m.to,m.it)) ⟨R.sh*4294967296+R.fl.length,0,m.n⟩)
  fl:=R.fl++[eG R s m l (bif ta s.kind then qY R.fl (R.sh*4294967296+R.sp.length)else[])] }:=by
  rintro md rfl
  have IG:=Qv h m l (bif ta s.kind then qY R.fl (R.sh*4294967296+R.sp.length)else[])
  rw[IG,hv]
  refine ke.next (f:=eG R s m l _) (it:=m.it) m.n h rfl ⟨h.nk.1.put _ _,hni⟩ (MC _) ?_ rfl ?_ ⟨rfl,rfl,rfl⟩ rfl ?_ ?_ ?_
  ·exact congrArg (fun f=>c.fl++[f]) IG
  ·rw[show((eG R s m l (bif ta s.kind then qY R.fl (R.sh*4294967296+R.sp.length)else[])).to==0)=false from beq_eq_false_iff_ne.2 Ym]
   exact(List.append_nil _).symm
  ·intro k
   rw[iQ]
   refine(Dv P c (m.to,m.it) _ c.st (fun j=>rfl) k).trans ?_
   rw[h.st];rfl
  ·intro j
   refine(hq j).trans ?_
   rw[if_pos oF,if_neg Ym]
   split<;>omega
  ·intro g;exact himp _ g
 by_cases hM:s.kind=4\/s.kind=10
 ·have hi:ta s.kind=true:=by unfold ta;rcases hM with h|h<;>rw[h]<;>rfl
  have U5:=Qr P c ⟨c.sp,c.st,c.b7,tz,tA,c.fl,c.sk⟩ m l ⟨hb.2.2.1,hb.2.2.2.1⟩ RP oQ hlen oF Ym (by rw[<-pn]at hM;exact hM) (by show¬_<dQ P c m+m.n;rw[hv];exact hc) (by rw[FP];exact eD hT.1 (by omega)) (by rw[FP];omega) ht
  rw[FP]at U5
  exact⟨_,iU U5,nxt c.sk (by rw[hi,h.sk];rfl)⟩
 ·have hi:ta s.kind=false:=by
   unfold ta;rw[Bool.or_eq_false_iff];exact⟨beq_eq_false_iff_ne.2 fun e=>hM (.inl e),beq_eq_false_iff_ne.2 fun e=>hM (.inr e)⟩
  have U5:=Qt P c ⟨c.sp,c.st,c.b7,tz,tA,c.fl,c.sk⟩ m l ⟨hb.2.2.1,hb.2.2.2.1⟩ RP oQ hlen oF Ym (by rw[<-pn]at hM;exact⟨fun e=>hM (.inl e),fun e=>hM (.inr e)⟩) (by show¬_<dQ P c m+m.n;rw[hv];exact hc) (by rw[FP];exact eD hT.1 (by omega)) (by rw[FP];omega) ht
  rw[FP]at U5
  exact⟨_,iU U5,nxt [] (by rw[hi];rfl)⟩
theorem Qx(hS:n4){P:PL}{s:cM}{c:Ch}{R:RL}{m:di}(h:ke P s c R)(hG:Good R)(hl:R.fl.length+1<=160)(hm:FH R.sh s m):
 ∃c',ao Tryz.prog 87 [.ptr 0 0,cF (aq m)] 14 (dI 0 0 P c) 0 [.dv (I (bl R s m).1)] (dI 1 1 P c')/\((bl R s m).1=0->ke P s c' (bl R s m).2):=by
 have hb:=acA hm.base
 have LY:=C7 hG hl hm
 obtain⟨oQ,hlen,IZ⟩:=h.bd hG m.it
 have hv:dQ P c m=bG R.st m.it:=h.b7 m.it
 have RP:0<=dQ P c m/\dQ P c m<=1099511627776:=by rw[hv];exact IZ
 have pn:c.sp.kind=s.kind:=by rw[h.TL];rfl
 by_cases eZ:0<m.fr
 ·have hk:s.kind≠5/\m.ps=[]:=by
   rcases hm.ps with h|h
   ·omega
   ·exact⟨h.1,h.2.2⟩
  have e:=h.st (m.fr,m.it)
  have hS2:=hG.sj (m.fr,m.it)
  have Af:=eD hS2.1 (by have:=hG.fl;omega)
  have cC:bP (aI R.st (m.fr,m.it) (fp (bP R.st (m.fr,m.it)) m.n (wz m.it)).2) (m.to,m.it)=bP R.st (m.to,m.it):=by
   rw[iQ,if_neg];intro h;injection h with h1;omega
  rw[C5 R s m eZ hk.2]at LY⊢
  by_cases hc:bZ (bP R.st (m.fr,m.it))<m.n
  ·rw[if_pos hc]
   exact⟨c,iU (zh P c c m [] 10 (by decide) (r4 P c c m [] 10 (by omega) (Qk hS P c m hk.2 ⟨hb.1,hb.2.1⟩ (by omega) (by rw[e];exact Af) (by rw[e];exact acG hc)))),fun h=>absurd h (show¬(10:Int)=0 by decide)⟩
  rw[if_neg hc]at LY⊢
  have hw:=r4 P c _ m _ 0 (by omega) (Ql hS P c m hk.2 ⟨hb.1,hb.2.1⟩ (by omega) (by rw[e];exact Af) (by rw[e];exact acH hc))
  rw[e]at hw
  simp only[cC]at LY⊢
  obtain⟨c',h1,h2⟩:=Qw h hG hl hm.base eZ hk.1 _ (LY (by trivial)).2.2 hw
  exact⟨c',h1,fun _=>h2⟩
 ·have oF:m.fr=0:=by omega
  have jS:0<m.to:=by omega
  have Ym:m.to≠0:=by omega
  rw[xb R s m oF jS]at LY⊢
  have fin:∀(tz tA:IM (List Lt)) (l:List Lt),FI R s.kind m=0->Nk tz/\Nk tA->(if s.kind=5\/s.kind=9 then m.ps else[])=l->(∀md g,sn tz P.imp g=wD (R.fl++[eG R s m l md]) g)->(∀md g,sn tA P.ret g=ku (R.fl++[eG R s m l md]) g)->ao Tryz.prog 142 [.ptr 0 0,cF (aq m)] 14 (dI 0 0 P c) 0 [.dv (aS l),.dv (I 0)] (dI 0 0 P ⟨c.sp,c.st,c.b7,tz,tA,c.fl,c.sk⟩)->
   ∃c',ao Tryz.prog 87 [.ptr 0 0,cF (aq m)] 14 (dI 0 0 P c) 0 [.dv (I (wR R s m).1)] (dI 1 1 P c')/\((wR R s m).1=0->ke P s c' (wR R s m).2):=by
   intro tz tA l he hni hle himp MC ht
   unfold wR at LY⊢
   rw[if_neg (fun hh=>hh he)]at LY⊢
   by_cases hc:1099511627776<bG R.st m.it+m.n
   ·rw[if_pos hc]
    exact⟨_,iU (Gj P c ⟨c.sp,c.st,c.b7,tz,tA,c.fl,c.sk⟩ m l ⟨hb.2.2.1,hb.2.2.2.1⟩ RP oQ hlen oF Ym (by show _<dQ P c m+m.n;rw[hv];exact hc) ht),fun h=>absurd h (show¬(4:Int)=0 by decide)⟩
   rw[if_neg hc]at LY⊢
   rw[hle]at LY⊢
   obtain⟨c',h1,h2⟩:=U6 h hG hl hm.base oF hc tz tA l hni (LY rfl).2.2 himp MC ht
   exact⟨c',h1,fun _=>h2⟩
  rcases hm.ps with⟨h5,_,g,g0,g1,ko⟩|⟨h5,h9,ko⟩
  ·have hu:=h.imp g
   have ht:=IV P c m ⟨g,0,3⟩ oF (pn.trans h5) ko (W8 g0) g1 (fun l hl=>by
    rw[hu]at hl
    unfold wD at hl
    cases hi:MB R.fl g with
    |false=>rw[hi]at hl;cases hl
    |true=>
     rw[hi]at hl;injection hl with hl;subst hl
     refine⟨ns3 g,fun y hy=>by rw[aco]at hy;subst hy;exact W8 g0,by simp,fun hn=>?_⟩
     exact(Kg (ns3 g).pos (ns3 g)).1 hn g 0 ⟨_,aco.2 rfl,rfl,by simp,by simp⟩ ⟨_,aco.2 rfl,rfl,by simp,by simp⟩)
   have he:FI R s.kind m=Mx P c ⟨g,0,3⟩:=by
    unfold FI Mx
    rw[if_pos h5,ko]
    unfold uO
    rw[W9 hG g0,hu,h.sh]
    unfold wD
    by_cases a1:g.tdiv 4294967296=P.sh
    ·simp[a1]
    ·by_cases a2:11<g.tdiv 4294967296
     ·rw[if_pos (.inr a2),beq_eq_false_iff_ne.2 a1,acG (show 12<=g.tdiv 4294967296 by omega)];rfl
     ·rw[if_neg (by simp only[not_or];exact⟨a1,a2⟩)]
      have:¬12<=g.tdiv 4294967296:=by omega
      simp only[beq_eq_false_iff_ne.2 a1,acH this,cond_false]
      cases MB R.fl g<;>rfl
   by_cases hz:Mx P c ⟨g,0,3⟩=0
   ·rw[show Qm P c ⟨g,0,3⟩={ c with imp:=aI c.imp g (cL [⟨g,0,3⟩]) }from if_pos hz,hz]at ht
    refine fin (aI c.imp g (cL [⟨g,0,3⟩])) c.ret _ (he.trans hz) ⟨h.nk.2.2.1.put _ _,h.nk.2.2.2⟩ (by rw[if_pos (.inl h5),ko]) (fun md j=>?_) (fun md j=>by rw[IY (f:=eG R s m _ md) (fun hh=>by have:=hh.1.symm.trans h5;cases this)];exact h.ret j) ht
    have hj:=h.imp j
    unfold sn at hj⊢
    rw[jQ]
    unfold wD MB at hj⊢
    rw[List.any_append]
    have hf:([eG R s m [⟨g,0,3⟩] md].any fun f=>f.kind==5&&f.ps.any fun x=>x.f==j)=(g==j):=by
     simp[eG,h5]
    rw[hf]
    by_cases hgj:g=j
    ·subst hgj;rw[if_pos rfl,aal,beq_self_eq_true,Bool.or_true];rfl
    ·rw[if_neg hgj,hj,beq_eq_false_iff_ne.2 hgj,Bool.or_false]
   ·unfold wR
    rw[if_pos (by rw[he];exact hz),he]
    exact⟨_,iU (zh P c _ m _ _ hz ht),fun h0=>absurd h0 hz⟩
  ·have he:FI R s.kind m=0:=by unfold FI;rw[if_neg h5,if_neg h9]
   have ht:=IU P c m oF (by rw[pn];exact h5) (by rw[pn];exact h9)
   exact fin c.imp c.ret _ he h.nk.2.2 (by rw[if_neg (by omega)]) (fun md g=>by rw[Dw (f:=eG R s m [] md) h5];exact h.imp g) (fun md g=>by rw[IY (f:=eG R s m [] md) (fun hh=>h9 hh.1)];exact h.ret g) ht
end
section
open Go.TM
def Gl(l set:List Lt):Prop:=∀x∈l,∀p∈ja set x,p.2=true
variable [bp]
def kWi(rc:RC):ae:=[(0,.c8 rc .ready ((List.replicate 14 .any).set 4 (.ptr 1 0))),(1,.cells [.dv (B false)])]
theorem I0(x:Lt):dN Tryz.prog [cF (az x),.dv (B true)] 2 (kWi (zS Tryz.f252)) 0 fun r k=>r=[.dv (B true)]/\k=kWi (zS Tryz.f252):=by
 refine um fT mixed rfl (by kernel_rfl) ?_
 refine acg (fun h=>by cases h) fun _=>?_
 exact ext (by kernel_rfl) rfl rfl
def kWt(rc:RC)(l set:List Lt):ae:=kWi rc++[(2,.cells [.dv (aS l)]),(3,.cells [.dv (aS set)])]
structure IuS where
 j:Nat
 x:Lt
theorem I1(rc:RC)(l set:List Lt)(hl:∀x∈l,aD x=true)(hs:NS set)(hp:∀x∈set,aD x=true)(Ao:l.length<=5000)(gB:set.length<=5000)(dh:Gl l set)
 (hY:∀x:Lt,dN Tryz.prog [cF (az x),.dv (B true)] 2 (kWi rc) 0 fun r k=>r=[.dv (B true)]/\k=kWi rc):
 ao Tryz.prog 267 [.eC 0,.ptr 2 0,.ptr 3 0] 4 (kWt rc l set) 0 [] (kWt rc l set):=by
 refine cO Tryz.func267 rfl (by kernel_rfl) ?_
 have ll:(l.map az).length=l.length:=ach ..
 have ls:(set.map az).length=set.length:=ach ..
 refine⟨Nat,fun i=>⟨4,[(0,.eC 0),(1,.ptr 2 0),(2,.ptr 3 0),(9,.dv (aS l)),(10,.dv (I l.length)),(11,.dv (I i))],kWt rc l set⟩,fun i=>i<=l.length,fun i=>l.length-i,0,fun _=>rfl,jn (by simp only[ll];rfl) rfl rfl rfl,acy _,?_⟩
 rintro i hi
 refine acg (fun h=>?_) fun h=>?_
 ·have aw:i<l.length:=by have:=acA h;omega
  obtain⟨x,hx⟩:∃x,l[i]?=some x:=⟨_,aaS aw⟩
  have ix:(l.map az)[(i:Int).toNat]?=some (az x):=by rw[acj];simp[hx]
  have RN:=hl x (ack hx)
  have CS:=ai.1 RN
  have hpp:=(jy hs (by omega:0<=x.n)).pos
  have aam:=dh x (ack hx)
  have hlb:lB set:=⟨by omega,fun y hy=>by have:=ai.1 (hp y hy);omega⟩
  obtain⟨hk,aJ,qk,JR⟩:=II hs x
  refine⟨az x,fun _=>⟨by omega,ix⟩,?_⟩
  have hse:=tq set x hs hlb
  rw[<-ls]at hse
  refine .inr (cl [3,4] hse (by kernel_rfl) rfl rfl ?_)
  have hM:ja set x=zP x (set.drop (IH set x)):=by unfold ja;rw[aJ]
  refine⟨IuS,fun q=>⟨5,[(0,.eC 0),(1,.ptr 2 0),(2,.ptr 3 0),(9,.dv (aS l)),(10,.dv (I l.length)),(11,.dv (I i)),(5,.ptr 4 0),(6,.dv (I q.j))],kWt rc l set++[(4,.cells (eV (az q.x).cells))]⟩,fun q=>q.j<=set.length/\q.x.f=x.f/\x.a<=q.x.a/\q.x.a+q.x.n=x.a+x.n/\0<=q.x.n/\∃pre,ja set x=pre++zP q.x (set.drop q.j),fun q=>set.length-q.j,⟨IH set x,x⟩,fun _=>rfl,jn rfl rfl rfl rfl,⟨hk,rfl,Int.le_refl _,rfl,by show 0<=x.n;omega,[],hM⟩,?_⟩
  rintro⟨j,y⟩ ⟨hj,hf,ha,hn,Tv,pre,ka⟩
  dsimp only at hj hf ha hn Tv ka⊢
  obtain⟨s,rW⟩:∃s,j<set.length->set[j]?=some s:=by
   by_cases h:j<set.length
   ·exact⟨set[j],fun _=>aaS h⟩
   ·exact⟨x,fun h2=>absurd h2 h⟩
  have is:bw (bif decide (0<y.n)then decide ((j:Int)<(((set.map az).length:Nat):Int))else false) true=true->(0:Int)<=j/\(set.map az)[(j:Int).toNat]?=some (az s):=fun hg=>by
   have qO:j<set.length:=by have:=acA (c6 (gL hg)).2;omega
   refine⟨by omega,?_⟩
   rw[acj];simp[rW qO]
  repeat refine gG ?_
  refine⟨az s,fun h=>is h,?_⟩
  repeat refine gG ?_
  refine⟨az s,fun h=>is (qJ (c6 (gL h)).1),?_⟩
  repeat refine gG ?_
  refine⟨fun _=>by omega,?_⟩
  repeat refine gG ?_
  refine⟨by kernel_rfl,acg (fun hc=>?_) fun hc=>?_⟩
  ·have c1:=c6 hc
   have c2:=c6 c1.1
   have c3:=c6 c2.1
   have qO:j<set.length:=by have:=acA c3.2;omega
   have rW:=rW qO
   have hsb:=ai.1 (hp s (ack rW))
   have hg:Nh y s=true:=by unfold Nh;rw[c3.1,c2.2,c1.2];rfl
   have hdj:set.drop j=s::set.drop (j+1):=by
    rw[List.drop_eq_getElem_cons qO]
    rw[aaS qO]at rW
    injection rW with rW
    rw[rW]
   rw[hdj,Dc hg]at ka
   have io:(0:Int)<=j/\(set.map az)[(j:Int).toNat]?=some (az s):=⟨by omega,by rw[acj];simp[rW]⟩
   refine⟨az s,fun _=>io,fun _=>by omega,?_⟩
   refine⟨by kernel_rfl,?_⟩
   repeat refine gG ?_
   have hO:¬0<dG y s:=fun hO=>by
    rw[if_pos hO]at ka
    have:=aam (⟨y.f,y.a,dG y s⟩,false) (by rw[ka];simp)
    cases this
   have U0:bw (decide (0<dG y s)) true=false:=by rw[acH hO];rfl
   have h0:0<=dG y s:=by unfold dG;split<;>omega
   rw[if_neg hO,List.nil_append]at ka
   have RK:=hpp (⟨y.f,y.a+dG y s,jb y s⟩,true) (by rw[ka];simp)
   dsimp only at RK
   refine .inr ⟨U0,.dv (B false),fun h=>h,fun _ h=>qJ h,acg (fun h=>absurd (acA (c6 h).1) hO) fun _=>?_⟩
   refine⟨fun _=>by omega,fun _=>by omega,?_⟩
   refine⟨az s,fun _=>io,az s,fun _=>io,fun _=>by omega,fun _=>by omega,?_⟩
   refine⟨by kernel_rfl,?_⟩
   refine .inl (Tp [0,1] (hY ⟨y.f,y.a+dG y s,jb y s⟩) (by kernel_rfl) rfl rfl ?_)
   refine acg (fun h=>by cases h) fun _=>?_
   refine⟨fun _=>by omega,fun _=>by omega,fun _=>by omega,⟨j+1,⟨y.f,y.a+dG y s+jb y s,y.n-dG y s-jb y s⟩⟩,jn rfl rfl rfl rfl,⟨qO,hf,by dsimp only;omega,by dsimp only;omega,by dsimp only;omega,pre++[(⟨y.f,y.a+dG y s,jb y s⟩,true)],by rw[ka];simp⟩,by dsimp only;omega⟩
  ·have iG:zP y (set.drop j)=if 0<y.n then[(y,false)]else[]:=by
    by_cases AI:j<set.length
    ·have rW:=rW AI
     rw[List.drop_eq_getElem_cons AI]
     rw[aaS AI]at rW
     injection rW with rW
     rw[rW]
     refine IJ ?_
     have h2:=lZ hc
     rw[Bool.eq_false_iff]
     intro hg
     simp only[Nh,acU]at hg
     exact h2 ⟨by rw[hg.1,acG (by omega),hg.2.1];rfl,hg.2.2⟩
    ·rw[List.drop_eq_nil_of_le (by omega)]
     conv=>lhs;unfold zP
   rw[iG]at ka
   repeat refine gG ?_
   have hO:¬0<y.n:=fun hO=>by
    rw[if_pos hO]at ka
    have:=aam (y,false) (by rw[ka];simp)
    cases this
   have U0:bw (decide (0<y.n)) true=false:=by rw[acH hO];rfl
   refine .inr ⟨U0,.dv (B false),fun h=>h,fun _ h=>qJ h,acg (fun h=>absurd (acA (c6 h).1) hO) fun _=>?_⟩
   exact⟨fun _=>by omega,i+1,jn rfl rfl rfl rfl,aw,mlt aw⟩
 ·exact ext (by kernel_rfl) rfl rfl
theorem Dy(l set:List Lt)(hl:∀x∈l,aD x=true)(hs:NS set)(hp:∀x∈set,aD x=true)(Ao:l.length<=5000)(gB:set.length<=5000)(dh:Gl l set):aQ Tryz.prog 252 [aS l,aS set] [B true]:=by
 refine pO Tryz.func252 rfl (by kernel_rfl) rfl ?_
 have hi:=I1 (zS Tryz.f252) l set hl hs hp Ao gB dh fun x=>I0 x
 refine .inr (cl [] (vR l set) (by kernel_rfl) rfl rfl ?_)
 refine⟨zS Tryz.f252,by kernel_rfl,?_⟩
 refine⟨[3,0,1,2],[.eC 0,.ptr 2 0,.ptr 3 0],kWt (zS Tryz.f252) l set,0,_,hi,by kernel_rfl,⟨rfl,rfl,rfl,tv⟩,⟨⟨rfl,rfl,?_⟩,⟨rf,tv⟩,⟨rf,tv⟩,⟨rf,tv⟩,tv⟩,?_⟩
 ·exact kM (by kernel_rfl)
 rintro rs K2 ⟨rfl,rfl⟩
 exact⟨by kernel_rfl,rf,tv⟩
theorem Dz(P s:List Lt)(hP:bH P=true)(hs:bH s=true)(dh:Gl P (cL s)):aQ Tryz.prog 237 [aS P,aS s] [B true]:=by
 obtain⟨h1,h2⟩:=fb hs
 obtain⟨h3,h4⟩:=fb hP
 have hn:∀x∈s,1<=x.n:=fun x hx=>(ai.1 (h2 x hx)).2.2.1
 have hso:=gj hn
 have kY:kr s=cL s:=by unfold kr;rw[hs];rfl
 have gB:=pK s
 rw[kY]at gB
 have hw:=Dy P (cL s) h4 hso.1 gB.2 (by omega) (by omega) dh
 refine pO Tryz.func237 rfl (by kernel_rfl) rfl ?_
 refine .inl ⟨_,fun _=>(fB P (by omega)).ok,?_⟩
 repeat refine gG ?_
 refine .inl ⟨_,fun _=>(fB s (by omega)).ok,?_⟩
 rw[hs,hP]
 repeat refine gG ?_
 refine Or.inl ?_
 refine⟨_,fun _=>(mY s h2 (by omega)).ok,?_⟩
 repeat refine gG ?_
 refine Or.inl ?_
 refine⟨_,fun _=>hw.ok,?_⟩
 repeat refine gG ?_
 exact⟨rf,tv⟩
end
section
open Go.TM
variable [bp]
theorem Qy(s P:List Lt)(hs:bH s=true)(hP:bH P=true)(bz:s.length*(2*P.length+1)<=90000):aQ Tryz.prog 238 [aS s,aS P] [aS (mu s P)]:=by
 obtain⟨h1,h2⟩:=fb hs
 obtain⟨h3,h4⟩:=fb hP
 have hn:∀x∈P,1<=x.n:=fun x hx=>(ai.1 (h4 x hx)).2.2.1
 have hso:=gj hn
 have kY:kr P=cL P:=by unfold kr;rw[hP];rfl
 have gB:=pK P
 rw[kY]at gB
 have hle:s.length*(2*(cL P).length+1)<=90000:=Nat.le_trans (Nat.mul_le_mul_left _ (by omega)) bz
 have M5:=jU s (cL P) h2 hso.1 gB.2 (by omega) (by omega) hle
 have U7:=SF (l:=s) (P:=P) (fun x hx=>(ai.1 (h2 x hx)).2.2.1) hn hso.1 hso.2
 refine pO Tryz.func238 rfl (by kernel_rfl) rfl ?_
 refine .inl ⟨_,fun _=>(fB s (by omega)).ok,?_⟩
 repeat refine gG ?_
 refine .inl ⟨_,fun _=>(fB P (by omega)).ok,?_⟩
 rw[hs,hP]
 repeat refine gG ?_
 refine acg (fun h=>by cases h) fun _=>?_
 refine .inl ⟨_,fun _=>(mY P h4 (by omega)).ok,?_⟩
 refine .inl ⟨_,fun _=>M5.ok,?_⟩
 exact⟨DV.Le.of_eq (by rw[U7]),tv⟩
end
section
open Go.TM
variable [bp]
theorem Qz(P:PL)(c:Ch)(m:di)(cC:m.ps≠[])(hv:bH (ez P c (m.fr,m.it))=true)(hp:bH m.ps=true)(dh:Gl m.ps (cL (ez P c (m.fr,m.it))))(bz:(ez P c (m.fr,m.it)).length*(2*m.ps.length+1)<=90000):
 ao Tryz.prog 209 [.ptr 0 0,cF (aq m)] 14 (dI 0 0 P c) 0 [.dv (aS m.ps),.dv (I 0)] (dI 0 0 P { c with st:=aI c.st (m.fr,m.it) (mu (ez P c (m.fr,m.it)) m.ps) }):=by
 have hw:=(Dz m.ps (ez P c (m.fr,m.it)) hp hv dh).ok
 have ho:=(Qy (ez P c (m.fr,m.it)) m.ps hv hp bz).ok
 have hl:=(fb hp).1
 refine cO Tryz.func209 rfl (by kernel_rfl) ?_
 repeat refine gG ?_
 refine .inr (cl [0,1,2,3,4,5,6,7,8,9,10,11,12,13] (iu P c m.fr _) (by kernel_rfl) rfl rfl ?_)
 repeat refine gG ?_
 refine acg (fun h=>?_) fun _=>?_
 ·have h:=beq_iff_eq.1 h
  rw[ach]at h
  exact absurd (List.length_eq_zero_iff.1 (by omega)) cC
 refine .inl ⟨_,fun _=>hw,?_⟩
 refine acg (fun h=>by cases h) fun _=>?_
 refine .inl ⟨_,fun _=>ho,?_⟩
 refine⟨na,qN (m.fr,m.it),rfl,rfl,?_⟩
 refine⟨aS (mu (ez P c (m.fr,m.it)) m.ps),⟨rf,tv⟩,rfl,false,fun _=>⟨n9 c.st _,fE _⟩,?_⟩
 rw[show cR (oH c.st) (qN (m.fr,m.it)) (aS (mu (ez P c (m.fr,m.it)) m.ps))=oH (aI c.st (m.fr,m.it) (mu (ez P c (m.fr,m.it)) m.ps))from cY iS c.st _ _]
 refine acg (by kernel_rfl) ?_
 refine .inr (cl [] (ey m.ps (by omega)) (by kernel_rfl) rfl rfl ?_)
 exact⟨_,_,⟨rfl,rfl⟩,by kernel_rfl,⟨n0 _,rf,tv⟩,aX (k:=dI 0 0 P { c with st:=aI c.st (m.fr,m.it) (mu (ez P c (m.fr,m.it)) m.ps) }) rfl⟩
end
section
open Go.TM Go.RowKit
variable [bp]
theorem I2(l:List Lt)(hl:l≠[]):aQ Tryz.prog 241 [aS l] [.GY 3 (l.map az)]:=by
 refine⟨Gc,fun w M vs dh hg hr=>?_⟩
 match vs,hr with
 |[v],hr=>
  have hv:bq M (.sl 3 (l.map az)) v:=hr.2 0 _ v rfl rfl
  have cC:l.map az≠[]:=fun h=>hl (List.map_eq_nil_iff.1 h)
  generalize l.map az=k at hv cC
  cases hv with
  |slnil=>exact absurd rfl cC
  |sl sz ls a cap cell dY hlen hc Lq=>
   refine(zf a _ cap dY w).mono ?_
   rintro e w' ⟨rfl,rfl⟩
   exact⟨_,M,rfl,Below.refl _ _,Mem.Le.refl _,dh,fun _ _=>rfl,.GY _ _ a cell hlen hc Lq⟩
end
end Go.Proofs.YtmojfblpbcficaaGreatDoor
