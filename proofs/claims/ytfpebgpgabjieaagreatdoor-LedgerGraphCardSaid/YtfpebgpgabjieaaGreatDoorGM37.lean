import Derived.Test.YtfpebgpgabjieaaGreatDoorGM23
import Derived.Test.YtfpebgpgabjieaaGreatDoorGM32
import Derived.Test.YtfpebgpgabjieaaGreatDoorGM33
import Derived.Test.YtfpebgpgabjieaaGreatDoorGM34
import Derived.Test.YtfpebgpgabjieaaGreatDoorGM35
import Derived.Test.YtfpebgpgabjieaaGreatDoorGM36
import Derived.Test.YtfpebgpgabjieaaGreatDoorGM30
import Derived.Test.YtfpebgpgabjieaaGreatDoorGM29
import Derived.Test.YtfpebgpgabjieaaGreatDoorGM31
set_option linter.all false
open Go.TM.oA Go.TM.oB Go.TM.oC Go.TM.oD Go.TM.oE
namespace Go.Proofs.YtfpebgpgabjieaaGreatDoor
set_option maxRecDepth 100000
set_option maxHeartbeats 4000000
section
open Go.TM
def Nd(fl:List bp)(g:Int):Bool:=fl.any fun f=>f.kind==5&&f.ps.any fun x=>x.f==g
def wP(fl:List bp)(g:Int):Option (List Lt):=bif Nd fl g then some [⟨g,0,3⟩]else none
theorem ns3(g:Int):NS [⟨g,0,3⟩]:=⟨aem _ _,fun x hx=>by rw[adU]at hx;subst hx;show(1:Int)<=3;decide⟩
theorem abz(g:Int):cL [⟨g,0,3⟩]=[⟨g,0,3⟩]:=KY (ns3 g)
theorem Yr{g:Int}(h:0<=g):aB ⟨g,0,3⟩=true:=ah.2 ⟨h,by simp,by simp,by simp⟩
theorem U2{g:Int}(h:0<=g):bz [⟨g,0,3⟩]=true:=fj (fun x hx=>by rw[adU]at hx;subst hx;exact Yr h) (by simp)
theorem wo3(a b:Int):mD [⟨a,0,3⟩] [⟨b,0,3⟩]=if a=b then[]else[⟨a,0,3⟩]:=by
 by_cases h:a=b
 ·subst h;rw[if_pos rfl];simp[mD,mZ,ji,gP]
 ·rw[if_neg h];simp[mD,mZ,ji,gP,h,aN]
theorem acQ(a:Int):mD [⟨a,0,3⟩] []=[⟨a,0,3⟩]:=by simp[mD,mZ,aN]
theorem acR{a b:Int}(ha:0<=a)(hb:0<=b):C2 [⟨a,0,3⟩] [⟨b,0,3⟩]=if a=b then[⟨a,0,3⟩]else[]:=by
 have e:∀P,u5 [⟨a,0,3⟩] P=bif bz P then mD [⟨a,0,3⟩] P else[]:=fun P=>by
  simp only[u5,kF,U2 ha,cond_true,abz,IU,Bool.true_and]
 rw[C2,U2 hb,cond_true,e,e,U2 hb,cond_true,wo3]
 by_cases h:a=b
 ·rw[if_pos h,if_pos h,acQ];rfl
 ·rw[if_neg h,if_neg h,U2 ha,cond_true,wo3,if_pos rfl]
theorem GK{α:Type}{p q:α->Bool}:∀{l:List α},(∀x∈l,p x=q x)->l.any p=l.any q
 |[],_=>rfl
 |a::l,h=>by rw[List.any_cons,List.any_cons,h a ad0,GK fun x hx=>h x (adW _ hx)]
theorem Ys{R:RL}(hG:Good R){g:Int}(hg:0<=g):R.fl.any (Qe ⟨g,0,3⟩)=Nd R.fl g:=GK fun f hf=>by
 unfold Qe
 by_cases h:f.kind=5
 ·obtain⟨a,ha,e⟩:=(hG.F8 f hf).2.2.2.2.2 h
  rw[h,e,acR ha hg]
  by_cases h2:a=g<;>simp[h2]
 ·simp[h]
structure ki(P:PL)(s:cG)(c:Ch)(R:RL):Prop where
 sh:R.sh=P.sh
 sp:R.sp=P.sp
 U3:c.sp=spI P s
 nk:Nk c.st/\Nk c.bZ/\Nk c.imp/\Nk c.ret
 ret:∀g,sD c.ret P.ret g=kg R.fl g
 fl:R.fl=P.fl++c.fl
 st:∀k,eL P c k=bC R.st k
 bZ:∀j,(aU c.bZ j).getD (Gm P.bZ j)=bN R.st j
 imp:∀g,sD c.imp P.imp g=wP R.fl g
 sk:c.sk=qZ R.fl (R.sh*4294967296+R.sp.length)
theorem U4(fl:List bp)(f:bp)(st:Int)(h:f.step=st):qZ (fl++[f]) st=qZ fl st++bif f.to==0 then[f.id]else[]:=by
 unfold qZ
 rw[List.filter_append,ad7,List.filter_cons,List.filter_nil,h]
 cases f.to==0<;>simp
theorem ki.next{P:PL}{s:cG}{c c2:Ch}{R R2:RL}{f:bp}{it:Int}(d:Int)(h:ki P s c R)(e1:c2.sp=c.sp)(e2:Nk c2.st/\Nk c2.imp/\Nk c2.ret)(e3:∀g,sD c2.ret P.ret g=kg (R.fl++[f]) g)(e4:c2.fl=c.fl++[f])(e5:c2.bZ=aH c.bZ it (bN R.st it+d))(e6:c2.sk=c.sk++bif f.to==0 then[f.id]else[])
 (e7:R2.sh=R.sh/\R2.sp=R.sp/\R2.fl=R.fl++[f]) (e8:f.step=R.sh*4294967296+R.sp.length) (e9:∀k,eL P c2 k=bC R2.st k) (e10:∀j,bN R2.st j=if it=j then bN R.st j+d else bN R.st j) (e11:∀g,sD c2.imp P.imp g=wP (R.fl++[f]) g):ki P s c2 R2 where
 sh:=e7.1.trans h.sh
 sp:=e7.2.1.trans h.sp
 U3:=e1.trans h.U3
 nk:=⟨e2.1,by rw[e5];exact h.nk.2.1.put _ _,e2.2⟩
 ret g:=by rw[e7.2.2];exact e3 g
 fl:=by rw[e7.2.2,e4,h.fl,aef]
 st:=e9
 bZ j:=by
  rw[e5,iY,e10]
  by_cases hj:it=j
  ·rw[if_pos hj,if_pos hj,hj];rfl
  ·rw[if_neg hj,if_neg hj];exact h.bZ j
 imp g:=by rw[e7.2.2];exact e11 g
 sk:=by rw[e6,e7.1,e7.2.1,e7.2.2,U4 _ _ _ e8,h.sk]
theorem DI(P:PL)(c:Ch)(k:Ky)(l:List Lt)(m:SM)(hm:∀j,(aU m j).getD (bC P.st j)=eL P c j)(j:Ky):(aU (aH m k l) j).getD (bC P.st j)=if k=j then l else eL P c j:=by
 rw[iY];split
 ·rfl
 ·exact hm j
theorem QW{P:PL}{s:cG}{c:Ch}{R:RL}(h:ki P s c R)(m:c5)(l:List Lt)(md:List Int):dL P c m l md=dX R s m l md:=by
 unfold dL dX
 rw[h.U3,h.fl,h.sh,h.sp]
 unfold spI
 simp only[ad1,bp.mk.injEq,and_true,true_and]
 omega
theorem DJ{fl:List bp}{f:bp}(h:f.kind≠5)(g:Int):wP (fl++[f]) g=wP fl g:=by
 unfold wP Nd
 rw[List.any_append,List.any_cons,List.any_nil,beq_eq_false_iff_ne.2 h,Bool.false_and,Bool.or_false,Bool.or_false]
theorem Ju{fl:List bp}{f:bp}(h:¬(f.kind=9/\f.fr=0))(g:Int):kg (fl++[f]) g=kg fl g:=by unfold kg;rw[abn h]
def wR(R:RL)(s:cG)(m:c5):Int×RL:=if Db R s.kind m≠0 then(Db R s.kind m,R)else if 1099511627776<bN R.st m.it+m.n then(4,R)else(0,wL R s m (if s.kind=5\/s.kind=9 then m.ps else[]) (bif tz s.kind then qZ R.fl (R.sh*4294967296+R.sp.length)else[]))
theorem qH(R:RL)(s:cG)(m:c5)(hf:m.fr=0)(ht:0<m.to):aX R s m=wR R s m:=Ql R s m hf ht
theorem ki.bd{P:PL}{s:cG}{c:Ch}{R:RL}(h:ki P s c R)(hG:Good R)(it:Int):(0<=P.sh/\P.sh<=12)/\(P.fl.length<=900000/\c.fl.length<=900000/\c.sk.length<=900000)/\0<=bN R.st it/\bN R.st it<=1099511627776:=by
 have oF:=hG.sh
 rw[h.sh]at oF
 have km:=hG.fl
 have h1:=congrArg List.length h.fl
 have h2:=C8 R.fl (R.sh*4294967296+R.sp.length)
 rw[<-h.sk]at h2
 rw[ad1]at h1
 exact⟨by omega,by omega,(yY it R.st).1,hG.tb _⟩
variable [bj]
theorem QX{P:PL}{s:cG}{c:Ch}{R:RL}{m:c5}(h:ki P s c R)(hG:Good R)(hl:R.fl.length+1<=160)(hb:di m=true)(eC:0<m.fr)(h5:s.kind≠5)(tk:List Lt×List Lt)(hq:∀j,bN (AG R s m tk).st j=if m.it=j then bN R.st j+(if m.fr=0 then m.n else 0)-(if m.to=0 then m.n else 0)else bN R.st j)
 (hw:aj Tryz.prog 145 [.ptr 0 0,cx (aq m)] 14 (dJ 0 0 P c) 0 [.dv (aQ tk.1),.dv (I 0)] (dJ 0 0 P { c with st:=aH c.st (m.fr,m.it) tk.2 })):
 ∃c',aj Tryz.prog 99 [.ptr 0 0,cx (aq m)] 14 (dJ 0 0 P c) 0 [.dv (I 0)] (dJ 1 1 P c')/\ki P s c' (AG R s m tk):=by
 have hb:=ad5 hb
 obtain⟨oF,hlen,Jv⟩:=h.bd hG m.it
 have hv:dS P c m=bN R.st m.it:=h.bZ m.it
 have S6:0<=dS P c m/\dS P c m<=1099511627776:=by rw[hv];exact Jv
 have hT:=hG.oK (m.to,m.it)
 have Gl:=QW h m tk.1 []
 have OB:=DI P c (m.fr,m.it) tk.2 c.st (fun j=>rfl)
 have hfk:(dX R s m tk.1 []).kind≠5:=h5
 have Nf:∀g,sD c.ret P.ret g=kg (R.fl++[dX R s m tk.1 []]) g:=fun g=>by
  rw[Ju (fun hh=>absurd hh.2 (show¬m.fr=0 by omega))];exact h.ret g
 by_cases kn:m.to=0
 ·refine⟨_,jb (QT P c { c with st:=aH c.st (m.fr,m.it) tk.2 } m _ ⟨hb.2.2.1,hb.2.2.2.1⟩ S6 oF hlen (by omega) kn hw),?_⟩
  refine ki.next (f:=dX R s m tk.1 []) (it:=m.it) (-m.n) h rfl ⟨h.nk.1.put _ _,h.nk.2.2⟩ Nf ?_ ?_ ?_ ⟨rfl,rfl,rfl⟩ rfl ?_ ?_ ?_
  ·exact congrArg (fun f=>c.fl++[f]) Gl
  ·exact congrArg (fun t=>aH c.bZ m.it (t-m.n)) hv
  ·rw[show(dX R s m tk.1 []).to=0 from kn]
   exact congrArg (fun f:bp=>c.sk++[f.id]) Gl
  ·intro k
   unfold AG
   simp only[if_neg (by omega:¬0<m.to),fB]
   exact(OB k).trans (by rw[h.st])
  ·intro j
   refine(hq j).trans ?_
   rw[if_neg (by omega:¬m.fr=0),if_pos kn]
   split<;>omega
  ·intro g;rw[DJ hfk];exact h.imp g
 ·have c6:∀l,bC (aH R.st (m.fr,m.it) l) (m.to,m.it)=bC R.st (m.to,m.it):=fun l=>by
   rw[fB,if_neg];intro h;injection h with h1;omega
  have Gd:eL P { c with st:=aH c.st (m.fr,m.it) tk.2 } (m.to,m.it)=bC R.st (m.to,m.it):=by
   refine(OB _).trans ?_
   rw[if_neg (by intro h;injection h with h1;omega),h.st]
  have Wx:=QV P c { c with st:=aH c.st (m.fr,m.it) tk.2 } m _ ⟨hb.2.2.1,hb.2.2.2.1⟩ S6 oF hlen (by omega) kn (by rw[Gd];exact fj hT.1 (by omega)) (by rw[Gd];omega) hw
  rw[Gd]at Wx
  refine⟨_,jb Wx,?_⟩
  refine ki.next (f:=dX R s m tk.1 []) (it:=m.it) 0 h rfl ⟨(h.nk.1.put _ _).put _ _,h.nk.2.2⟩ Nf ?_ ?_ ?_ ⟨rfl,rfl,rfl⟩ rfl ?_ ?_ ?_
  ·exact congrArg (fun f=>c.fl++[f]) Gl
  ·exact congrArg (fun t=>aH c.bZ m.it t) (hv.trans (by omega))
  ·rw[show((dX R s m tk.1 []).to==0)=false from beq_eq_false_iff_ne.2 kn]
   exact(List.append_nil _).symm
  ·intro k
   unfold AG
   simp only[if_pos (by omega:0<m.to)]
   rw[fB]
   refine(DI P { c with st:=aH c.st (m.fr,m.it) tk.2 } (m.to,m.it) _ _ (fun j=>rfl) k).trans ?_
   rw[show dL P { c with st:=aH c.st (m.fr,m.it) tk.2 } m tk.1 []=_ from Gl]
   split
   ·rfl
   ·rw[fB];exact(OB k).trans (by rw[h.st])
  ·intro j
   refine(hq j).trans ?_
   rw[if_neg (by omega:¬m.fr=0),if_neg kn]
   split<;>omega
  ·intro g;rw[DJ hfk];exact h.imp g
theorem Wy{P:PL}{s:cG}{c:Ch}{R:RL}{m:c5}(h:ki P s c R)(hG:Good R)(hl:R.fl.length+1<=160)(hb:di m=true)(mi:m.fr=0)(hc:¬1099511627776<bN R.st m.it+m.n)(tM tN:IM (List Lt))(l:List Lt)(hni:Nk tM/\Nk tN)
 (hq:∀j,bN (wL R s m l (bif tz s.kind then qZ R.fl (R.sh*4294967296+R.sp.length)else[])).st j=if m.it=j then bN R.st j+(if m.fr=0 then m.n else 0)-(if m.to=0 then m.n else 0)else bN R.st j)
 (himp:∀md g,sD tM P.imp g=wP (R.fl++[dX R s m l md]) g) (Nf:∀md g,sD tN P.ret g=kg (R.fl++[dX R s m l md]) g)
 (ht:aj Tryz.prog 145 [.ptr 0 0,cx (aq m)] 14 (dJ 0 0 P c) 0 [.dv (aQ l),.dv (I 0)] (dJ 0 0 P ⟨c.sp,c.st,c.bZ,tM,tN,c.fl,c.sk⟩)):
 ∃c',aj Tryz.prog 99 [.ptr 0 0,cx (aq m)] 14 (dJ 0 0 P c) 0 [.dv (I 0)] (dJ 1 1 P c')/\ki P s c' (wL R s m l (bif tz s.kind then qZ R.fl (R.sh*4294967296+R.sp.length)else[])):=by
 have hb:=ad5 hb
 obtain⟨oF,hlen,Jv⟩:=h.bd hG m.it
 have hv:dS P c m=bN R.st m.it:=h.bZ m.it
 have S6:0<=dS P c m/\dS P c m<=1099511627776:=by rw[hv];exact Jv
 have pB:c.sp.kind=s.kind:=by rw[h.U3];rfl
 have hT:=hG.oK (m.to,m.it)
 have kn:0<m.to:=by omega
 have ZQ:m.to≠0:=by omega
 have Gd:eL P ⟨c.sp,c.st,c.bZ,tM,tN,c.fl,c.sk⟩ (m.to,m.it)=bC R.st (m.to,m.it):=h.st _
 have nxt:∀md,md=(bif tz s.kind then qZ R.fl (R.sh*4294967296+R.sp.length)else[])->ki P s { AK P ⟨c.sp,c.st,c.bZ,tM,tN,c.fl,c.sk⟩ m (dS P c m+m.n) l md with st:=aH c.st (m.to,m.it) (aN (bC R.st (m.to,m.it)) ⟨(dL P c m l md).id,0,m.n⟩) } { R with
  st:=aH R.st (m.to,m.it) (aN (bC R.st (m.to,m.it)) ⟨R.sh*4294967296+R.fl.length,0,m.n⟩)
  fl:=R.fl++[dX R s m l (bif tz s.kind then qZ R.fl (R.sh*4294967296+R.sp.length)else[])] }:=by
  rintro md rfl
  have Gl:=QW h m l (bif tz s.kind then qZ R.fl (R.sh*4294967296+R.sp.length)else[])
  rw[Gl,hv]
  refine ki.next (f:=dX R s m l _) (it:=m.it) m.n h rfl ⟨h.nk.1.put _ _,hni⟩ (Nf _) ?_ rfl ?_ ⟨rfl,rfl,rfl⟩ rfl ?_ ?_ ?_
  ·exact congrArg (fun f=>c.fl++[f]) Gl
  ·rw[show((dX R s m l (bif tz s.kind then qZ R.fl (R.sh*4294967296+R.sp.length)else[])).to==0)=false from beq_eq_false_iff_ne.2 ZQ]
   exact(List.append_nil _).symm
  ·intro k
   rw[fB]
   refine(DI P c (m.to,m.it) _ c.st (fun j=>rfl) k).trans ?_
   rw[h.st];rfl
  ·intro j
   refine(hq j).trans ?_
   rw[if_pos mi,if_neg ZQ]
   split<;>omega
  ·intro g;exact himp _ g
 by_cases hM:s.kind=4\/s.kind=10
 ·have hi:tz s.kind=true:=by unfold tz;rcases hM with h|h<;>rw[h]<;>rfl
  have Wx:=QS P c ⟨c.sp,c.st,c.bZ,tM,tN,c.fl,c.sk⟩ m l ⟨hb.2.2.1,hb.2.2.2.1⟩ S6 oF hlen mi ZQ (by rw[<-pB]at hM;exact hM) (by show¬_<dS P c m+m.n;rw[hv];exact hc) (by rw[Gd];exact fj hT.1 (by omega)) (by rw[Gd];omega) ht
  rw[Gd]at Wx
  exact⟨_,jb Wx,nxt c.sk (by rw[hi,h.sk];rfl)⟩
 ·have hi:tz s.kind=false:=by
   unfold tz;rw[Bool.or_eq_false_iff];exact⟨beq_eq_false_iff_ne.2 fun e=>hM (.inl e),beq_eq_false_iff_ne.2 fun e=>hM (.inr e)⟩
  have Wx:=QU P c ⟨c.sp,c.st,c.bZ,tM,tN,c.fl,c.sk⟩ m l ⟨hb.2.2.1,hb.2.2.2.1⟩ S6 oF hlen mi ZQ (by rw[<-pB]at hM;exact⟨fun e=>hM (.inl e),fun e=>hM (.inr e)⟩) (by show¬_<dS P c m+m.n;rw[hv];exact hc) (by rw[Gd];exact fj hT.1 (by omega)) (by rw[Gd];omega) ht
  rw[Gd]at Wx
  exact⟨_,jb Wx,nxt [] (by rw[hi];rfl)⟩
theorem QY(hS:n4){P:PL}{s:cG}{c:Ch}{R:RL}{m:c5}(h:ki P s c R)(hG:Good R)(hl:R.fl.length+1<=160)(hm:AF R.sh s m):
 ∃c',aj Tryz.prog 99 [.ptr 0 0,cx (aq m)] 14 (dJ 0 0 P c) 0 [.dv (I (aX R s m).1)] (dJ 1 1 P c')/\((aX R s m).1=0->ki P s c' (aX R s m).2):=by
 have hb:=ad5 hm.base
 have MA:=Dd hG hl hm
 obtain⟨oF,hlen,Jv⟩:=h.bd hG m.it
 have hv:dS P c m=bN R.st m.it:=h.bZ m.it
 have S6:0<=dS P c m/\dS P c m<=1099511627776:=by rw[hv];exact Jv
 have pB:c.sp.kind=s.kind:=by rw[h.U3];rfl
 by_cases eC:0<m.fr
 ·have hk:s.kind≠5/\m.ps=[]:=by
   rcases hm.ps with h|h
   ·omega
   ·exact⟨h.1,h.2.2⟩
  have e:=h.st (m.fr,m.it)
  have hS2:=hG.oK (m.fr,m.it)
  have Av:=fj hS2.1 (by have:=hG.fl;omega)
  have c6:bC (aH R.st (m.fr,m.it) (eV (bC R.st (m.fr,m.it)) m.n (wM m.it)).2) (m.to,m.it)=bC R.st (m.to,m.it):=by
   rw[fB,if_neg];intro h;injection h with h1;omega
  rw[xj R s m eC hk.2]at MA⊢
  by_cases hc:cu (bC R.st (m.fr,m.it))<m.n
  ·rw[if_pos hc]
   exact⟨c,jb (zv P c c m [] 10 (by decide) (sq P c c m [] 10 (by omega) (QL hS P c m hk.2 ⟨hb.1,hb.2.1⟩ (by omega) (by rw[e];exact Av) (by rw[e];exact aeb hc)))),fun h=>absurd h (show¬(10:Int)=0 by decide)⟩
  rw[if_neg hc]at MA⊢
  have hw:=sq P c _ m _ 0 (by omega) (QM hS P c m hk.2 ⟨hb.1,hb.2.1⟩ (by omega) (by rw[e];exact Av) (by rw[e];exact aec hc))
  rw[e]at hw
  simp only[c6]at MA⊢
  obtain⟨c',h1,h2⟩:=QX h hG hl hm.base eC hk.1 _ (MA (by trivial)).2.2 hw
  exact⟨c',h1,fun _=>h2⟩
 ·have mi:m.fr=0:=by omega
  have kn:0<m.to:=by omega
  have ZQ:m.to≠0:=by omega
  rw[qH R s m mi kn]at MA⊢
  have fin:∀(tM tN:IM (List Lt)) (l:List Lt),Db R s.kind m=0->Nk tM/\Nk tN->(if s.kind=5\/s.kind=9 then m.ps else[])=l->(∀md g,sD tM P.imp g=wP (R.fl++[dX R s m l md]) g)->(∀md g,sD tN P.ret g=kg (R.fl++[dX R s m l md]) g)->aj Tryz.prog 145 [.ptr 0 0,cx (aq m)] 14 (dJ 0 0 P c) 0 [.dv (aQ l),.dv (I 0)] (dJ 0 0 P ⟨c.sp,c.st,c.bZ,tM,tN,c.fl,c.sk⟩)->
   ∃c',aj Tryz.prog 99 [.ptr 0 0,cx (aq m)] 14 (dJ 0 0 P c) 0 [.dv (I (wR R s m).1)] (dJ 1 1 P c')/\((wR R s m).1=0->ki P s c' (wR R s m).2):=by
   intro tM tN l he hni hle himp Nf ht
   unfold wR at MA⊢
   rw[if_neg (fun hh=>hh he)]at MA⊢
   by_cases hc:1099511627776<bN R.st m.it+m.n
   ·rw[if_pos hc]
    exact⟨_,jb (GJ P c ⟨c.sp,c.st,c.bZ,tM,tN,c.fl,c.sk⟩ m l ⟨hb.2.2.1,hb.2.2.2.1⟩ S6 oF hlen mi ZQ (by show _<dS P c m+m.n;rw[hv];exact hc) ht),fun h=>absurd h (show¬(4:Int)=0 by decide)⟩
   rw[if_neg hc]at MA⊢
   rw[hle]at MA⊢
   obtain⟨c',h1,h2⟩:=Wy h hG hl hm.base mi hc tM tN l hni (MA rfl).2.2 himp Nf ht
   exact⟨c',h1,fun _=>h2⟩
  rcases hm.ps with⟨h5,_,g,g0,g1,kz⟩|⟨h5,h9,kz⟩
  ·have hu:=h.imp g
   have ht:=Jr P c m ⟨g,0,3⟩ mi (pB.trans h5) kz (Yr g0) g1 (fun l hl=>by
    rw[hu]at hl
    unfold wP at hl
    cases hi:Nd R.fl g with
    |false=>rw[hi]at hl;cases hl
    |true=>
     rw[hi]at hl;injection hl with hl;subst hl
     refine⟨ns3 g,fun y hy=>by rw[adU]at hy;subst hy;exact Yr g0,by simp,fun hn=>?_⟩
     exact(CV (ns3 g).pos (ns3 g)).1 hn g 0 ⟨_,adU.2 rfl,rfl,by simp,by simp⟩ ⟨_,adU.2 rfl,rfl,by simp,by simp⟩)
   have he:Db R s.kind m=M9 P c ⟨g,0,3⟩:=by
    unfold Db M9
    rw[if_pos h5,kz]
    unfold vc
    rw[Ys hG g0,hu,h.sh]
    unfold wP
    by_cases a1:g.tdiv 4294967296=P.sh
    ·simp[a1]
    ·by_cases a2:11<g.tdiv 4294967296
     ·rw[if_pos (.inr a2),beq_eq_false_iff_ne.2 a1,aeb (show 12<=g.tdiv 4294967296 by omega)];rfl
     ·rw[if_neg (by simp only[not_or];exact⟨a1,a2⟩)]
      have:¬12<=g.tdiv 4294967296:=by omega
      simp only[beq_eq_false_iff_ne.2 a1,aec this,cond_false]
      cases Nd R.fl g<;>rfl
   by_cases hz:M9 P c ⟨g,0,3⟩=0
   ·rw[show QN P c ⟨g,0,3⟩={ c with imp:=aH c.imp g (cL [⟨g,0,3⟩]) }from if_pos hz,hz]at ht
    refine fin (aH c.imp g (cL [⟨g,0,3⟩])) c.ret _ (he.trans hz) ⟨h.nk.2.2.1.put _ _,h.nk.2.2.2⟩ (by rw[if_pos (.inl h5),kz]) (fun md j=>?_) (fun md j=>by rw[Ju (f:=dX R s m _ md) (fun hh=>by have:=hh.1.symm.trans h5;cases this)];exact h.ret j) ht
    have hj:=h.imp j
    unfold sD at hj⊢
    rw[iY]
    unfold wP Nd at hj⊢
    rw[List.any_append]
    have hf:([dX R s m [⟨g,0,3⟩] md].any fun f=>f.kind==5&&f.ps.any fun x=>x.f==j)=(g==j):=by
     simp[dX,h5]
    rw[hf]
    by_cases hgj:g=j
    ·subst hgj;rw[if_pos rfl,abz,beq_self_eq_true,Bool.or_true];rfl
    ·rw[if_neg hgj,hj,beq_eq_false_iff_ne.2 hgj,Bool.or_false]
   ·unfold wR
    rw[if_pos (by rw[he];exact hz),he]
    exact⟨_,jb (zv P c _ m _ _ hz ht),fun h0=>absurd h0 hz⟩
  ·have he:Db R s.kind m=0:=by unfold Db;rw[if_neg h5,if_neg h9]
   have ht:=Jq P c m mi (by rw[pB];exact h5) (by rw[pB];exact h9)
   exact fin c.imp c.ret _ he h.nk.2.2 (by rw[if_neg (by omega)]) (fun md g=>by rw[DJ (f:=dX R s m [] md) h5];exact h.imp g) (fun md g=>by rw[Ju (f:=dX R s m [] md) (fun hh=>h9 hh.1)];exact h.ret g) ht
end
section
open Go.TM
def GL(l set:List Lt):Prop:=∀x∈l,∀p∈kC set x,p.2=true
variable [bj]
def kWi(rc:RC):ad:=[(0,.dw rc .ready ((List.replicate 14 .any).set 4 (.ptr 1 0))),(1,.cells [.dv (B false)])]
theorem Jw(x:Lt):dP Tryz.prog [cx (ax x),.dv (B true)] 2 (kWi (Ag Tryz.f247)) 0 fun r k=>r=[.dv (B true)]/\k=kWi (Ag Tryz.f247):=by
 refine uJ fO mixed rfl (by kernel_rfl) ?_
 refine adN (fun h=>by cases h) fun _=>?_
 exact ext (by kernel_rfl) rfl rfl
def kWt(rc:RC)(l set:List Lt):ad:=kWi rc++[(2,.cells [.dv (aQ l)]),(3,.cells [.dv (aQ set)])]
structure IuS where
 j:Nat
 x:Lt
theorem Jx(rc:RC)(l set:List Lt)(hl:∀x∈l,aB x=true)(hs:NS set)(hp:∀x∈set,aB x=true)(Dr:l.length<=5000)(gl:set.length<=5000)(dr:GL l set)
 (hY:∀x:Lt,dP Tryz.prog [cx (ax x),.dv (B true)] 2 (kWi rc) 0 fun r k=>r=[.dv (B true)]/\k=kWi rc):
 aj Tryz.prog 269 [.fa 0,.ptr 2 0,.ptr 3 0] 4 (kWt rc l set) 0 [] (kWt rc l set):=by
 refine cO Tryz.func269 rfl (by kernel_rfl) ?_
 have ll:(l.map ax).length=l.length:=adO ..
 have ls:(set.map ax).length=set.length:=adO ..
 refine⟨Nat,fun i=>⟨4,[(0,.fa 0),(1,.ptr 2 0),(2,.ptr 3 0),(9,.dv (aQ l)),(10,.dv (I l.length)),(11,.dv (I i))],kWt rc l set⟩,fun i=>i<=l.length,fun i=>l.length-i,0,fun _=>rfl,jn (by simp only[ll];rfl) rfl rfl rfl,ad3 _,?_⟩
 rintro i hi
 refine adN (fun h=>?_) fun h=>?_
 ·have ay:i<l.length:=by have:=ad5 h;omega
  obtain⟨x,hx⟩:∃x,l[i]?=some x:=⟨_,ace ay⟩
  have ix:(l.map ax)[(i:Int).toNat]?=some (ax x):=by rw[adQ];simp[hx]
  have S0:=hl x (adR hx)
  have rX:=ah.1 S0
  have Qy:=(jG hs (by omega:0<=x.n)).pos
  have abA:=dr x (adR hx)
  have hlb:lB set:=⟨by omega,fun y hy=>by have:=ah.1 (hp y hy);omega⟩
  obtain⟨hk,aV,qw,SU⟩:=Je hs x
  refine⟨ax x,fun _=>⟨by omega,ix⟩,?_⟩
  have hse:=tF set x hs hlb
  rw[<-ls]at hse
  refine .inr (cl [3,4] hse (by kernel_rfl) rfl rfl ?_)
  have hM:kC set x=Ab x (set.drop (Jd set x)):=by unfold kC;rw[aV]
  refine⟨IuS,fun q=>⟨5,[(0,.fa 0),(1,.ptr 2 0),(2,.ptr 3 0),(9,.dv (aQ l)),(10,.dv (I l.length)),(11,.dv (I i)),(5,.ptr 4 0),(6,.dv (I q.j))],kWt rc l set++[(4,.cells (eP (ax q.x).cells))]⟩,fun q=>q.j<=set.length/\q.x.f=x.f/\x.a<=q.x.a/\q.x.a+q.x.n=x.a+x.n/\0<=q.x.n/\∃pre,kC set x=pre++Ab q.x (set.drop q.j),fun q=>set.length-q.j,⟨Jd set x,x⟩,fun _=>rfl,jn rfl rfl rfl rfl,⟨hk,rfl,Int.le_refl _,rfl,by show 0<=x.n;omega,[],hM⟩,?_⟩
  rintro⟨j,y⟩ ⟨hj,hf,ha,hn,MZ,pre,kh⟩
  dsimp only at hj hf ha hn MZ kh⊢
  obtain⟨s,sd⟩:∃s,j<set.length->set[j]?=some s:=by
   by_cases h:j<set.length
   ·exact⟨set[j],fun _=>ace h⟩
   ·exact⟨x,fun h2=>absurd h2 h⟩
  have is:bw (bif decide (0<y.n)then decide ((j:Int)<(((set.map ax).length:Nat):Int))else false) true=true->(0:Int)<=j/\(set.map ax)[(j:Int).toNat]?=some (ax s):=fun hg=>by
   have oU:j<set.length:=by have:=ad5 (dc (gL hg)).2;omega
   refine⟨by omega,?_⟩
   rw[adQ];simp[sd oU]
  repeat refine gG ?_
  refine⟨ax s,fun h=>is h,?_⟩
  repeat refine gG ?_
  refine⟨ax s,fun h=>is (qX (dc (gL h)).1),?_⟩
  repeat refine gG ?_
  refine⟨fun _=>by omega,?_⟩
  repeat refine gG ?_
  refine⟨by kernel_rfl,adN (fun hc=>?_) fun hc=>?_⟩
  ·have c1:=dc hc
   have c2:=dc c1.1
   have c3:=dc c2.1
   have oU:j<set.length:=by have:=ad5 c3.2;omega
   have sd:=sd oU
   have hsb:=ah.1 (hp s (adR sd))
   have hg:Oc y s=true:=by unfold Oc;rw[c3.1,c2.2,c1.2];rfl
   have hdj:set.drop j=s::set.drop (j+1):=by
    rw[List.drop_eq_getElem_cons oU]
    rw[ace oU]at sd
    injection sd with sd
    rw[sd]
   rw[hdj,Dn hg]at kh
   have io:(0:Int)<=j/\(set.map ax)[(j:Int).toNat]?=some (ax s):=⟨by omega,by rw[adQ];simp[sd]⟩
   refine⟨ax s,fun _=>io,fun _=>by omega,?_⟩
   refine⟨by kernel_rfl,?_⟩
   repeat refine gG ?_
   have hO:¬0<dI y s:=fun hO=>by
    rw[if_pos hO]at kh
    have:=abA (⟨y.f,y.a,dI y s⟩,false) (by rw[kh];simp)
    cases this
   have Ws:bw (decide (0<dI y s)) true=false:=by rw[aec hO];rfl
   have h0:0<=dI y s:=by unfold dI;split<;>omega
   rw[if_neg hO,List.nil_append]at kh
   have SY:=Qy (⟨y.f,y.a+dI y s,jk y s⟩,true) (by rw[kh];simp)
   dsimp only at SY
   refine .inr ⟨Ws,.dv (B false),fun h=>h,fun _ h=>qX h,adN (fun h=>absurd (ad5 (dc h).1) hO) fun _=>?_⟩
   refine⟨fun _=>by omega,fun _=>by omega,?_⟩
   refine⟨ax s,fun _=>io,ax s,fun _=>io,fun _=>by omega,fun _=>by omega,?_⟩
   refine⟨by kernel_rfl,?_⟩
   refine .inl (UI [0,1] (hY ⟨y.f,y.a+dI y s,jk y s⟩) (by kernel_rfl) rfl rfl ?_)
   refine adN (fun h=>by cases h) fun _=>?_
   refine⟨fun _=>by omega,fun _=>by omega,fun _=>by omega,⟨j+1,⟨y.f,y.a+dI y s+jk y s,y.n-dI y s-jk y s⟩⟩,jn rfl rfl rfl rfl,⟨oU,hf,by dsimp only;omega,by dsimp only;omega,by dsimp only;omega,pre++[(⟨y.f,y.a+dI y s,jk y s⟩,true)],by rw[kh];simp⟩,by dsimp only;omega⟩
  ·have gZ:Ab y (set.drop j)=if 0<y.n then[(y,false)]else[]:=by
    by_cases Cg:j<set.length
    ·have sd:=sd Cg
     rw[List.drop_eq_getElem_cons Cg]
     rw[ace Cg]at sd
     injection sd with sd
     rw[sd]
     refine Jf ?_
     have h2:=mc hc
     rw[Bool.eq_false_iff]
     intro hg
     simp only[Oc,aep]at hg
     exact h2 ⟨by rw[hg.1,aeb (by omega),hg.2.1];rfl,hg.2.2⟩
    ·rw[List.drop_eq_nil_of_le (by omega)]
     conv=>lhs;unfold Ab
   rw[gZ]at kh
   repeat refine gG ?_
   have hO:¬0<y.n:=fun hO=>by
    rw[if_pos hO]at kh
    have:=abA (y,false) (by rw[kh];simp)
    cases this
   have Ws:bw (decide (0<y.n)) true=false:=by rw[aec hO];rfl
   refine .inr ⟨Ws,.dv (B false),fun h=>h,fun _ h=>qX h,adN (fun h=>absurd (ad5 (dc h).1) hO) fun _=>?_⟩
   exact⟨fun _=>by omega,i+1,jn rfl rfl rfl rfl,ay,mlt ay⟩
 ·exact ext (by kernel_rfl) rfl rfl
theorem DK(l set:List Lt)(hl:∀x∈l,aB x=true)(hs:NS set)(hp:∀x∈set,aB x=true)(Dr:l.length<=5000)(gl:set.length<=5000)(dr:GL l set):aR Tryz.prog 247 [aQ l,aQ set] [B true]:=by
 refine pO Tryz.func247 rfl (by kernel_rfl) rfl ?_
 have hi:=Jx (Ag Tryz.f247) l set hl hs hp Dr gl dr fun x=>Jw x
 refine .inr (cl [] (wa l set) (by kernel_rfl) rfl rfl ?_)
 refine⟨Ag Tryz.f247,by kernel_rfl,?_⟩
 refine⟨[3,0,1,2],[.fa 0,.ptr 2 0,.ptr 3 0],kWt (Ag Tryz.f247) l set,0,_,hi,by kernel_rfl,⟨rfl,rfl,rfl,tv⟩,⟨⟨rfl,rfl,?_⟩,⟨rf,tv⟩,⟨rf,tv⟩,⟨rf,tv⟩,tv⟩,?_⟩
 ·exact kT (by kernel_rfl)
 rintro rs K2 ⟨rfl,rfl⟩
 exact⟨by kernel_rfl,rf,tv⟩
theorem DL(P s:List Lt)(hP:bz P=true)(hs:bz s=true)(dr:GL P (cL s)):aR Tryz.prog 234 [aQ P,aQ s] [B true]:=by
 obtain⟨h1,h2⟩:=dE hs
 obtain⟨h3,h4⟩:=dE hP
 have hn:∀x∈s,1<=x.n:=fun x hx=>(ah.1 (h2 x hx)).2.2.1
 have hso:=fQ hn
 have kZ:kF s=cL s:=by unfold kF;rw[hs];rfl
 have gl:=pS s
 rw[kZ]at gl
 have hw:=DK P (cL s) h4 hso.1 gl.2 (by omega) (by omega) dr
 refine pO Tryz.func234 rfl (by kernel_rfl) rfl ?_
 refine .inl ⟨_,fun _=>(ez P (by omega)).ok,?_⟩
 repeat refine gG ?_
 refine .inl ⟨_,fun _=>(ez s (by omega)).ok,?_⟩
 rw[hs,hP]
 repeat refine gG ?_
 refine Or.inl ?_
 refine⟨_,fun _=>(nh s h2 (by omega)).ok,?_⟩
 repeat refine gG ?_
 refine Or.inl ?_
 refine⟨_,fun _=>hw.ok,?_⟩
 repeat refine gG ?_
 exact⟨rf,tv⟩
end
section
open Go.TM
variable [bj]
theorem QZ(s P:List Lt)(hs:bz s=true)(hP:bz P=true)(cb:s.length*(2*P.length+1)<=90000):aR Tryz.prog 235 [aQ s,aQ P] [aQ (mD s P)]:=by
 obtain⟨h1,h2⟩:=dE hs
 obtain⟨h3,h4⟩:=dE hP
 have hn:∀x∈P,1<=x.n:=fun x hx=>(ah.1 (h4 x hx)).2.2.1
 have hso:=fQ hn
 have kZ:kF P=cL P:=by unfold kF;rw[hP];rfl
 have gl:=pS P
 rw[kZ]at gl
 have hle:s.length*(2*(cL P).length+1)<=90000:=Nat.le_trans (Nat.mul_le_mul_left _ (by omega)) cb
 have NW:=jX s (cL P) h2 hso.1 gl.2 (by omega) (by omega) hle
 have Wz:=T2 (l:=s) (P:=P) (fun x hx=>(ah.1 (h2 x hx)).2.2.1) hn hso.1 hso.2
 refine pO Tryz.func235 rfl (by kernel_rfl) rfl ?_
 refine .inl ⟨_,fun _=>(ez s (by omega)).ok,?_⟩
 repeat refine gG ?_
 refine .inl ⟨_,fun _=>(ez P (by omega)).ok,?_⟩
 rw[hs,hP]
 repeat refine gG ?_
 refine adN (fun h=>by cases h) fun _=>?_
 refine .inl ⟨_,fun _=>(nh P h4 (by omega)).ok,?_⟩
 refine .inl ⟨_,fun _=>NW.ok,?_⟩
 exact⟨DV.Le.of_eq (by rw[Wz]),tv⟩
end
section
open Go.TM
variable [bj]
theorem Q0(P:PL)(c:Ch)(m:c5)(c6:m.ps≠[])(hv:bz (eL P c (m.fr,m.it))=true)(hp:bz m.ps=true)(dr:GL m.ps (cL (eL P c (m.fr,m.it))))(cb:(eL P c (m.fr,m.it)).length*(2*m.ps.length+1)<=90000):
 aj Tryz.prog 215 [.ptr 0 0,cx (aq m)] 14 (dJ 0 0 P c) 0 [.dv (aQ m.ps),.dv (I 0)] (dJ 0 0 P { c with st:=aH c.st (m.fr,m.it) (mD (eL P c (m.fr,m.it)) m.ps) }):=by
 have hw:=(DL m.ps (eL P c (m.fr,m.it)) hp hv dr).ok
 have ho:=(QZ (eL P c (m.fr,m.it)) m.ps hv hp cb).ok
 have hl:=(dE hp).1
 refine cO Tryz.func215 rfl (by kernel_rfl) ?_
 repeat refine gG ?_
 refine .inr (cl [0,1,2,3,4,5,6,7,8,9,10,11,12,13] (iI P c m.fr _) (by kernel_rfl) rfl rfl ?_)
 repeat refine gG ?_
 refine adN (fun h=>?_) fun _=>?_
 ·have h:=beq_iff_eq.1 h
  rw[adO]at h
  exact absurd (List.length_eq_zero_iff.1 (by omega)) c6
 refine .inl ⟨_,fun _=>hw,?_⟩
 refine adN (fun h=>by cases h) fun _=>?_
 refine .inl ⟨_,fun _=>ho,?_⟩
 refine⟨nj,sa (m.fr,m.it),rfl,rfl,?_⟩
 refine⟨aQ (mD (eL P c (m.fr,m.it)) m.ps),⟨rf,tv⟩,rfl,false,fun _=>⟨n9 c.st _,gh _⟩,?_⟩
 rw[show cW (oZ c.st) (sa (m.fr,m.it)) (aQ (mD (eL P c (m.fr,m.it)) m.ps))=oZ (aH c.st (m.fr,m.it) (mD (eL P c (m.fr,m.it)) m.ps))from cP ja c.st _ _]
 refine adN (by kernel_rfl) ?_
 refine .inr (cl [] (eK m.ps (by omega)) (by kernel_rfl) rfl rfl ?_)
 exact⟨_,_,⟨rfl,rfl⟩,by kernel_rfl,⟨n0 _,rf,tv⟩,aZ (k:=dJ 0 0 P { c with st:=aH c.st (m.fr,m.it) (mD (eL P c (m.fr,m.it)) m.ps) }) rfl⟩
end
section
open Go.TM Go.RowKit
variable [bj]
theorem Jy(l:List Lt)(hl:l≠[]):aR Tryz.prog 238 [aQ l] [.HS 3 (l.map ax)]:=by
 refine⟨GB,fun w M vs dr hg hr=>?_⟩
 match vs,hr with
 |[v],hr=>
  have hv:bu M (.sl 3 (l.map ax)) v:=hr.2 0 _ v rfl rfl
  have c6:l.map ax≠[]:=fun h=>hl (List.map_eq_nil_iff.1 h)
  generalize l.map ax=k at hv c6
  cases hv with
  |slnil=>exact absurd rfl c6
  |sl sz ls a cap cell eU hlen hc Tx=>
   refine(zt a _ cap eU w).mono ?_
   rintro e w' ⟨rfl,rfl⟩
   exact⟨_,M,rfl,Below.refl _ _,Mem.Le.refl _,dr,fun _ _=>rfl,.HS _ _ a cell hlen hc Tx⟩
end
section
open Go.TM
def S7(P:PL)(c:Ch)(x:Lt):Int:=if(kD [x] ((sD c.ret P.ret x.f).getD [])).1=[]then 0 else 10
def Q1(P:PL)(c:Ch)(x:Lt):Ch:=if(kD [x] ((sD c.ret P.ret x.f).getD [])).1=[]then { c with ret:=aH c.ret x.f (cL ((sD c.ret P.ret x.f).getD []++[x])) }else c
theorem Yt(x:Lt):(ax x).aW:=fun d hd=>by
 have hd:d∈[I x.f,I x.a,I x.n]:=hd
 simp only[adV,List.mem_nil_iff,or_false]at hd
 rcases hd with rfl|rfl|rfl<;>rfl
variable [bj]
theorem Ng(P:PL)(c:Ch)(m:c5)(x:Lt)(f:bp)(hp:m.ps=[x])(hx:aB x=true)(ZR:x.f<=9223372036854775807)(hs:0<=P.sh/\P.sh<=12)(mi:0<=x.f-P.sh*4294967296)(hf:P.fl[(x.f-P.sh*4294967296).toNat]?=some f)(b8:f.to=0/\f.kind≠6/\f.it=m.it/\x.a+x.n<=f.n)
 (hq:∀l,sD c.ret P.ret x.f=some l->l≠[]/\NS l/\(∀y∈l,aB y=true)/\l.length<=4000):
 aj Tryz.prog 217 [.ptr 0 0,cx (aq m)] 14 (dJ 0 0 P c) 0 [.dv (I (S7 P c x))] (dJ 0 0 P (Q1 P c x)):=by
 have lp:(m.ps.map ax).length=1:=by rw[hp];rfl
 have ix:(m.ps.map ax)[(0:Int).toNat]?=some (ax x):=by rw[hp];rfl
 have lf:(P.fl.map ar).length=P.fl.length:=adO ..
 have hb:=ah.1 hx
 have km:=(adP.1 hf).1
 have hfi:(P.fl.map ar)[(x.f-P.sh*4294967296).toNat]?=some (ar f):=by rw[adQ,hf];rfl
 refine cO Tryz.func217 rfl (by kernel_rfl) ?_
 repeat refine gG ?_
 refine⟨Nat,fun i=>⟨15,[(0,.ptr 0 0),(3,.ptr 14 0),(13,.dv (.sl 3 (m.ps.map ax))),(14,.dv (I (m.ps.map ax).length)),(15,.dv (I i))],dJ 0 0 P (match i with|0=>c|_=>Q1 P c x)++[(14,.cells (eP (aq m).cells))]⟩,fun i=>i<=1/\(i=1->S7 P c x=0),fun i=>1-i,0,fun _=>rfl,jn rfl rfl rfl rfl,by omega,?_⟩
 rintro i ⟨hi,hz⟩
 refine adN ?_ ?_
 ·intro h
  have h0:i=0:=by have:=ad5 h;omega
  subst h0
  refine⟨ax x,fun _=>⟨by omega,ix⟩,?_⟩
  repeat first|refine gG ?_|refine⟨fun _=>by omega,?_⟩
  refine adN (by kernel_rfl) ?_
  repeat refine gG ?_
  refine adN (fun h=>?_) fun _=>?_
  ·rw[lf]at h;simp at h;omega
  refine⟨fun _=>⟨mi,by rw[lf];omega⟩,ar f,fun _=>hfi,?_⟩
  repeat first|refine gG ?_|refine⟨fun _=>by omega,?_⟩
  refine adN (fun h=>?_) fun _=>?_
  ·simp[b8.1,b8.2.1,b8.2.2.1]at h;omega
  refine .inr (cl [4,13] (zr c.ret P.ret x.f) (by kernel_rfl) rfl rfl ?_)
  cases hu:sD c.ret P.ret x.f with
  |some l=>
   refine adN (by kernel_rfl) ?_
   refine .inl ⟨[ax x],rfl,⟨rf,rf,rf,tv⟩,(by simp;rfl),?_⟩
   obtain⟨q0,q1,q2,q3⟩:=hq l hu
   have lS:l.length+1<=4001:=by omega
   refine .inl ⟨_,fun _=>(jX [x] l (by simpa using hx) q1 q2 (by simp) (by omega) (by simp;omega)).ok,?_⟩
   repeat refine gG ?_
   refine adN (fun h=>?_) fun h=>?_
   ·have he:¬(kD [x] ((sD c.ret P.ret x.f).getD [])).1=[]:=by
     rw[hu,Option.getD_some];intro e;rw[e]at h;cases h
    rw[show S7 P c x=10 from if_neg he,show Q1 P c x=c from if_neg he]
    exact ext (by kernel_rfl) rfl rfl
   have he:(kD [x] ((sD c.ret P.ret x.f).getD [])).1=[]:=by
    rw[hu,Option.getD_some]
    have h:¬(0:Int)<((kD [x] l).1.map ax).length:=ad6 h
    rw[adO]at h
    exact List.length_eq_zero_iff.1 (by omega)
   have e1:S7 P c x=0:=if_pos he
   have e2:Q1 P c x={ c with ret:=aH c.ret x.f (cL (l++[x])) }:=by unfold Q1;rw[if_pos he,hu];rfl
   rw[e1,e2]
   refine .inl ⟨_,fun _=>(Jy l q0).ok,?_⟩
   refine .inl ⟨[ax x],rfl,⟨rf,rf,rf,tv⟩,(by simp;rfl),?_⟩
   refine .inl ⟨[ax x],bV.refl _,(fun y hy d hd=>by rw[adU]at hy;subst hy;exact Yt x d hd),by simp,bL (n:=(l.map ax).length+[ax x].length) (by simp;omega),by simp;omega,?_⟩
   refine .inl (.inr ⟨_,fun _=>⟨[aQ (l++[x])],⟨(by have:=n0 (l++[x]);rw[ad7]at this;exact this),tv⟩,nh (l++[x]) (fun y hy=>by
    rcases adX.1 hy with hy|hy
    ·exact q2 y hy
    ·rw[adU]at hy;subst hy;exact hx) (by simp;omega)⟩,?_⟩)
   refine⟨gf,eI x.f,rfl,rfl,aQ (cL (l++[x])),⟨rf,tv⟩,rfl,false,fun _=>⟨DC c.ret _,gh _⟩,?_⟩
   rw[show cW (ni c.ret) (eI x.f) (aQ (cL (l++[x])))=ni (aH c.ret x.f (cL (l++[x])))from cP eT c.ret _ _]
   refine adN (by kernel_rfl) ?_
   exact⟨fun _=>by omega,1,jn rfl rfl rfl rfl,⟨by omega,fun _=>rfl⟩,mlt (by omega)⟩
  |none=>
   have he:(kD [x] ((sD c.ret P.ret x.f).getD [])).1=[]:=by rw[hu];exact DD x
   have e1:S7 P c x=0:=if_pos he
   have e2:Q1 P c x={ c with ret:=aH c.ret x.f (cL [x]) }:=by unfold Q1;rw[if_pos he,hu];rfl
   refine adN (by kernel_rfl) ?_
   refine .inl ⟨[ax x],rfl,⟨rf,rf,rf,tv⟩,(by simp;rfl),?_⟩
   have hd:=jX [x] [] (by simpa using hx) NS.nil (by simp) (by simp) (by simp) (by simp)
   rw[DD]at hd
   refine .inl ⟨_,fun _=>⟨[aQ [x],aQ []],⟨rf,DV.aL 3,tv⟩,hd⟩,?_⟩
   repeat refine gG ?_
   refine adN (fun h=>(by cases h)) fun _=>?_
   rw[e1,e2]
   refine .inl ⟨_,fun _=>zu.ok,?_⟩
   refine .inl ⟨[ax x],rfl,⟨rf,rf,rf,tv⟩,(by simp;rfl),?_⟩
   refine .inr ⟨[ax x],bV.refl _,Nat.le_of_ble_eq_true rfl,Nat.le_of_ble_eq_true rfl,?_⟩
   refine .inl (.inr ⟨_,fun _=>⟨[aQ [x]],⟨rf,tv⟩,nh [x] (by simpa using hx) (by simp)⟩,?_⟩)
   refine⟨gf,eI x.f,rfl,rfl,aQ (cL [x]),⟨rf,tv⟩,rfl,false,fun _=>⟨DC c.ret _,gh _⟩,?_⟩
   rw[show cW (ni c.ret) (eI x.f) (aQ (cL [x]))=ni (aH c.ret x.f (cL [x]))from cP eT c.ret _ _]
   refine adN (by kernel_rfl) ?_
   exact⟨fun _=>by omega,1,jn rfl rfl rfl rfl,⟨by omega,fun _=>rfl⟩,mlt (by omega)⟩
 ·intro h
  have h1:i=1:=by have:=ad6 h;omega
  subst h1
  rw[hz rfl]
  exact ext (by kernel_rfl) rfl rfl
theorem GM(P:PL)(c:Ch)(m:c5)(x:Lt)(f:bp)(eC:m.fr=0)(h9:c.sp.kind=9)(hp:m.ps=[x])(hx:aB x=true)(ZR:x.f<=9223372036854775807)(hs:0<=P.sh/\P.sh<=12)(mi:0<=x.f-P.sh*4294967296)(hf:P.fl[(x.f-P.sh*4294967296).toNat]?=some f)(b8:f.to=0/\f.kind≠6/\f.it=m.it/\x.a+x.n<=f.n)
 (hq:∀l,sD c.ret P.ret x.f=some l->l≠[]/\NS l/\(∀y∈l,aB y=true)/\l.length<=4000):
 aj Tryz.prog 145 [.ptr 0 0,cx (aq m)] 14 (dJ 0 0 P c) 0 [.dv (aQ [x]),.dv (I (S7 P c x))] (dJ 0 0 P (Q1 P c x)):=by
 refine cO Tryz.func145 rfl (by kernel_rfl) ?_
 repeat refine gG ?_
 refine adN (fun h=>absurd eC (by simpa using h)) fun _=>?_
 refine adN (fun h=>absurd (h9.symm.trans (beq_iff_eq.1 h)) (by decide)) fun _=>?_
 refine adN (fun _=>?_) fun h=>absurd h9 (beq_eq_false_iff_ne.1 h)
 refine .inr (cl [] (eK m.ps (by rw[hp];simp)) (by kernel_rfl) rfl rfl ?_)
 refine .inr (cl [0,1,2,3,4,5,6,7,8,9,10,11,12,13] (Ng P c m x f hp hx ZR hs mi hf b8 hq) (by kernel_rfl) rfl rfl ?_)
 refine adN (by kernel_rfl) ?_
 rw[hp]
 exact⟨_,_,⟨rfl,rfl⟩,by kernel_rfl,⟨n0 _,rf,tv⟩,aZ (k:=dJ 0 0 P (Q1 P c x)) rfl⟩
end
section
open Go.TM
structure GN(R:RL)(s:cG)(m:c5)(x:Lt):Prop where
 base:di m=true
 kind:s.kind=7
 fr:0<m.fr
 ps:m.ps=[x]
 pos:aB x=true
 n:x.n=m.n
 Lr:∃y∈bC R.st (m.fr,m.it),y.f=x.f/\y.a<=x.a/\x.a+x.n<=y.a+y.n
structure AL(R:RL)(s:cG)(m:c5)(x:Lt)(f:bp):Prop where
 base:di m=true
 kind:s.kind=9
 fr:m.fr=0
 ps:m.ps=[x]
 pos:aB x=true
 mem:f∈R.fl
 id:f.id=x.f
 ok:f.to=0/\f.kind≠6/\f.it=m.it/\x.a+x.n<=f.n
theorem DM{R:RL}{s:cG}{m:c5}{x:Lt}(hG:Good R)(hD:Dx R)(hl:R.fl.length+1<=160)(h:GN R s m x):
 aX R s m=(0,AG R s m ([x],mD (bC R.st (m.fr,m.it)) [x]))/\(Good (AG R s m ([x],mD (bC R.st (m.fr,m.it)) [x]))/\(AG R s m ([x],mD (bC R.st (m.fr,m.it)) [x])).fl.length=R.fl.length+1/\∀j,bN (AG R s m ([x],mD (bC R.st (m.fr,m.it)) [x])).st j=if m.it=j then bN R.st j+(if m.fr=0 then m.n else 0)-(if m.to=0 then m.n else 0)else bN R.st j)/\Dx (AG R s m ([x],mD (bC R.st (m.fr,m.it)) [x])):=by
 obtain⟨y,hy,hi⟩:=h.Lr
 have rX:=ah.1 h.pos
 have hS:=hG.oK (m.fr,m.it)
 have ZD:∀z∈bC R.st (m.fr,m.it),1<=z.n:=fun z hz=>(ah.1 (hS.1 z hz)).2.2.1
 have hP1:∀z∈[x],1<=z.n:=fun z hz=>by rw[adU]at hz;subst hz;exact rX.2.2.1
 obtain⟨d1,d2⟩:=hD.oK (m.fr,m.it)
 obtain⟨w1,w2⟩:=abm d1 ZD hy rX.2.2.1 hi
 have wp:∀z∈mD (bC R.st (m.fr,m.it)) [x],aB z=true:=by
  have:=(u4 (s:=bC R.st (m.fr,m.it)) (P:=[x]) hS.1 (fun z hz=>by rw[adU]at hz;subst hz;exact h.pos) (bC R.st (m.fr,m.it)).length).1
  rw[Dh]at this;exact this
 have hn:m.n<=aJ (bC R.st (m.fr,m.it)):=by
  have:=(CY (l:=mD (bC R.st (m.fr,m.it)) [x]) fun z hz=>gQ (wp z hz)).1
  rw[w1]at this;have:=h.n;omega
 refine⟨(UE hG h.base h.fr h.ps h.pos hy hi).2,Wk hG hl h.base h.fr (by rw[h.kind];decide) _ hn (by simp) wp (by have:=hS.2;simp only;omega) (by rw[w1,h.n]),Qo hD hG h.base h.fr _ (abl d1 ZD hP1) fun z hz=>?_⟩
 have hz1:=ah.1 (wp z hz)
 obtain⟨q,hq,hu⟩:=((yz ZD hP1).2 z.f z.a).1 ⟨z,hz,rfl,Int.le_refl _,by omega⟩ |>.1
 have:=d2 q hq
 rw[<-hu.1];exact this
theorem DN{R:RL}{s:cG}{m:c5}{x:Lt}{f:bp}(hG:Good R)(hD:Dx R)(hl:R.fl.length+1<=160)(h:AL R s m x f)(h0:(aX R s m).1=0):
 aX R s m=(0,wL R s m [x] [])/\¬1099511627776<bN R.st m.it+m.n/\(kD [x] ((kg R.fl x.f).getD [])).1=[]/\(Good (wL R s m [x] [])/\(wL R s m [x] []).fl.length=R.fl.length+1/\∀j,bN (wL R s m [x] []).st j=if m.it=j then bN R.st j+(if m.fr=0 then m.n else 0)-(if m.to=0 then m.n else 0)else bN R.st j)/\Dx (wL R s m [x] []):=by
 have hb:=ad5 h.base
 have kn:0<m.to:=by have:=h.fr;omega
 have oF:=hG.sh
 have Xs:=Lh hD h.ps h.pos (by omega) h.mem h.id h.ok
 rw[qH R s m h.fr kn]at h0⊢
 have he:Db R s.kind m=tx R.fl m.it m.ps:=by unfold Db;rw[h.kind];rfl
 unfold wR at h0⊢
 rw[he,Xs]at h0⊢
 by_cases c1:(kD [x] ((kg R.fl x.f).getD [])).1=[]
 ·rw[if_pos c1]at h0⊢
  by_cases c2:1099511627776<bN R.st m.it+m.n
  ·rw[if_neg (by simp),if_pos c2]at h0;cases h0
  rw[if_neg (by simp),if_neg c2]
  rw[if_pos (.inr h.kind),h.ps,show tz s.kind=false by rw[h.kind];rfl,cond_false]
  refine⟨rfl,c2,c1,X3 hG hl h.base h.fr [x] [] c2 (by simp) (by simp) (fun k=>by rw[h.kind]at k;cases k),Wl hD hG h.base kn [x] [] fun _ _=>⟨x,h.pos,rfl,?_⟩⟩
  have:=(hG.F8 f h.mem).2.2.2.1
  rw[h.id]at this;exact this
 ·rw[if_neg c1,if_pos (by simp)]at h0;cases h0
theorem U5{R:RL}{s:cG}{m:c5}(hG:Good R)(hD:Dx R)(hm:AF R.sh s m)(h0:(aX R s m).1=0):Dx (aX R s m).2:=by
 have hb:=ad5 hm.base
 have hS:=hG.oK (m.fr,m.it)
 have km:=hG.fl
 have oF:=hG.sh
 by_cases eC:0<m.fr
 ·have hp:m.ps=[]:=by
   rcases hm.ps with h|h
   ·omega
   ·exact h.2.2
  have c6:bC (aH R.st (m.fr,m.it) (eV (bC R.st (m.fr,m.it)) m.n (wM m.it)).2) (m.to,m.it)=bC R.st (m.to,m.it):=by
   rw[fB,if_neg];intro h;injection h with h1;omega
  rw[xj R s m eC hp]at h0⊢
  by_cases hc:cu (bC R.st (m.fr,m.it))<m.n
  ·rw[if_pos hc]at h0;cases h0
  rw[if_neg hc]
  have hn:m.n<=aJ (bC R.st (m.fr,m.it)):=by rw[pU (fj hS.1 (by omega))]at hc;omega
  obtain⟨d1,d2⟩:=hD.oK (m.fr,m.it)
  obtain⟨t1,t2⟩:=Uz (wM m.it) d1 (by omega:0<=m.n) hS.1 hn
  have tp:=(Da (wM m.it) (by omega:0<=m.n) hS.1 hn).2.1
  simp only[c6]
  refine Qo hD hG hm.base eC _ t1 fun z hz=>?_
  have hz1:=ah.1 (tp z hz)
  obtain⟨q,hq,hu⟩:=t2 z.f z.a ⟨z,hz,rfl,Int.le_refl _,by omega⟩
  have:=d2 q hq
  rw[<-hu.1];exact this
 ·have mi:m.fr=0:=by omega
  rw[qH R s m mi (by omega)]at h0⊢
  unfold wR at h0⊢
  by_cases he:Db R s.kind m≠0
  ·rw[if_pos he]at h0;exact absurd h0 he
  rw[if_neg he]at h0⊢
  by_cases hc:1099511627776<bN R.st m.it+m.n
  ·rw[if_pos hc]at h0;cases h0
  rw[if_neg hc]
  refine Wl hD hG hm.base (by omega) _ _ fun k9 _=>?_
  rcases hm.ps with⟨h5,_⟩|⟨_,h9,_⟩
  ·rw[k9]at h5;cases h5
  ·exact absurd k9 h9
theorem Ls{α β:Type}{g:α->List β}:∀{l:List α},(∀x∈l,(g x).length<=1)->(l.flatMap g).length<=l.length
 |[],_=>aei _
 |a::l,h=>by
  have h1:=h a ad0
  have h2:=Ls (g:=g) fun x hx=>h x (adW _ hx)
  rw[List.flatMap_cons,ad1,List.length_cons];omega
theorem Yu{R:RL}(h:Dx R)(g:Int):(Ey R.fl g).length<=R.fl.length:=by
 unfold Ey
 refine Nat.le_trans (List.length_filter_le _ _) (Nat.le_trans (Ls fun f hf=>?_) (List.length_filter_le _ _))
 rw[List.mem_filter,aep,beq_iff_eq,beq_iff_eq]at hf
 obtain⟨x,_,h2,_⟩:=h.rv f hf.1 hf.2.1 hf.2.2
 rw[h2];exact aei _
theorem Yv{R:RL}(hD:Dx R)(km:R.fl.length<=160){g:Int}{l:List Lt}(h:kg R.fl g=some l):l≠[]/\NS l/\(∀y∈l,aB y=true)/\l.length<=4000:=by
 unfold kg at h
 split at h
 ·cases h
 ·rename_i c6
  injection h with h
  subst h
  have hp:=Di hD (g:=g)
  have h1:=qD hp
  have h2:=Yu hD g
  have so:=fQ fun z hz=>(ah.1 (hp z hz)).2.2.1
  refine⟨fun e=>?_,so.1,h1.1,by omega⟩
  obtain⟨z,hz⟩:=List.exists_mem_of_ne_nil _ c6
  have:=(so.2 z.f z.a).2 ⟨z,hz,rfl,Int.le_refl _,by have:=ah.1 (hp z hz);omega⟩
  rw[e]at this;exact bY this
def vk(R:RL)(s:cG):Prop:=(∀m∈s.mv,AF R.sh s m)\/∃m x,s.mv=[m]/\(GN R s m x\/∃f,AL R s m x f)
theorem Lu{R:RL}{s:cG}{m:c5}{x:Lt}(hG:Good R)(hD:Dx R)(hl:R.fl.length+1<=160)(hm:GN R s m x\/∃f,AL R s m x f)(h0:(aX R s m).1=0):
 (Good (aX R s m).2/\(aX R s m).2.fl.length=R.fl.length+1/\∀j,bN (aX R s m).2.st j=if m.it=j then bN R.st j+(if m.fr=0 then m.n else 0)-(if m.to=0 then m.n else 0)else bN R.st j)/\Dx (aX R s m).2:=by
 rcases hm with hm|⟨f,hm⟩
 ·obtain⟨e,h1,h2⟩:=DM hG hD hl hm
  rw[e];exact⟨h1,h2⟩
 ·obtain⟨e,_,_,h1,h2⟩:=DN hG hD hl hm h0
  rw[e];exact⟨h1,h2⟩
variable [bj]
theorem Yw{P:PL}{s:cG}{c:Ch}{R:RL}{m:c5}{x:Lt}(hs:ki P s c R)(hG:Good R)(hD:Dx R)(hl:R.fl.length+1<=160)(h:GN R s m x):
 ∃c',aj Tryz.prog 99 [.ptr 0 0,cx (aq m)] 14 (dJ 0 0 P c) 0 [.dv (I (aX R s m).1)] (dJ 1 1 P c')/\((aX R s m).1=0->ki P s c' (aX R s m).2):=by
 obtain⟨e,⟨_,_,hq⟩,_⟩:=DM hG hD hl h
 obtain⟨y,hy,hi⟩:=h.Lr
 have hS:=hG.oK (m.fr,m.it)
 have km:=hG.fl
 have hv:=fj hS.1 (by omega)
 have est:=hs.st (m.fr,m.it)
 have jE:=(ah.1 h.pos).2.2.1
 have dr:GL m.ps (cL (eL P c (m.fr,m.it))):=by
  rw[est,h.ps]
  have so:=fQ (Dg hv)
  have:=(T4 (a:=[x]) (fun z hz=>by rw[adU]at hz;subst hz;exact jE) so.1).2 fun f u hu=>(so.2 f u).2 ⟨y,hy,by have hu:=cM.1 hu;unfold eG at hu⊢;omega⟩
  intro z hz p hp
  exact this p (List.mem_flatMap.2 ⟨z,hz,hp⟩)
 have hw:=sq P c _ m _ 0 (by have:=h.fr;omega) (Q0 P c m (by rw[h.ps];simp) (by rw[est];exact hv) (by rw[h.ps];exact val_one h.pos) dr (by
  rw[est,h.ps]
  have:=hS.2
  have h3:(bC R.st (m.fr,m.it)).length*(2*[x].length+1)<=160*3:=Nat.mul_le_mul (by omega) (by simp)
  omega))
 rw[est,h.ps]at hw
 obtain⟨c',h1,h2⟩:=QX hs hG hl h.base h.fr (by rw[h.kind];decide) ([x],mD (bC R.st (m.fr,m.it)) [x]) hq hw
 rw[e]
 exact⟨c',h1,fun _=>h2⟩
theorem Yx{P:PL}{s:cG}{c:Ch}{R:RL}{m:c5}{x:Lt}{f:bp}(hs:ki P s c R)(hc:c.fl=[])(hG:Good R)(hD:Dx R)(hl:R.fl.length+1<=160)(h:AL R s m x f)(ZR:x.f<=9223372036854775807):
 ∃c',aj Tryz.prog 99 [.ptr 0 0,cx (aq m)] 14 (dJ 0 0 P c) 0 [.dv (I (aX R s m).1)] (dJ 1 1 P c')/\((aX R s m).1=0->ki P s c' (aX R s m).2):=by
 have hb:=ad5 h.base
 have kn:0<m.to:=by have:=h.fr;omega
 obtain⟨oF,hlen,Jv⟩:=hs.bd hG m.it
 have hv:dS P c m=bN R.st m.it:=hs.bZ m.it
 have S6:0<=dS P c m/\dS P c m<=1099511627776:=by rw[hv];exact Jv
 have Gl:R.fl=P.fl:=by rw[hs.fl,hc,List.append_nil]
 have hu:=hs.ret x.f
 obtain⟨i,hi⟩:=aea h.mem
 have kl:=hD.ids i f hi
 rw[h.id]at kl
 have hP:P.fl[(x.f-P.sh*4294967296).toNat]?=some f:=by
  rw[<-hs.sh,kl,show(R.sh*4294967296+(i:Int)-R.sh*4294967296).toNat=i by omega,<-Gl];exact hi
 have ht:=GM P c m x f h.fr (by rw[hs.U3];exact h.kind) h.ps h.pos ZR oF (by rw[<-hs.sh,kl];omega) hP h.ok (fun l hl=>by rw[hu]at hl;exact Yv hD (by omega) hl)
 have Xs:=Lh hD h.ps h.pos hG.sh.1 h.mem h.id h.ok
 have he:Db R s.kind m=S7 P c x:=by
  unfold Db S7;rw[h.kind,hu];exact Xs
 rw[qH R s m h.fr kn]
 unfold wR
 by_cases c1:(kD [x] ((sD c.ret P.ret x.f).getD [])).1=[]
 ·have e0:S7 P c x=0:=if_pos c1
  rw[show Q1 P c x={ c with ret:=aH c.ret x.f (cL ((sD c.ret P.ret x.f).getD []++[x])) }from if_pos c1,e0]at ht
  rw[if_neg (by rw[he,e0];simp)]
  by_cases c2:1099511627776<bN R.st m.it+m.n
  ·rw[if_pos c2]
   exact⟨_,jb (GJ P c { c with ret:=aH c.ret x.f (cL ((sD c.ret P.ret x.f).getD []++[x])) } m [x] ⟨hb.2.2.1,hb.2.2.2.1⟩ S6 oF hlen h.fr (by omega) (by show _<dS P c m+m.n;rw[hv];exact c2) ht),fun h=>absurd h (show¬(4:Int)=0 by decide)⟩
  rw[if_neg c2,if_pos (.inr h.kind),h.ps]
  have hmd:(bif tz s.kind then qZ R.fl (R.sh*4294967296+R.sp.length)else[])=[]:=by rw[show tz s.kind=false by rw[h.kind];rfl];rfl
  have hw:=(X3 hG hl h.base h.fr [x] (bif tz s.kind then qZ R.fl (R.sh*4294967296+R.sp.length)else[]) c2 (by simp) (by rw[hmd];simp) (fun k=>by rw[h.kind]at k;cases k)).2.2
  obtain⟨c',h1,h2⟩:=Wy hs hG hl h.base h.fr c2 c.imp (aH c.ret x.f (cL ((sD c.ret P.ret x.f).getD []++[x]))) [x] ⟨hs.nk.2.2.1,hs.nk.2.2.2.put _ _⟩ hw
   (fun md g=>by rw[DJ (f:=dX R s m [x] md) (show s.kind≠5 by rw[h.kind];decide)];exact hs.imp g)
   (fun md g=>by
    rw[Qq (f:=dX R s m [x] md) hD h.kind h.fr rfl h.pos,<-hu]
    have hg:=hs.ret g
    unfold sD at hg⊢
    rw[iY]
    by_cases e:x.f=g
    ·rw[if_pos e,if_pos e];rfl
    ·rw[if_neg e,if_neg e];exact hg) ht
  exact⟨c',h1,fun _=>h2⟩
 ·have e0:S7 P c x=10:=if_neg c1
  rw[show Q1 P c x=c from if_neg c1,e0]at ht
  rw[if_pos (by rw[he,e0];decide),he,e0]
  exact⟨_,jb (zv P c c m [x] 10 (by decide) ht),fun h=>absurd h (show¬(10:Int)=0 by decide)⟩
end
section
open Go.TM
def pfF(s:cG)(a:Int×RL)(m:c5):Int×RL:=if a.1=0 then aX a.2 s m else a
def eX(R:RL)(s:cG)(i:Nat):Int×RL:=(s.mv.take i).foldl (pfF s) (0,R)
theorem jY{R:RL}{s:cG}{i:Nat}{m:c5}(h:s.mv[i]?=some m)(h0:(eX R s i).1=0):eX R s (i+1)=aX (eX R s i).2 s m:=by
 unfold eX at*
 rw[adY,h,aee]
 exact if_pos h0
theorem qI{R:RL}{s:cG}{i:Nat}(h0:(eX R s i).1≠0):∀j,eX R s (i+j)=eX R s i
 |0=>rfl
 |j+1=>by
  have ih:=qI h0 j
  unfold eX at*
  rw[show i+(j+1)=i+j+1 by omega,adY,aee,ih]
  cases s.mv[i+j]? with
  |none=>rfl
  |some m=>exact if_neg h0
theorem qJ(R:RL)(s:cG)(m:c5):(aX R s m).2.sp=R.sp/\(aX R s m).2.sh=R.sh:=by
 unfold aX;split;exact⟨rfl,rfl⟩;split<;>exact⟨rfl,rfl⟩
theorem pZ(R:RL)(s:cG):∀i,(eX R s i).2.sp=R.sp/\(eX R s i).2.sh=R.sh
 |0=>⟨rfl,rfl⟩
 |i+1=>by
  have ih:=pZ R s i
  unfold eX at*
  rw[adY,aee]
  cases s.mv[i]? with
  |none=>exact ih
  |some m=>
   show(pfF s _ m).2.sp=_/\(pfF s _ m).2.sh=_
   unfold pfF
   split
   ·rw[(qJ _ s m).1,(qJ _ s m).2];exact ih
   ·exact ih
theorem Q2{n:Int}{s:cG}(h:iz n s=true):1<=s.mv.length:=by
 simp only[iz,aep,decide_eq_true_eq]at h
 exact h.1.1.2.2.2.1
def kj(R:RL)(s:cG):cG:={ s with id:=R.sh*4294967296+R.sp.length }
def ZS(R R1:RL):ad:=[(0,.cells (.dv (I R1.sh)::eP iG++[.own 6 0 0 [],.own 7 0 0 [],.own 3 0 0 []])),(1,.tree 1 0 (.aD 3 (R1.st.map iK))),(2,.tree 1 0 (.aD 11 (R1.fl.map ar))),(3,.tree 0 0 (.aD 7 (R1.sp.map aP))),(6,.tree 0 0 (.aD 3 (R.st.map iK))),(7,.tree 0 0 (.aD 11 (R.fl.map ar)))]
variable [bj]
theorem cOR{f:Nat}{fn:Func}{c:Code}{args:List AV}{m ex:Nat}{K:ad}{Q:List AV->ad->Prop}(hf:Tryz.prog.funcs[f]?=some fn)(hb:fn.body=some c)
 (ha:((!(fn.name== "runtime.NumGoroutine"))&&(Nat.ble args.length fn.ntmps&&cJ.wf ⟨m,dh 0 args,K⟩))=true) (h:fG Tryz.prog na .fn fn.ntmps m c (pn na fn m ex Q) m (dh 0 args) K):bU Tryz.prog f args m K ex Q:=by
 rw[aep,aer]at ha
 exact mS fO mixed (eu _) (fh _) hf hb ha.1 ha.2 h
theorem GO(R:RL)(s:cG)(hn:R.sp.length<=900000)(hr:vP s.aM)(hl:s.mv.length<=1000)(kz:∀m∈s.mv,m.ps.length<=4000)(hc:65536<=R.sp.length\/iz (eW R.sp) s=false):aj Tryz.prog 34 [.ptr 0 0,cx (aP s)] 4 (dq R) 0 [.dv (I 0),.dv (I (if 65536<=R.sp.length then 4 else 1))] (dq R):=by
 refine cO Tryz.func34 rfl (by kernel_rfl) ?_
 have lp:(R.sp.map aP).length=R.sp.length:=adO ..
 refine adN (fun h=>?_) fun h=>?_
 ·have h:65536<=R.sp.length:=by have:=ad5 h;omega
  rw[if_pos h]
  exact ext (by kernel_rfl) rfl rfl
 ·have h:¬65536<=R.sp.length:=by have:=ad6 h;omega
  rw[if_neg h]
  refine .inr (cl [0,1,2,3] (yZ R s hr (by omega) hl kz) (by kernel_rfl) rfl rfl ?_)
  rw[hc.resolve_left h]
  refine adN (fun _=>?_) fun h=>by cases h
  exact ext (by kernel_rfl) rfl rfl
theorem Q3(R:RL)(s:cG)(hr:vP s.aM)(hl:s.mv.length<=1000)(kz:∀m∈s.mv,m.ps.length<=20)(hn:R.sp.length<65536)(hp:iz (eW R.sp) s=true)(hG:∀i,RG (eX R s i).2)(hB:∀m∈s.mv,di m=true)(hb:s.kind=5->∀m∈s.mv,∀x∈m.ps,0<=x.f/\x.f<=9223372036854775807):bU Tryz.prog 34 [.ptr 0 0,cx (aP s)] 4 (dq R) 5 fun rs k=>
 ((eX R s s.mv.length).1=0/\rs=[.dv (I (R.sh*4294967296+R.sp.length)),.dv (I 0)]/\k=jC 1 1 1 { (eX R s s.mv.length).2 with sp:=R.sp++[kj R s] })\/
 ((eX R s s.mv.length).1≠0/\rs=[.dv (I 0),.dv (I (eX R s s.mv.length).1)]/\∃R1:RL,k=ZS R R1/\R1.sh=R.sh/\R1.sp=R.sp):=by
 refine cOR Tryz.func34 rfl (by kernel_rfl) ?_
 have lp:(R.sp.map aP).length=R.sp.length:=adO ..
 have lm:(s.mv.map aq).length=s.mv.length:=adO ..
 have hR:=hG 0
 have ak:=hR.st
 have km:=hR.fl
 have oF:=hR.sh
 have ak:R.st.length<=900:=ak
 have km:R.fl.length<=900000:=km
 have oF:0<=R.sh/\R.sh<=1000:=oF
 refine adN (fun h=>?_) fun h=>?_
 ·have:=ad5 h;omega
 refine .inr (cl [0,1,2,3] (yZ R s hr (by omega) hl fun m hm=>by have:=kz m hm;omega) (by kernel_rfl) rfl rfl ?_)
 rw[hp]
 refine adN (fun h=>by cases h) fun _=>?_
 refine .inr (cl [0,1,2,3] (I2 R (by omega) (by omega) (by omega)) (by kernel_rfl) rfl rfl ?_)
 refine⟨Bool×Nat,fun x=>⟨9,[(0,.ptr 0 0),(3,.ptr 4 0),(7,.ptr 5 0),(8,.dv (I x.2))],jC (bif x.1 then 1 else 0) (bif x.1 then 1 else 0) 0 (eX R s x.2).2++[(4,.cells (eP (aP s).cells)),(5,.cells (.dv (I R.sh)::eP iG++[.own 6 0 0 [],.own 7 0 0 [],.own 8 0 0 []])),(6,.tree 0 0 (.aD 3 (R.st.map iK))),(7,.tree 0 0 (.aD 11 (R.fl.map ar))),(8,.tree 0 0 (.aD 7 (R.sp.map aP)))]⟩,fun x=>x.2<=s.mv.length/\(eX R s x.2).1=0/\(x.1=false->x.2=0),fun x=>s.mv.length-x.2,(false,0),(fun x=>(by rcases x with⟨_|_,i⟩<;>rfl)),jn rfl rfl rfl rfl,⟨ad3 _,rfl,fun _=>rfl⟩,?_⟩
 rintro⟨b,i⟩ ⟨hi,h0,nz⟩
 have nz:b=false->i=0:=nz
 have hi:i<=s.mv.length:=hi
 have h0:(eX R s i).1=0:=h0
 have lO:=pZ R s i
 cases b
 ·refine adN ?_ ?_
  ·intro h
   have ay:i<s.mv.length:=by have:=ad5 h;omega
   obtain⟨m,hm⟩:∃m,s.mv[i]?=some m:=⟨_,ace ay⟩
   have lW:=adR hm
   have im:(s.mv.map aq)[(i:Int).toNat]?=some (aq m):=by rw[adQ];simp[hm]
   have dD:=jY hm h0
   have hpf:=y5 (eX R s i).2 s m (hG i) (hB m lW) (kz m lW) fun hk=>hb hk m lW
   refine⟨aq m,fun _=>⟨Int.natCast_nonneg _,im⟩,?_⟩
   refine .inr (cl [0,1,2,3] hpf (by kernel_rfl) rfl rfl ?_)
   refine⟨by kernel_rfl,adN (fun he=>?_) fun he=>?_⟩
   ·have he:(aX (eX R s i).2 s m).1≠0:=fun h=>(by rw[h]at he;cases he)
    have gZ:eX R s s.mv.length=aX (eX R s i).2 s m:=by
     have:=qI (R:=R) (s:=s) (i:=i+1) (by rw[dD];exact he) (s.mv.length-(i+1))
     rw[show i+1+(s.mv.length-(i+1))=s.mv.length by omega]at this
     rw[this,dD]
    refine⟨[.dv (I 0),.dv (I (aX (eX R s i).2 s m).1)],ZS R (aX (eX R s i).2 s m).2,.inr ⟨by rw[gZ];exact he,by rw[gZ],_,rfl,(qJ _ s m).2.trans lO.2,(qJ _ s m).1.trans lO.1⟩,by kernel_rfl,⟨rf,rf,tv⟩,aZ (k:=ZS R (aX (eX R s i).2 s m).2) rfl⟩
   ·have he:(aX (eX R s i).2 s m).1=0:=by simpa using he
    exact⟨fun _=>by omega,(true,i+1),jn rfl (by simp only[dD];rfl) rfl rfl,⟨ay,by rw[dD];exact he,fun h=>(by cases h)⟩,mlt ay⟩
  ·intro h
   have:=ad6 h
   have F4:=nz rfl
   have:1<=s.mv.length:=Q2 hp
   omega
 ·refine adN ?_ ?_
  ·intro h
   have ay:i<s.mv.length:=by have:=ad5 h;omega
   obtain⟨m,hm⟩:∃m,s.mv[i]?=some m:=⟨_,ace ay⟩
   have lW:=adR hm
   have im:(s.mv.map aq)[(i:Int).toNat]?=some (aq m):=by rw[adQ];simp[hm]
   have dD:=jY hm h0
   have hpf:=y5 (eX R s i).2 s m (hG i) (hB m lW) (kz m lW) fun hk=>hb hk m lW
   refine⟨aq m,fun _=>⟨Int.natCast_nonneg _,im⟩,?_⟩
   refine .inr (cl [0,1,2,3] hpf (by kernel_rfl) rfl rfl ?_)
   refine⟨by kernel_rfl,adN (fun he=>?_) fun he=>?_⟩
   ·have he:(aX (eX R s i).2 s m).1≠0:=fun h=>(by rw[h]at he;cases he)
    have gZ:eX R s s.mv.length=aX (eX R s i).2 s m:=by
     have:=qI (R:=R) (s:=s) (i:=i+1) (by rw[dD];exact he) (s.mv.length-(i+1))
     rw[show i+1+(s.mv.length-(i+1))=s.mv.length by omega]at this
     rw[this,dD]
    refine⟨[.dv (I 0),.dv (I (aX (eX R s i).2 s m).1)],ZS R (aX (eX R s i).2 s m).2,.inr ⟨by rw[gZ];exact he,by rw[gZ],_,rfl,(qJ _ s m).2.trans lO.2,(qJ _ s m).1.trans lO.1⟩,by kernel_rfl,⟨rf,rf,tv⟩,aZ (k:=ZS R (aX (eX R s i).2 s m).2) rfl⟩
   ·have he:(aX (eX R s i).2 s m).1=0:=by simpa using he
    exact⟨fun _=>by omega,(true,i+1),jn rfl (by simp only[dD];rfl) rfl rfl,⟨ay,by rw[dD];exact he,fun h=>(by cases h)⟩,mlt ay⟩
  intro h
  have he:i=s.mv.length:=by have:=ad6 h;omega
  subst he
  have x1:-9223372036854775808<=(eX R s s.mv.length).2.sh*4294967296/\(eX R s s.mv.length).2.sh*4294967296<=9223372036854775807:=by rw[lO.2];omega
  have x2:-9223372036854775808<=(eX R s s.mv.length).2.sh*4294967296+(((eX R s s.mv.length).2.sp.map aP).length:Int)/\(eX R s s.mv.length).2.sh*4294967296+(((eX R s s.mv.length).2.sp.map aP).length:Int)<=9223372036854775807:=by rw[lO.2,lO.1];omega
  refine⟨fun _=>x1,fun _=>x2,by kernel_rfl,?_⟩
  have Uh:(((eX R s s.mv.length).2.sp.map aP).length:Int)=R.sp.length:=by rw[lO.1,lp]
  refine .inl ⟨[aP (kj R s)],rfl,⟨aG (by rw[lO.2,Uh];rfl),rf,rf,rf,rf,rf,rf,tv⟩,(by simp;rfl),?_⟩
  refine .inr ⟨[aP (kj R s)],bV.refl _,bS (by simp[lO.1];omega),by simp[lO.1];omega,?_⟩
  refine⟨by kernel_rfl,?_⟩
  refine⟨[.dv (I (R.sh*4294967296+R.sp.length)),.dv (I 0)],jC 1 1 1 { (eX R s s.mv.length).2 with sp:=R.sp++[kj R s] },.inl ⟨h0,rfl,rfl⟩,by kernel_rfl,⟨aG (by rw[lO.2,Uh]),rf,tv⟩,aZ (k:=jC 1 1 1 { (eX R s s.mv.length).2 with sp:=R.sp++[kj R s] }) ?_⟩
  simp only[jC,ad7,<-lO.1]
  rfl
end
end Go.Proofs.YtfpebgpgabjieaaGreatDoor
