import Derived.Test.YtpbiiigpphehbaaGreatDoorFM51
import Derived.Test.YtpbiiigpphehbaaGreatDoorFM52
import Derived.Test.YtpbiiigpphehbaaGreatDoorFM53
set_option linter.all false
namespace Go.Proofs.YtpbiiigpphehbaaGreatDoor
set_option maxRecDepth 100000
set_option maxHeartbeats 8000000
section
open Go.TM
def Mv(fl:List oj)(g:Int):Bool:=fl.any fun f=>f.kind==5&&f.ps.any fun x=>x.f==g
def zy(fl:List oj)(g:Int):Option (List Lt):=bif Mv fl g then some [⟨g,0,3⟩]else none
theorem ZJ(g:Int):NS [⟨g,0,3⟩]:=⟨ab7 _ _,fun x hx=>by rw[abF]at hx;subst hx;show(1:Int)<=3;decide⟩
theorem S4(g:Int):iT [⟨g,0,3⟩]=[⟨g,0,3⟩]:=Sa (ZJ g)
theorem S5{g:Int}(h:0<=g):aQ ⟨g,0,3⟩=true:=aw.2 ⟨h,by simp,by simp,by simp⟩
theorem IY{g:Int}(h:0<=g):ca [⟨g,0,3⟩]=true:=gK (fun x hx=>by rw[abF]at hx;subst hx;exact S5 h) (by simp)
theorem wo3(a b:Int):O3 [⟨a,0,3⟩] [⟨b,0,3⟩]=if a=b then[]else[⟨a,0,3⟩]:=by
 by_cases h:a=b
 ·subst h;rw[if_pos rfl];simp[O3,wA,ji,kT]
 ·rw[if_neg h];simp[O3,wA,ji,kT,h,bj]
theorem aaV(a:Int):O3 [⟨a,0,3⟩] []=[⟨a,0,3⟩]:=by simp[O3,wA,bj]
theorem aaW{a b:Int}(ha:0<=a)(hb:0<=b):LX [⟨a,0,3⟩] [⟨b,0,3⟩]=if a=b then[⟨a,0,3⟩]else[]:=by
 have e:∀P,wC [⟨a,0,3⟩] P=bif ca P then O3 [⟨a,0,3⟩] P else[]:=fun P=>by
  simp only[wC,nV,IY ha,cond_true,S4,Kg,Bool.true_and]
 rw[LX,IY hb,cond_true,e,e,IY hb,cond_true,wo3]
 by_cases h:a=b
 ·rw[if_pos h,if_pos h,aaV];rfl
 ·rw[if_neg h,if_neg h,IY ha,cond_true,wo3,if_pos rfl]
theorem Gl{α:Type}{p q:α->Bool}:∀{l:List α},(∀x∈l,p x=q x)->l.any p=l.any q
 |[],_=>rfl
 |a::l,h=>by rw[List.any_cons,List.any_cons,h a abL,Gl fun x hx=>h x (abH _ hx)]
theorem Wr{R:RL}(hG:Good R){g:Int}(hg:0<=g):R.fl.any (PC ⟨g,0,3⟩)=Mv R.fl g:=Gl fun f hf=>by
 unfold PC
 by_cases h:f.kind=5
 ·obtain⟨a,ha,e⟩:=(hG.MR f hf).2.2.2.2.2 h
  rw[h,e,aaW ha hg]
  by_cases h2:a=g<;>simp[h2]
 ·simp[h]
theorem S6{R:RL}(hG:Good R){g:Int}(hg:0<=g)(h:g-R.sh*4294967296<0\/1000<=g-R.sh*4294967296)(it:Int):uW R.fl it [⟨g,0,3⟩]=10:=by
 have:R.fl.any (okF it ⟨g,0,3⟩)=false:=by
  rw[List.any_eq_false]
  intro f hf cB
  have hw:tc [⟨g,0,3⟩] [⟨f.id,0,f.n⟩]=true:=by
   unfold okF at cB;rw[aca]at cB;exact cB.2
  have oe:=hG.fl
  have wS:=(hG.MR f hf).2.2
  unfold tc at hw
  rw[IY hg,Bool.true_and,aca]at hw
  have hm:=abQ hw.2
  unfold wC nV Kg at hm
  rw[IY hg,cond_true,S4,IY hg,hw.1,Bool.true_and,cond_true]at hm
  have hb:=fun y hy=>(aw.1 ((hZ hw.1).2 y hy)).2.2.1
  have:=(Sb (a:=[⟨g,0,3⟩]) (ZJ g).pos hb).1 (by rw[S4];exact hm) g 0 ⟨_,abF.2 rfl,rfl,by simp,by simp⟩
  obtain⟨y,hy,hy2⟩:=this
  rw[abF]at hy;subst hy
  have:=hy2.1
  simp only at this
  omega
 unfold uW
 rw[this];simp
structure tB(P:PL)(s:dJ)(c:Ch)(R:RL):Prop where
 sh:R.sh=P.sh
 sp:R.sp=P.sp
 Ug:c.sp=spI P s
 nk:Nk c.st/\Nk c.b8/\Nk c.imp
 ret:c.ret=[]
 fl:R.fl=P.fl++c.fl
 st:∀k,fo P c k=cr R.st k
 b8:∀j,(aR c.b8 j).getD (F2 P.b8 j)=dp R.st j
 imp:∀g,Q5 c.imp P.imp g=zy R.fl g
 sk:c.sk=rZ R.fl (R.sh*4294967296+R.sp.length)
theorem S7(fl:List oj)(f:oj)(st:Int)(h:f.step=st):rZ (fl++[f]) st=rZ fl st++bif f.to==0 then[f.id]else[]:=by
 unfold rZ
 rw[List.filter_append,abS,List.filter_cons,List.filter_nil,h]
 cases f.to==0<;>simp
theorem tB.next{P:PL}{s:dJ}{c c2:Ch}{R R2:RL}{f:oj}{it:Int}(d:Int)(h:tB P s c R)(e1:c2.sp=c.sp)(e2:Nk c2.st/\Nk c2.imp)(e3:c2.ret=c.ret)(e4:c2.fl=c.fl++[f])(e5:c2.b8=aU c.b8 it (dp R.st it+d))(e6:c2.sk=c.sk++bif f.to==0 then[f.id]else[])
 (e7:R2.sh=R.sh/\R2.sp=R.sp/\R2.fl=R.fl++[f]) (e8:f.step=R.sh*4294967296+R.sp.length) (e9:∀k,fo P c2 k=cr R2.st k) (e10:∀j,dp R2.st j=if it=j then dp R.st j+d else dp R.st j) (e11:∀g,Q5 c2.imp P.imp g=zy (R.fl++[f]) g):tB P s c2 R2 where
 sh:=e7.1.trans h.sh
 sp:=e7.2.1.trans h.sp
 Ug:=e1.trans h.Ug
 nk:=⟨e2.1,by rw[e5];exact h.nk.2.1.put _ _,e2.2⟩
 ret:=e3.trans h.ret
 fl:=by rw[e7.2.2,e4,h.fl,ab0]
 st:=e9
 b8 j:=by
  rw[e5,kU,e10]
  by_cases hj:it=j
  ·rw[if_pos hj,if_pos hj,hj];rfl
  ·rw[if_neg hj,if_neg hj];exact h.b8 j
 imp g:=by rw[e7.2.2];exact e11 g
 sk:=by rw[e6,e7.1,e7.2.1,e7.2.2,S7 _ _ _ e8,h.sk]
theorem DA(P:PL)(c:Ch)(k:Ky)(l:List Lt)(m:SM)(hm:∀j,(aR m j).getD (cr P.st j)=fo P c j)(j:Ky):(aR (aU m k l) j).getD (cr P.st j)=if k=j then l else fo P c j:=by
 rw[kU];split
 ·rfl
 ·exact hm j
theorem Qm{P:PL}{s:dJ}{c:Ch}{R:RL}(h:tB P s c R)(m:dX)(l:List Lt)(md:List Int):dK P c m l md=gF R s m l md:=by
 unfold dK gF
 rw[h.Ug,h.fl,h.sh,h.sp]
 unfold spI
 simp only[abM,oj.mk.injEq,and_true,true_and]
 omega
theorem IZ{fl:List oj}{f:oj}(h:f.kind≠5)(g:Int):zy (fl++[f]) g=zy fl g:=by
 unfold zy Mv
 rw[List.any_append,List.any_cons,List.any_nil,beq_eq_false_iff_ne.2 h,Bool.false_and,Bool.or_false,Bool.or_false]
variable [bJ]
theorem Qn(hS:n0){P:PL}{s:dJ}{c:Ch}{R:RL}{m:dX}(h:tB P s c R)(hG:Good R)(hl:R.fl.length+1<=64)(hm:Ma R.sh s m):
 ∃c',aq Tryz.prog 48 [.ptr 0 0,cJ (ak m)] 14 (eZ 0 0 P c) 0 [.dv (I (cE R s m).1)] (eZ 1 1 P c')/\((cE R s m).1=0->tB P s c' (cE R s m).2):=by
 have hb:=abQ hm.base
 have MP:=Km hG hl hm
 have wV:0<=P.sh/\P.sh<=12:=by have:=hG.sh;rw[h.sh]at this;omega
 have hlen:P.fl.length<=900000/\c.fl.length<=900000/\c.sk.length<=900000:=by
  have h1:=congrArg List.length h.fl
  have h2:=Dh R.fl (R.sh*4294967296+R.sp.length)
  rw[<-h.sk]at h2
  rw[abM]at h1
  omega
 have hv:eD P c m=dp R.st m.it:=h.b8 m.it
 have Xl:0<=eD P c m/\eD P c m<=1099511627776:=by
  rw[hv];exact⟨(Dd m.it R.st).1,hG.tb _⟩
 have ph:c.sp.kind=s.kind:=by rw[h.Ug];rfl
 have hT:=hG.wG (m.to,m.it)
 by_cases ec:0<m.fr
 ·have hk:s.kind≠5/\m.ps=[]:=by
   rcases hm.ps with h|h|h
   ·omega
   ·omega
   ·exact⟨h.1,h.2.2⟩
  have e:=h.st (m.fr,m.it)
  have hS2:=hG.wG (m.fr,m.it)
  have wy:=gK hS2.1 (by omega)
  rw[Kl R s m ec hk.2]at MP⊢
  by_cases hc:bQ (cr R.st (m.fr,m.it))<m.n
  ·rw[if_pos hc]
   exact⟨c,jL (zv P c c m [] 10 (by decide) (zu P c c m [] 10 (by omega) (Qa hS P c m hk.2 ⟨hb.1,hb.2.1⟩ ⟨by omega,by omega⟩ (by rw[e];exact wy) (by rw[e];exact abW hc)))),fun h=>absurd h (show¬(10:Int)=0 by decide)⟩
  rw[if_neg hc]at MP⊢
  have hw:=zu P c _ m _ 0 (by omega) (Qb hS P c m hk.2 ⟨hb.1,hb.2.1⟩ ⟨by omega,by omega⟩ (by rw[e];exact wy) (by rw[e];exact abX hc))
  rw[e]at hw
  generalize gj (cr R.st (m.fr,m.it)) m.n (zV m.it)=tk at*
  have IE:=Qm h m tk.1 []
  have NN:=DA P c (m.fr,m.it) tk.2 c.st (fun j=>rfl)
  have hfk:(gF R s m tk.1 []).kind≠5:=hk.1
  by_cases lx:m.to=0
  ·refine⟨_,jL (Qi P c { c with st:=aU c.st (m.fr,m.it) tk.2 } m _ ⟨hb.2.2.1,hb.2.2.2.1⟩ Xl wV hlen (by omega) lx hw),fun h0=>?_⟩
   have hq:=(MP rfl).2.2
   refine tB.next (f:=gF R s m tk.1 []) (it:=m.it) (-m.n) h rfl ⟨h.nk.1.put _ _,h.nk.2.2⟩ rfl ?_ ?_ ?_ ⟨rfl,rfl,rfl⟩ rfl ?_ ?_ ?_
   ·exact congrArg (fun f=>c.fl++[f]) IE
   ·exact congrArg (fun t=>aU c.b8 m.it (t-m.n)) hv
   ·rw[show(gF R s m tk.1 []).to=0 from lx]
    exact congrArg (fun f:oj=>c.sk++[f.id]) IE
   ·intro k
    simp only[if_neg (by omega:¬0<m.to),nX]
    exact(NN k).trans (by rw[h.st])
   ·intro j
    rw[hq j,if_neg (by omega:¬m.fr=0),if_pos lx]
    split<;>omega
   ·intro g;rw[IZ hfk];exact h.imp g
  ·have ck:∀l,cr (aU R.st (m.fr,m.it) l) (m.to,m.it)=cr R.st (m.to,m.it):=fun l=>by
    rw[nX,if_neg];intro h;injection h with h1;omega
   have Az:fo P { c with st:=aU c.st (m.fr,m.it) tk.2 } (m.to,m.it)=cr R.st (m.to,m.it):=by
    refine(NN _).trans ?_
    rw[if_neg (by intro h;injection h with h1;omega),h.st]
   have Uh:=Ql P c { c with st:=aU c.st (m.fr,m.it) tk.2 } m _ ⟨hb.2.2.1,hb.2.2.2.1⟩ Xl wV hlen (by omega) lx (by rw[Az];exact gK hT.1 (by omega)) (by rw[Az];omega) hw
   rw[Az]at Uh
   refine⟨_,jL Uh,fun h0=>?_⟩
   have hq:=(MP rfl).2.2
   refine tB.next (f:=gF R s m tk.1 []) (it:=m.it) 0 h rfl ⟨(h.nk.1.put _ _).put _ _,h.nk.2.2⟩ rfl ?_ ?_ ?_ ⟨rfl,rfl,rfl⟩ rfl ?_ ?_ ?_
   ·exact congrArg (fun f=>c.fl++[f]) IE
   ·exact congrArg (fun t=>aU c.b8 m.it t) (hv.trans (by omega))
   ·rw[show((gF R s m tk.1 []).to==0)=false from beq_eq_false_iff_ne.2 lx]
    exact(List.append_nil _).symm
   ·intro k
    simp only[if_pos (by omega:0<m.to),ck]
    rw[nX]
    refine(DA P { c with st:=aU c.st (m.fr,m.it) tk.2 } (m.to,m.it) _ _ (fun j=>rfl) k).trans ?_
    rw[show dK P { c with st:=aU c.st (m.fr,m.it) tk.2 } m tk.1 []=_ from IE]
    split
    ·rfl
    ·rw[nX];exact(NN k).trans (by rw[h.st])
   ·intro j
    rw[hq j,if_neg (by omega:¬m.fr=0),if_neg lx]
    split<;>omega
   ·intro g;rw[IZ hfk];exact h.imp g
 ·have td:m.fr=0:=by omega
  have lx:0<m.to:=by omega
  have ZK:m.to≠0:=by omega
  rw[PK R s m td lx]at MP⊢
  have fin:∀(c1:Ch) (l:List Lt),D3 R s.kind m=0->c1.sp=c.sp->c1.st=c.st->c1.b8=c.b8->c1.ret=c.ret->c1.fl=c.fl->c1.sk=c.sk->Nk c1.imp->(if s.kind=5\/s.kind=9 then m.ps else[])=l->(∀md g,Q5 c1.imp P.imp g=zy (R.fl++[gF R s m l md]) g)->aq Tryz.prog 94 [.ptr 0 0,cJ (ak m)] 14 (eZ 0 0 P c) 0 [.dv (aS l),.dv (I 0)] (eZ 0 0 P c1)->
   ∃c',aq Tryz.prog 48 [.ptr 0 0,cJ (ak m)] 14 (eZ 0 0 P c) 0 [.dv (I (if D3 R s.kind m≠0 then(D3 R s.kind m,R)else if 1099511627776<dp R.st m.it+m.n then(4,R)else(0,{ R with
  st:=aU R.st (m.to,m.it) (bj (cr R.st (m.to,m.it)) ⟨R.sh*4294967296+R.fl.length,0,m.n⟩)
  fl:=R.fl++[gF R s m (if s.kind=5\/s.kind=9 then m.ps else[]) (bif wF s.kind then rZ R.fl (R.sh*4294967296+R.sp.length)else[])] })).1)] (eZ 1 1 P c')/\((if D3 R s.kind m≠0 then(D3 R s.kind m,R)else if 1099511627776<dp R.st m.it+m.n then(4,R)else(0,{ R with
  st:=aU R.st (m.to,m.it) (bj (cr R.st (m.to,m.it)) ⟨R.sh*4294967296+R.fl.length,0,m.n⟩)
  fl:=R.fl++[gF R s m (if s.kind=5\/s.kind=9 then m.ps else[]) (bif wF s.kind then rZ R.fl (R.sh*4294967296+R.sp.length)else[])] })).1=0->tB P s c' (if D3 R s.kind m≠0 then(D3 R s.kind m,R)else if 1099511627776<dp R.st m.it+m.n then(4,R)else(0,{ R with
  st:=aU R.st (m.to,m.it) (bj (cr R.st (m.to,m.it)) ⟨R.sh*4294967296+R.fl.length,0,m.n⟩)
  fl:=R.fl++[gF R s m (if s.kind=5\/s.kind=9 then m.ps else[]) (bif wF s.kind then rZ R.fl (R.sh*4294967296+R.sp.length)else[])] })).2):=by
   rintro⟨Ug,cst,abr,Qo,abt,cfl,csk⟩ l he rfl rfl rfl rfl rfl rfl hni hle himp ht
   rw[if_neg (fun hh=>hh he)]at MP⊢
   by_cases hc:1099511627776<dp R.st m.it+m.n
   ·rw[if_pos hc]
    exact⟨_,jL (Qj P c ⟨c.sp,c.st,c.b8,Qo,c.ret,c.fl,c.sk⟩ m l ⟨hb.2.2.1,hb.2.2.2.1⟩ Xl wV hlen td ZK (by show _<eD P c m+m.n;rw[hv];exact hc) ht),fun h=>absurd h (show¬(4:Int)=0 by decide)⟩
   rw[if_neg hc]at MP⊢
   rw[hle]at MP⊢
   have Az:fo P ⟨c.sp,c.st,c.b8,Qo,c.ret,c.fl,c.sk⟩ (m.to,m.it)=cr R.st (m.to,m.it):=h.st _
   have hq:=(MP rfl).2.2
   have nxt:∀md,md=(bif wF s.kind then rZ R.fl (R.sh*4294967296+R.sp.length)else[])->tB P s { Au P ⟨c.sp,c.st,c.b8,Qo,c.ret,c.fl,c.sk⟩ m (eD P c m+m.n) l md with st:=aU c.st (m.to,m.it) (bj (cr R.st (m.to,m.it)) ⟨(dK P c m l md).id,0,m.n⟩) } { R with
    st:=aU R.st (m.to,m.it) (bj (cr R.st (m.to,m.it)) ⟨R.sh*4294967296+R.fl.length,0,m.n⟩)
    fl:=R.fl++[gF R s m l (bif wF s.kind then rZ R.fl (R.sh*4294967296+R.sp.length)else[])] }:=by
    rintro md rfl
    have IE:=Qm h m l (bif wF s.kind then rZ R.fl (R.sh*4294967296+R.sp.length)else[])
    rw[IE,hv]
    refine tB.next (f:=gF R s m l _) (it:=m.it) m.n h rfl ⟨h.nk.1.put _ _,hni⟩ rfl ?_ rfl ?_ ⟨rfl,rfl,rfl⟩ rfl ?_ ?_ ?_
    ·exact congrArg (fun f=>c.fl++[f]) IE
    ·rw[show((gF R s m l (bif wF s.kind then rZ R.fl (R.sh*4294967296+R.sp.length)else[])).to==0)=false from beq_eq_false_iff_ne.2 ZK]
     exact(List.append_nil _).symm
    ·intro k
     rw[nX]
     refine(DA P c (m.to,m.it) _ c.st (fun j=>rfl) k).trans ?_
     rw[h.st];rfl
    ·intro j
     rw[hq j,if_pos td,if_neg ZK]
     split<;>omega
    ·intro g;exact himp _ g
   by_cases hM:s.kind=4\/s.kind=10
   ·have hi:wF s.kind=true:=by unfold wF;rcases hM with h|h<;>rw[h]<;>rfl
    have Uh:=Qh P c ⟨c.sp,c.st,c.b8,Qo,c.ret,c.fl,c.sk⟩ m l ⟨hb.2.2.1,hb.2.2.2.1⟩ Xl wV hlen td ZK (by rw[<-ph]at hM;exact hM) (by show¬_<eD P c m+m.n;rw[hv];exact hc) (by rw[Az];exact gK hT.1 (by omega)) (by rw[Az];omega) ht
    rw[Az]at Uh
    exact⟨_,jL Uh,fun _=>nxt c.sk (by rw[hi,h.sk];rfl)⟩
   ·have hi:wF s.kind=false:=by
     unfold wF;rw[Bool.or_eq_false_iff];exact⟨beq_eq_false_iff_ne.2 fun e=>hM (.inl e),beq_eq_false_iff_ne.2 fun e=>hM (.inr e)⟩
    have Uh:=Qk P c ⟨c.sp,c.st,c.b8,Qo,c.ret,c.fl,c.sk⟩ m l ⟨hb.2.2.1,hb.2.2.2.1⟩ Xl wV hlen td ZK (by rw[<-ph]at hM;exact⟨fun e=>hM (.inl e),fun e=>hM (.inr e)⟩) (by show¬_<eD P c m+m.n;rw[hv];exact hc) (by rw[Az];exact gK hT.1 (by omega)) (by rw[Az];omega) ht
    rw[Az]at Uh
    exact⟨_,jL Uh,fun _=>nxt [] (by rw[hi];rfl)⟩
  rcases hm.ps with⟨h5,_,g,g0,g1,lu⟩|⟨h9,_,g,g0,g1,lu,ho⟩|⟨h5,h9,lu⟩
  ·have hu:=h.imp g
   have ht:=IV P c m ⟨g,0,3⟩ td (ph.trans h5) lu (S5 g0) g1 (fun l hl=>by
    rw[hu]at hl
    unfold zy at hl
    cases hi:Mv R.fl g with
    |false=>rw[hi]at hl;cases hl
    |true=>
     rw[hi]at hl;injection hl with hl;subst hl
     refine⟨ZJ g,fun y hy=>by rw[abF]at hy;subst hy;exact S5 g0,by simp,fun hn=>?_⟩
     exact(Sc (ZJ g).pos (ZJ g)).1 hn g 0 ⟨_,abF.2 rfl,rfl,by simp,by simp⟩ ⟨_,abF.2 rfl,rfl,by simp,by simp⟩)
   have he:D3 R s.kind m=Mp P c ⟨g,0,3⟩:=by
    unfold D3 Mp
    rw[if_pos h5,lu]
    unfold uV
    rw[Wr hG g0,hu,h.sh]
    unfold zy
    by_cases a1:g.tdiv 4294967296=P.sh
    ·simp[a1]
    ·by_cases a2:11<g.tdiv 4294967296
     ·rw[if_pos (.inr a2),beq_eq_false_iff_ne.2 a1,abW (show 12<=g.tdiv 4294967296 by omega)];rfl
     ·rw[if_neg (by simp only[not_or];exact⟨a1,a2⟩)]
      have:¬12<=g.tdiv 4294967296:=by omega
      simp only[beq_eq_false_iff_ne.2 a1,abX this,cond_false]
      cases Mv R.fl g<;>rfl
   by_cases hz:Mp P c ⟨g,0,3⟩=0
   ·rw[show Qd P c ⟨g,0,3⟩={ c with imp:=aU c.imp g (iT [⟨g,0,3⟩]) }from if_pos hz,hz]at ht
    refine fin { c with imp:=aU c.imp g (iT [⟨g,0,3⟩]) } _ (he.trans hz) rfl rfl rfl rfl rfl rfl (h.nk.2.2.put _ _) (by rw[if_pos (.inl h5),lu]) (fun md j=>?_) ht
    have hj:=h.imp j
    unfold Q5 at hj⊢
    rw[kU]
    unfold zy Mv at hj⊢
    rw[List.any_append]
    have hf:([gF R s m [⟨g,0,3⟩] md].any fun f=>f.kind==5&&f.ps.any fun x=>x.f==j)=(g==j):=by
     simp[gF,h5]
    rw[hf]
    by_cases hgj:g=j
    ·subst hgj;rw[if_pos rfl,S4,beq_self_eq_true,Bool.or_true];rfl
    ·rw[if_neg hgj,hj,beq_eq_false_iff_ne.2 hgj,Bool.or_false]
   ·rw[if_pos (by rw[he];exact hz),he]
    exact⟨_,jL (zv P c _ m _ _ hz ht),fun h0=>absurd h0 hz⟩
  ·have he:D3 R s.kind m=10:=by
    unfold D3;rw[if_neg (by omega),if_pos h9,lu];exact S6 hG g0 ho _
   have ht:=IW P c m ⟨g,0,3⟩ td (ph.trans h9) lu (S5 g0) g1 wV (by
    have:=congrArg List.length h.fl
    rw[abM]at this
    have:=hG.fl
    rw[h.sh]at ho
    simp only
    omega)
   rw[if_pos (by rw[he];decide),he]
   exact⟨_,jL (zv P c _ m _ _ (show¬(10:Int)=0 by decide) ht),fun h0=>absurd h0 (show¬(10:Int)=0 by decide)⟩
  ·have he:D3 R s.kind m=0:=by unfold D3;rw[if_neg h5,if_neg h9]
   have ht:=IU P c m td (by rw[ph];exact h5) (by rw[ph];exact h9)
   exact fin c _ he rfl rfl rfl rfl rfl rfl h.nk.2.2 (by rw[if_neg (by omega)]) (fun md g=>by rw[IZ (f:=gF R s m [] md) h5];exact h.imp g) ht
end
end Go.Proofs.YtpbiiigpphehbaaGreatDoor
