import Derived.Test.YtknnpcfhekkjjaaGreatDoorFM43
import Derived.Test.YtknnpcfhekkjjaaGreatDoorFM44
import Derived.Test.YtknnpcfhekkjjaaGreatDoorFM45
import Derived.Test.YtknnpcfhekkjjaaGreatDoorFM46
import Derived.Test.YtknnpcfhekkjjaaGreatDoorFM28
import Derived.Test.YtknnpcfhekkjjaaGreatDoorFM37
import Derived.Test.YtknnpcfhekkjjaaGreatDoorFM35
import Derived.Test.YtknnpcfhekkjjaaGreatDoorFM30
import Derived.Test.YtknnpcfhekkjjaaGreatDoorFM34
import Derived.Test.YtknnpcfhekkjjaaGreatDoorFM22
import Derived.WalkKit
import Derived.Lib.Mul64
import Derived.Laws.Bits64b
import Derived.Test.YtknnpcfhekkjjaaGreatDoorFM21
set_option linter.all false
namespace Go.Proofs.YtknnpcfhekkjjaaGreatDoor
set_option maxRecDepth 100000
set_option maxHeartbeats 4000000
section
open Go.TM
def Mi(fl:List qy)(g:Int):Bool:=fl.any fun f=>f.kind==5&&f.ps.any fun x=>x.f==g
def zo(fl:List qy)(g:Int):Option (List Lt):=bif Mi fl g then some [⟨g,0,3⟩]else none
theorem Zv(g:Int):NS [⟨g,0,3⟩]:=⟨acg _ _,fun x hx=>by rw[abN]at hx;subst hx;show(1:Int)<=3;decide⟩
theorem P6(g:Int):iW [⟨g,0,3⟩]=[⟨g,0,3⟩]:=Sd (Zv g)
theorem S2{g:Int}(h:0<=g):aO ⟨g,0,3⟩=true:=ax.2 ⟨h,by simp,by simp,by simp⟩
theorem Aw{g:Int}(h:0<=g):cg [⟨g,0,3⟩]=true:=gz (fun x hx=>by rw[abN]at hx;subst hx;exact S2 h) (by simp)
theorem wo3(a b:Int):OV [⟨a,0,3⟩] [⟨b,0,3⟩]=if a=b then[]else[⟨a,0,3⟩]:=by
 by_cases h:a=b
 ·subst h;rw[if_pos rfl];simp[OV,wH,jq,lj]
 ·rw[if_neg h];simp[OV,wH,jq,lj,h,bj]
theorem aaU(a:Int):OV [⟨a,0,3⟩] []=[⟨a,0,3⟩]:=by simp[OV,wH,bj]
theorem aaV{a b:Int}(ha:0<=a)(hb:0<=b):LH [⟨a,0,3⟩] [⟨b,0,3⟩]=if a=b then[⟨a,0,3⟩]else[]:=by
 have e:∀P,wI [⟨a,0,3⟩] P=bif cg P then OV [⟨a,0,3⟩] P else[]:=fun P=>by
  simp only[wI,me,Aw ha,cond_true,P6,J8,Bool.true_and]
 rw[LH,Aw hb,cond_true,e,e,Aw hb,cond_true,wo3]
 by_cases h:a=b
 ·rw[if_pos h,if_pos h,aaU];rfl
 ·rw[if_neg h,if_neg h,Aw ha,cond_true,wo3,if_pos rfl]
theorem F6{α:Type}{p q:α->Bool}:∀{l:List α},(∀x∈l,p x=q x)->l.any p=l.any q
 |[],_=>rfl
 |a::l,h=>by rw[List.any_cons,List.any_cons,h a abT,F6 fun x hx=>h x (abP _ hx)]
theorem Wp{R:RL}(hG:Good R){g:Int}(hg:0<=g):R.fl.any (Pl ⟨g,0,3⟩)=Mi R.fl g:=F6 fun f hf=>by
 unfold Pl
 by_cases h:f.kind=5
 ·obtain⟨a,ha,e⟩:=(hG.Rc f hf).2.2.2.2.2 h
  rw[h,e,aaV ha hg]
  by_cases h2:a=g<;>simp[h2]
 ·simp[h]
theorem S3{R:RL}(hG:Good R){g:Int}(hg:0<=g)(h:g-R.sh*4294967296<0\/1000<=g-R.sh*4294967296)(it:Int):u6 R.fl it [⟨g,0,3⟩]=10:=by
 have:R.fl.any (okF it ⟨g,0,3⟩)=false:=by
  rw[List.any_eq_false]
  intro f hf cr
  have hw:td [⟨g,0,3⟩] [⟨f.id,0,f.n⟩]=true:=by
   unfold okF at cr;rw[acj]at cr;exact cr.2
  have oH:=hG.fl
  have vJ:=(hG.Rc f hf).2.2
  unfold td at hw
  rw[Aw hg,Bool.true_and,acj]at hw
  have hm:=abY hw.2
  unfold wI me J8 at hm
  rw[Aw hg,cond_true,P6,Aw hg,hw.1,Bool.true_and,cond_true]at hm
  have hb:=fun y hy=>(ax.1 ((hU hw.1).2 y hy)).2.2.1
  have:=(Se (a:=[⟨g,0,3⟩]) (Zv g).pos hb).1 (by rw[P6];exact hm) g 0 ⟨_,abN.2 rfl,rfl,by simp,by simp⟩
  obtain⟨y,hy,hy2⟩:=this
  rw[abN]at hy;subst hy
  have:=hy2.1
  simp only at this
  omega
 unfold u6
 rw[this];simp
structure tC(P:PL)(s:dW)(c:Ch)(R:RL):Prop where
 sh:R.sh=P.sh
 sp:R.sp=P.sp
 Up:c.sp=spI P s
 nk:Nk c.st/\Nk c.cb/\Nk c.imp
 ret:c.ret=[]
 fl:R.fl=P.fl++c.fl
 st:∀k,fy P c k=b5 R.st k
 cb:∀j,(aR c.cb j).getD (FN P.cb j)=cE R.st j
 imp:∀g,Re c.imp P.imp g=zo R.fl g
 sk:c.sk=sd R.fl (R.sh*4294967296+R.sp.length)
theorem S4(fl:List qy)(f:qy)(st:Int)(h:f.step=st):sd (fl++[f]) st=sd fl st++bif f.to==0 then[f.id]else[]:=by
 unfold sd
 rw[List.filter_append,ab0,List.filter_cons,List.filter_nil,h]
 cases f.to==0<;>simp
theorem tC.next{P:PL}{s:dW}{c c2:Ch}{R R2:RL}{f:qy}{it:Int}(d:Int)(h:tC P s c R)(e1:c2.sp=c.sp)(e2:Nk c2.st/\Nk c2.imp)(e3:c2.ret=c.ret)(e4:c2.fl=c.fl++[f])(e5:c2.cb=aS c.cb it (cE R.st it+d))(e6:c2.sk=c.sk++bif f.to==0 then[f.id]else[])
 (e7:R2.sh=R.sh/\R2.sp=R.sp/\R2.fl=R.fl++[f]) (e8:f.step=R.sh*4294967296+R.sp.length) (e9:∀k,fy P c2 k=b5 R2.st k) (e10:∀j,cE R2.st j=if it=j then cE R.st j+d else cE R.st j) (e11:∀g,Re c2.imp P.imp g=zo (R.fl++[f]) g):tC P s c2 R2 where
 sh:=e7.1.trans h.sh
 sp:=e7.2.1.trans h.sp
 Up:=e1.trans h.Up
 nk:=⟨e2.1,by rw[e5];exact h.nk.2.1.put _ _,e2.2⟩
 ret:=e3.trans h.ret
 fl:=by rw[e7.2.2,e4,h.fl,ab8]
 st:=e9
 cb j:=by
  rw[e5,lk,e10]
  by_cases hj:it=j
  ·rw[if_pos hj,if_pos hj,hj];rfl
  ·rw[if_neg hj,if_neg hj];exact h.cb j
 imp g:=by rw[e7.2.2];exact e11 g
 sk:=by rw[e6,e7.1,e7.2.1,e7.2.2,S4 _ _ _ e8,h.sk]
theorem Du(P:PL)(c:Ch)(k:Ky)(l:List Lt)(m:SM)(hm:∀j,(aR m j).getD (b5 P.st j)=fy P c j)(j:Ky):(aR (aS m k l) j).getD (b5 P.st j)=if k=j then l else fy P c j:=by
 rw[lk];split
 ·rfl
 ·exact hm j
theorem P7{P:PL}{s:dW}{c:Ch}{R:RL}(h:tC P s c R)(m:fa)(l:List Lt)(md:List Int):dL P c m l md=gG R s m l md:=by
 unfold dL gG
 rw[h.Up,h.fl,h.sh,h.sp]
 unfold spI
 simp only[abU,qy.mk.injEq,and_true,true_and]
 omega
theorem IE{fl:List qy}{f:qy}(h:f.kind≠5)(g:Int):zo (fl++[f]) g=zo fl g:=by
 unfold zo Mi
 rw[List.any_append,List.any_cons,List.any_nil,beq_eq_false_iff_ne.2 h,Bool.false_and,Bool.or_false,Bool.or_false]
variable [bG]
theorem P8(hS:nU){P:PL}{s:dW}{c:Ch}{R:RL}{m:fa}(h:tC P s c R)(hG:Good R)(hl:R.fl.length+1<=160)(hm:Ap R.sh s m):
 ∃c',ar Tryz.prog 81 [.ptr 0 0,cY (ak m)] 14 (fg 0 0 P c) 0 [.dv (I (cw R s m).1)] (fg 1 1 P c')/\((cw R s m).1=0->tC P s c' (cw R s m).2):=by
 have hb:=abY hm.base
 have MI:=C7 hG hl hm
 have sa:0<=P.sh/\P.sh<=12:=by have:=hG.sh;rw[h.sh]at this;omega
 have hlen:P.fl.length<=900000/\c.fl.length<=900000/\c.sk.length<=900000:=by
  have h1:=congrArg List.length h.fl
  have h2:=C5 R.fl (R.sh*4294967296+R.sp.length)
  rw[<-h.sk]at h2
  rw[abU]at h1
  omega
 have hv:eH P c m=cE R.st m.it:=h.cb m.it
 have Xr:0<=eH P c m/\eH P c m<=1099511627776:=by
  rw[hv];exact⟨(yW m.it R.st).1,hG.tb _⟩
 have pg:c.sp.kind=s.kind:=by rw[h.Up];rfl
 have hT:=hG.th (m.to,m.it)
 by_cases dQ:0<m.fr
 ·have hk:s.kind≠5/\m.ps=[]:=by
   rcases hm.ps with h|h|h
   ·omega
   ·omega
   ·exact⟨h.1,h.2.2⟩
  have e:=h.st (m.fr,m.it)
  have hS2:=hG.th (m.fr,m.it)
  have tZ:=gz hS2.1 (by omega)
  rw[xc R s m dQ hk.2]at MI⊢
  by_cases hc:b9 (b5 R.st (m.fr,m.it))<m.n
  ·rw[if_pos hc]
   exact⟨c,jQ (zk P c c m [] 10 (by decide) (zh P c c m [] 10 (by omega) (PQ hS P c m hk.2 ⟨hb.1,hb.2.1⟩ ⟨by omega,by omega⟩ (by rw[e];exact tZ) (by rw[e];exact ab4 hc)))),fun h=>absurd h (show¬(10:Int)=0 by decide)⟩
  rw[if_neg hc]at MI⊢
  have hw:=zh P c _ m _ 0 (by omega) (PR hS P c m hk.2 ⟨hb.1,hb.2.1⟩ ⟨by omega,by omega⟩ (by rw[e];exact tZ) (by rw[e];exact ab5 hc))
  rw[e]at hw
  generalize fW (b5 R.st (m.fr,m.it)) m.n (wK m.it)=tk at*
  have PD:=P7 h m tk.1 []
  have Ns:=Du P c (m.fr,m.it) tk.2 c.st (fun j=>rfl)
  have hfk:(gG R s m tk.1 []).kind≠5:=hk.1
  by_cases ka:m.to=0
  ·refine⟨_,jQ (P0 P c { c with st:=aS c.st (m.fr,m.it) tk.2 } m _ ⟨hb.2.2.1,hb.2.2.2.1⟩ Xr sa hlen (by omega) ka hw),fun h0=>?_⟩
   have hq:=(MI rfl).2.2
   refine tC.next (f:=gG R s m tk.1 []) (it:=m.it) (-m.n) h rfl ⟨h.nk.1.put _ _,h.nk.2.2⟩ rfl ?_ ?_ ?_ ⟨rfl,rfl,rfl⟩ rfl ?_ ?_ ?_
   ·exact congrArg (fun f=>c.fl++[f]) PD
   ·exact congrArg (fun t=>aS c.cb m.it (t-m.n)) hv
   ·rw[show(gG R s m tk.1 []).to=0 from ka]
    exact congrArg (fun f:qy=>c.sk++[f.id]) PD
   ·intro k
    simp only[if_neg (by omega:¬0<m.to),iN]
    exact(Ns k).trans (by rw[h.st])
   ·intro j
    rw[hq j,if_neg (by omega:¬m.fr=0),if_pos ka]
    split<;>omega
   ·intro g;rw[IE hfk];exact h.imp g
  ·have b7:∀l,b5 (aS R.st (m.fr,m.it) l) (m.to,m.it)=b5 R.st (m.to,m.it):=fun l=>by
    rw[iN,if_neg];intro h;injection h with h1;omega
   have tU:fy P { c with st:=aS c.st (m.fr,m.it) tk.2 } (m.to,m.it)=b5 R.st (m.to,m.it):=by
    refine(Ns _).trans ?_
    rw[if_neg (by intro h;injection h with h1;omega),h.st]
   have F7:=P5 P c { c with st:=aS c.st (m.fr,m.it) tk.2 } m _ ⟨hb.2.2.1,hb.2.2.2.1⟩ Xr sa hlen (by omega) ka (by rw[tU];exact gz hT.1 (by omega)) (by rw[tU];omega) hw
   rw[tU]at F7
   refine⟨_,jQ F7,fun h0=>?_⟩
   have hq:=(MI rfl).2.2
   refine tC.next (f:=gG R s m tk.1 []) (it:=m.it) 0 h rfl ⟨(h.nk.1.put _ _).put _ _,h.nk.2.2⟩ rfl ?_ ?_ ?_ ⟨rfl,rfl,rfl⟩ rfl ?_ ?_ ?_
   ·exact congrArg (fun f=>c.fl++[f]) PD
   ·exact congrArg (fun t=>aS c.cb m.it t) (hv.trans (by omega))
   ·rw[show((gG R s m tk.1 []).to==0)=false from beq_eq_false_iff_ne.2 ka]
    exact(List.append_nil _).symm
   ·intro k
    simp only[if_pos (by omega:0<m.to),b7]
    rw[iN]
    refine(Du P { c with st:=aS c.st (m.fr,m.it) tk.2 } (m.to,m.it) _ _ (fun j=>rfl) k).trans ?_
    rw[show dL P { c with st:=aS c.st (m.fr,m.it) tk.2 } m tk.1 []=_ from PD]
    split
    ·rfl
    ·rw[iN];exact(Ns k).trans (by rw[h.st])
   ·intro j
    rw[hq j,if_neg (by omega:¬m.fr=0),if_neg ka]
    split<;>omega
   ·intro g;rw[IE hfk];exact h.imp g
 ·have rP:m.fr=0:=by omega
  have ka:0<m.to:=by omega
  have Zw:m.to≠0:=by omega
  rw[C6 R s m rP ka]at MI⊢
  have fin:∀(c1:Ch) (l:List Lt),zT R s.kind m=0->c1.sp=c.sp->c1.st=c.st->c1.cb=c.cb->c1.ret=c.ret->c1.fl=c.fl->c1.sk=c.sk->Nk c1.imp->(if s.kind=5\/s.kind=9 then m.ps else[])=l->(∀md g,Re c1.imp P.imp g=zo (R.fl++[gG R s m l md]) g)->ar Tryz.prog 147 [.ptr 0 0,cY (ak m)] 14 (fg 0 0 P c) 0 [.dv (aU l),.dv (I 0)] (fg 0 0 P c1)->
   ∃c',ar Tryz.prog 81 [.ptr 0 0,cY (ak m)] 14 (fg 0 0 P c) 0 [.dv (I (if zT R s.kind m≠0 then(zT R s.kind m,R)else if 1099511627776<cE R.st m.it+m.n then(4,R)else(0,{ R with
  st:=aS R.st (m.to,m.it) (bj (b5 R.st (m.to,m.it)) ⟨R.sh*4294967296+R.fl.length,0,m.n⟩)
  fl:=R.fl++[gG R s m (if s.kind=5\/s.kind=9 then m.ps else[]) (bif wM s.kind then sd R.fl (R.sh*4294967296+R.sp.length)else[])] })).1)] (fg 1 1 P c')/\((if zT R s.kind m≠0 then(zT R s.kind m,R)else if 1099511627776<cE R.st m.it+m.n then(4,R)else(0,{ R with
  st:=aS R.st (m.to,m.it) (bj (b5 R.st (m.to,m.it)) ⟨R.sh*4294967296+R.fl.length,0,m.n⟩)
  fl:=R.fl++[gG R s m (if s.kind=5\/s.kind=9 then m.ps else[]) (bif wM s.kind then sd R.fl (R.sh*4294967296+R.sp.length)else[])] })).1=0->tC P s c' (if zT R s.kind m≠0 then(zT R s.kind m,R)else if 1099511627776<cE R.st m.it+m.n then(4,R)else(0,{ R with
  st:=aS R.st (m.to,m.it) (bj (b5 R.st (m.to,m.it)) ⟨R.sh*4294967296+R.fl.length,0,m.n⟩)
  fl:=R.fl++[gG R s m (if s.kind=5\/s.kind=9 then m.ps else[]) (bif wM s.kind then sd R.fl (R.sh*4294967296+R.sp.length)else[])] })).2):=by
   rintro⟨Up,cst,abw,P9,abx,cfl,csk⟩ l he rfl rfl rfl rfl rfl rfl hni hle himp ht
   rw[if_neg (fun hh=>hh he)]at MI⊢
   by_cases hc:1099511627776<cE R.st m.it+m.n
   ·rw[if_pos hc]
    exact⟨_,jQ (P3 P c ⟨c.sp,c.st,c.cb,P9,c.ret,c.fl,c.sk⟩ m l ⟨hb.2.2.1,hb.2.2.2.1⟩ Xr sa hlen rP Zw (by show _<eH P c m+m.n;rw[hv];exact hc) ht),fun h=>absurd h (show¬(4:Int)=0 by decide)⟩
   rw[if_neg hc]at MI⊢
   rw[hle]at MI⊢
   have tU:fy P ⟨c.sp,c.st,c.cb,P9,c.ret,c.fl,c.sk⟩ (m.to,m.it)=b5 R.st (m.to,m.it):=h.st _
   have hq:=(MI rfl).2.2
   have nxt:∀md,md=(bif wM s.kind then sd R.fl (R.sh*4294967296+R.sp.length)else[])->tC P s { Au P ⟨c.sp,c.st,c.cb,P9,c.ret,c.fl,c.sk⟩ m (eH P c m+m.n) l md with st:=aS c.st (m.to,m.it) (bj (b5 R.st (m.to,m.it)) ⟨(dL P c m l md).id,0,m.n⟩) } { R with
    st:=aS R.st (m.to,m.it) (bj (b5 R.st (m.to,m.it)) ⟨R.sh*4294967296+R.fl.length,0,m.n⟩)
    fl:=R.fl++[gG R s m l (bif wM s.kind then sd R.fl (R.sh*4294967296+R.sp.length)else[])] }:=by
    rintro md rfl
    have PD:=P7 h m l (bif wM s.kind then sd R.fl (R.sh*4294967296+R.sp.length)else[])
    rw[PD,hv]
    refine tC.next (f:=gG R s m l _) (it:=m.it) m.n h rfl ⟨h.nk.1.put _ _,hni⟩ rfl ?_ rfl ?_ ⟨rfl,rfl,rfl⟩ rfl ?_ ?_ ?_
    ·exact congrArg (fun f=>c.fl++[f]) PD
    ·rw[show((gG R s m l (bif wM s.kind then sd R.fl (R.sh*4294967296+R.sp.length)else[])).to==0)=false from beq_eq_false_iff_ne.2 Zw]
     exact(List.append_nil _).symm
    ·intro k
     rw[iN]
     refine(Du P c (m.to,m.it) _ c.st (fun j=>rfl) k).trans ?_
     rw[h.st];rfl
    ·intro j
     rw[hq j,if_pos rP,if_neg Zw]
     split<;>omega
    ·intro g;exact himp _ g
   by_cases hM:s.kind=4\/s.kind=10
   ·have hi:wM s.kind=true:=by unfold wM;rcases hM with h|h<;>rw[h]<;>rfl
    have F7:=PZ P c ⟨c.sp,c.st,c.cb,P9,c.ret,c.fl,c.sk⟩ m l ⟨hb.2.2.1,hb.2.2.2.1⟩ Xr sa hlen rP Zw (by rw[<-pg]at hM;exact hM) (by show¬_<eH P c m+m.n;rw[hv];exact hc) (by rw[tU];exact gz hT.1 (by omega)) (by rw[tU];omega) ht
    rw[tU]at F7
    exact⟨_,jQ F7,fun _=>nxt c.sk (by rw[hi,h.sk];rfl)⟩
   ·have hi:wM s.kind=false:=by
     unfold wM;rw[Bool.or_eq_false_iff];exact⟨beq_eq_false_iff_ne.2 fun e=>hM (.inl e),beq_eq_false_iff_ne.2 fun e=>hM (.inr e)⟩
    have F7:=P4 P c ⟨c.sp,c.st,c.cb,P9,c.ret,c.fl,c.sk⟩ m l ⟨hb.2.2.1,hb.2.2.2.1⟩ Xr sa hlen rP Zw (by rw[<-pg]at hM;exact⟨fun e=>hM (.inl e),fun e=>hM (.inr e)⟩) (by show¬_<eH P c m+m.n;rw[hv];exact hc) (by rw[tU];exact gz hT.1 (by omega)) (by rw[tU];omega) ht
    rw[tU]at F7
    exact⟨_,jQ F7,fun _=>nxt [] (by rw[hi];rfl)⟩
  rcases hm.ps with⟨h5,_,g,g0,g1,lP⟩|⟨h9,_,g,g0,g1,lP,ho⟩|⟨h5,h9,lP⟩
  ·have hu:=h.imp g
   have ht:=IB P c m ⟨g,0,3⟩ rP (pg.trans h5) lP (S2 g0) g1 (fun l hl=>by
    rw[hu]at hl
    unfold zo at hl
    cases hi:Mi R.fl g with
    |false=>rw[hi]at hl;cases hl
    |true=>
     rw[hi]at hl;injection hl with hl;subst hl
     refine⟨Zv g,fun y hy=>by rw[abN]at hy;subst hy;exact S2 g0,by simp,fun hn=>?_⟩
     exact(Sf (Zv g).pos (Zv g)).1 hn g 0 ⟨_,abN.2 rfl,rfl,by simp,by simp⟩ ⟨_,abN.2 rfl,rfl,by simp,by simp⟩)
   have he:zT R s.kind m=Me P c ⟨g,0,3⟩:=by
    unfold zT Me
    rw[if_pos h5,lP]
    unfold u5
    rw[Wp hG g0,hu,h.sh]
    unfold zo
    by_cases a1:g.tdiv 4294967296=P.sh
    ·simp[a1]
    ·by_cases a2:11<g.tdiv 4294967296
     ·rw[if_pos (.inr a2),beq_eq_false_iff_ne.2 a1,ab4 (show 12<=g.tdiv 4294967296 by omega)];rfl
     ·rw[if_neg (by simp only[not_or];exact⟨a1,a2⟩)]
      have:¬12<=g.tdiv 4294967296:=by omega
      simp only[beq_eq_false_iff_ne.2 a1,ab5 this,cond_false]
      cases Mi R.fl g<;>rfl
   by_cases hz:Me P c ⟨g,0,3⟩=0
   ·rw[show PU P c ⟨g,0,3⟩={ c with imp:=aS c.imp g (iW [⟨g,0,3⟩]) }from if_pos hz,hz]at ht
    refine fin { c with imp:=aS c.imp g (iW [⟨g,0,3⟩]) } _ (he.trans hz) rfl rfl rfl rfl rfl rfl (h.nk.2.2.put _ _) (by rw[if_pos (.inl h5),lP]) (fun md j=>?_) ht
    have hj:=h.imp j
    unfold Re at hj⊢
    rw[lk]
    unfold zo Mi at hj⊢
    rw[List.any_append]
    have hf:([gG R s m [⟨g,0,3⟩] md].any fun f=>f.kind==5&&f.ps.any fun x=>x.f==j)=(g==j):=by
     simp[gG,h5]
    rw[hf]
    by_cases hgj:g=j
    ·subst hgj;rw[if_pos rfl,P6,beq_self_eq_true,Bool.or_true];rfl
    ·rw[if_neg hgj,hj,beq_eq_false_iff_ne.2 hgj,Bool.or_false]
   ·rw[if_pos (by rw[he];exact hz),he]
    exact⟨_,jQ (zk P c _ m _ _ hz ht),fun h0=>absurd h0 hz⟩
  ·have he:zT R s.kind m=10:=by
    unfold zT;rw[if_neg (by omega),if_pos h9,lP];exact S3 hG g0 ho _
   have ht:=IC P c m ⟨g,0,3⟩ rP (pg.trans h9) lP (S2 g0) g1 sa (by
    have:=congrArg List.length h.fl
    rw[abU]at this
    have:=hG.fl
    rw[h.sh]at ho
    simp only
    omega)
   rw[if_pos (by rw[he];decide),he]
   exact⟨_,jQ (zk P c _ m _ _ (show¬(10:Int)=0 by decide) ht),fun h0=>absurd h0 (show¬(10:Int)=0 by decide)⟩
  ·have he:zT R s.kind m=0:=by unfold zT;rw[if_neg h5,if_neg h9]
   have ht:=IA P c m rP (by rw[pg];exact h5) (by rw[pg];exact h9)
   exact fin c _ he rfl rfl rfl rfl rfl rfl h.nk.2.2 (by rw[if_neg (by omega)]) (fun md g=>by rw[IE (f:=gG R s m [] md) h5];exact h.imp g) ht
end
section
open Go.TM
def pfF(s:dW)(a:Int×RL)(m:fa):Int×RL:=if a.1=0 then cw a.2 s m else a
def cI(R:RL)(s:dW)(i:Nat):Int×RL:=(s.mv.take i).foldl (pfF s) (0,R)
theorem jR{R:RL}{s:dW}{i:Nat}{m:fa}(h:s.mv[i]?=some m)(h0:(cI R s i).1=0):cI R s (i+1)=cw (cI R s i).2 s m:=by
 unfold cI at*
 rw[abR,h,ab7]
 exact if_pos h0
theorem lU{R:RL}{s:dW}{i:Nat}(h0:(cI R s i).1≠0):∀j,cI R s (i+j)=cI R s i
 |0=>rfl
 |j+1=>by
  have ih:=lU h0 j
  unfold cI at*
  rw[show i+(j+1)=i+j+1 by omega,abR,ab7,ih]
  cases s.mv[i+j]? with
  |none=>rfl
  |some m=>exact if_neg h0
theorem ql(R:RL)(s:dW)(m:fa):(cw R s m).2.sp=R.sp/\(cw R s m).2.sh=R.sh:=by
 unfold cw;split;exact⟨rfl,rfl⟩;split<;>exact⟨rfl,rfl⟩
theorem rY(R:RL)(s:dW):∀i,(cI R s i).2.sp=R.sp/\(cI R s i).2.sh=R.sh
 |0=>⟨rfl,rfl⟩
 |i+1=>by
  have ih:=rY R s i
  unfold cI at*
  rw[abR,ab7]
  cases s.mv[i]? with
  |none=>exact ih
  |some m=>
   show(pfF s _ m).2.sp=_/\(pfF s _ m).2.sh=_
   unfold pfF
   split
   ·rw[(ql _ s m).1,(ql _ s m).2];exact ih
   ·exact ih
theorem Qa{n:Int}{s:dW}(h:iM n s=true):1<=s.mv.length:=by
 simp only[iM,acj,decide_eq_true_eq]at h
 exact h.1.1.2.2.2.1
def gU(R:RL)(s:dW):dW:={ s with id:=R.sh*4294967296+R.sp.length }
def Xs(R R1:RL):ae:=[(0,.cells (.dv (I R1.sh)::fc jc++[.own 6 0 0 [],.own 7 0 0 [],.own 3 0 0 []])),(1,.tree 1 0 (.aB 3 (R1.st.map j8))),(2,.tree 1 0 (.aB 11 (R1.fl.map bB))),(3,.tree 0 0 (.aB 7 (R1.sp.map aP))),(6,.tree 0 0 (.aB 3 (R.st.map j8))),(7,.tree 0 0 (.aB 11 (R.fl.map bB)))]
variable [bG]
theorem cOR{f:Nat}{fn:Func}{c:Code}{args:List AV}{m ex:Nat}{K:ae}{Q:List AV->ae->Prop}(hf:Tryz.prog.funcs[f]?=some fn)(hb:fn.body=some c)
 (ha:((!(fn.name== "runtime.NumGoroutine"))&&(Nat.ble args.length fn.ntmps&&cG.wf ⟨m,di 0 args,K⟩))=true) (h:fm Tryz.prog lR .fn fn.ntmps m c (pb lR fn m ex Q) m (di 0 args) K):bV Tryz.prog f args m K ex Q:=by
 rw[acj,acm]at ha
 exact mF gy mixed (eW _) (fB _) hf hb ha.1 ha.2 h
theorem F8(R:RL)(s:dW)(hn:R.sp.length<=900000)(hr:vU s.aL)(hl:s.mv.length<=1000)(lP:∀m∈s.mv,m.ps.length<=4000)(hc:65536<=R.sp.length\/iM (dS R.sp) s=false):ar Tryz.prog 16 [.ptr 0 0,cY (aP s)] 4 (dU R) 0 [.dv (I 0),.dv (I (if 65536<=R.sp.length then 4 else 1))] (dU R):=by
 refine cO Tryz.func16 rfl (by kernel_rfl) ?_
 have lp:(R.sp.map aP).length=R.sp.length:=abH ..
 refine abG (fun h=>?_) fun h=>?_
 ·have h:65536<=R.sp.length:=by have:=abY h;omega
  rw[if_pos h]
  exact ext (by kernel_rfl) rfl rfl
 ·have h:¬65536<=R.sp.length:=by have:=abZ h;omega
  rw[if_neg h]
  refine .inr (cl [0,1,2,3] (yY R s hr (by omega) hl lP) (by kernel_rfl) rfl rfl ?_)
  rw[hc.resolve_left h]
  refine abG (fun _=>?_) fun h=>by cases h
  exact ext (by kernel_rfl) rfl rfl
theorem Qb(R:RL)(s:dW)(hr:vU s.aL)(hl:s.mv.length<=1000)(lP:∀m∈s.mv,m.ps.length<=20)(hn:R.sp.length<65536)(hp:iM (dS R.sp) s=true)(hG:∀i,RG (cI R s i).2)(hB:∀m∈s.mv,eG m=true)(hb:s.kind=5->∀m∈s.mv,∀x∈m.ps,0<=x.f/\x.f<=9223372036854775807):bV Tryz.prog 16 [.ptr 0 0,cY (aP s)] 4 (dU R) 5 fun rs k=>
 ((cI R s s.mv.length).1=0/\rs=[.dv (I (R.sh*4294967296+R.sp.length)),.dv (I 0)]/\k=jN 1 1 1 { (cI R s s.mv.length).2 with sp:=R.sp++[gU R s] })\/
 ((cI R s s.mv.length).1≠0/\rs=[.dv (I 0),.dv (I (cI R s s.mv.length).1)]/\∃R1:RL,k=Xs R R1/\R1.sh=R.sh/\R1.sp=R.sp):=by
 refine cOR Tryz.func16 rfl (by kernel_rfl) ?_
 have lp:(R.sp.map aP).length=R.sp.length:=abH ..
 have lm:(s.mv.map ak).length=s.mv.length:=abH ..
 have hR:=hG 0
 have ai:=hR.st
 have oH:=hR.fl
 have sa:=hR.sh
 have ai:R.st.length<=900:=ai
 have oH:R.fl.length<=900000:=oH
 have sa:0<=R.sh/\R.sh<=1000:=sa
 refine abG (fun h=>?_) fun h=>?_
 ·have:=abY h;omega
 refine .inr (cl [0,1,2,3] (yY R s hr (by omega) hl fun m hm=>by have:=lP m hm;omega) (by kernel_rfl) rfl rfl ?_)
 rw[hp]
 refine abG (fun h=>by cases h) fun _=>?_
 refine .inr (cl [0,1,2,3] (Ia R (by omega) (by omega) (by omega)) (by kernel_rfl) rfl rfl ?_)
 refine⟨Bool×Nat,fun x=>⟨9,[(0,.ptr 0 0),(3,.ptr 4 0),(7,.ptr 5 0),(8,.dv (I x.2))],jN (bif x.1 then 1 else 0) (bif x.1 then 1 else 0) 0 (cI R s x.2).2++[(4,.cells (fc (aP s).cells)),(5,.cells (.dv (I R.sh)::fc jc++[.own 6 0 0 [],.own 7 0 0 [],.own 8 0 0 []])),(6,.tree 0 0 (.aB 3 (R.st.map j8))),(7,.tree 0 0 (.aB 11 (R.fl.map bB))),(8,.tree 0 0 (.aB 7 (R.sp.map aP)))]⟩,fun x=>x.2<=s.mv.length/\(cI R s x.2).1=0/\(x.1=false->x.2=0),fun x=>s.mv.length-x.2,(false,0),(fun x=>(by rcases x with⟨_|_,i⟩<;>rfl)),jn rfl rfl rfl rfl,⟨abW _,rfl,fun _=>rfl⟩,?_⟩
 rintro⟨b,i⟩ ⟨hi,h0,ng⟩
 have ng:b=false->i=0:=ng
 have hi:i<=s.mv.length:=hi
 have h0:(cI R s i).1=0:=h0
 have my:=rY R s i
 cases b
 ·refine abG ?_ ?_
  ·intro h
   have au:i<s.mv.length:=by have:=abY h;omega
   obtain⟨m,hm⟩:∃m,s.mv[i]?=some m:=⟨_,aaj au⟩
   have pE:=abK hm
   have im:(s.mv.map ak)[(i:Int).toNat]?=some (ak m):=by rw[abJ];simp[hm]
   have dZ:=jR hm h0
   have hpf:=y2 (cI R s i).2 s m (hG i) (hB m pE) (lP m pE) fun hk=>hb hk m pE
   refine⟨ak m,fun _=>⟨Int.natCast_nonneg _,im⟩,?_⟩
   refine .inr (cl [0,1,2,3] hpf (by kernel_rfl) rfl rfl ?_)
   refine⟨by kernel_rfl,abG (fun he=>?_) fun he=>?_⟩
   ·have he:(cw (cI R s i).2 s m).1≠0:=fun h=>(by rw[h]at he;cases he)
    have gu:cI R s s.mv.length=cw (cI R s i).2 s m:=by
     have:=lU (R:=R) (s:=s) (i:=i+1) (by rw[dZ];exact he) (s.mv.length-(i+1))
     rw[show i+1+(s.mv.length-(i+1))=s.mv.length by omega]at this
     rw[this,dZ]
    refine⟨[.dv (I 0),.dv (I (cw (cI R s i).2 s m).1)],Xs R (cw (cI R s i).2 s m).2,.inr ⟨by rw[gu];exact he,by rw[gu],_,rfl,(ql _ s m).2.trans my.2,(ql _ s m).1.trans my.1⟩,by kernel_rfl,⟨rf,rf,tv⟩,bp (k:=Xs R (cw (cI R s i).2 s m).2) rfl⟩
   ·have he:(cw (cI R s i).2 s m).1=0:=by simpa using he
    exact⟨fun _=>⟨by omega,by omega⟩,(true,i+1),jn rfl (by simp only[dZ];rfl) rfl rfl,⟨au,by rw[dZ];exact he,fun h=>(by cases h)⟩,mlt au⟩
  ·intro h
   have:=abZ h
   have BA:=ng rfl
   have:1<=s.mv.length:=Qa hp
   omega
 ·refine abG ?_ ?_
  ·intro h
   have au:i<s.mv.length:=by have:=abY h;omega
   obtain⟨m,hm⟩:∃m,s.mv[i]?=some m:=⟨_,aaj au⟩
   have pE:=abK hm
   have im:(s.mv.map ak)[(i:Int).toNat]?=some (ak m):=by rw[abJ];simp[hm]
   have dZ:=jR hm h0
   have hpf:=y2 (cI R s i).2 s m (hG i) (hB m pE) (lP m pE) fun hk=>hb hk m pE
   refine⟨ak m,fun _=>⟨Int.natCast_nonneg _,im⟩,?_⟩
   refine .inr (cl [0,1,2,3] hpf (by kernel_rfl) rfl rfl ?_)
   refine⟨by kernel_rfl,abG (fun he=>?_) fun he=>?_⟩
   ·have he:(cw (cI R s i).2 s m).1≠0:=fun h=>(by rw[h]at he;cases he)
    have gu:cI R s s.mv.length=cw (cI R s i).2 s m:=by
     have:=lU (R:=R) (s:=s) (i:=i+1) (by rw[dZ];exact he) (s.mv.length-(i+1))
     rw[show i+1+(s.mv.length-(i+1))=s.mv.length by omega]at this
     rw[this,dZ]
    refine⟨[.dv (I 0),.dv (I (cw (cI R s i).2 s m).1)],Xs R (cw (cI R s i).2 s m).2,.inr ⟨by rw[gu];exact he,by rw[gu],_,rfl,(ql _ s m).2.trans my.2,(ql _ s m).1.trans my.1⟩,by kernel_rfl,⟨rf,rf,tv⟩,bp (k:=Xs R (cw (cI R s i).2 s m).2) rfl⟩
   ·have he:(cw (cI R s i).2 s m).1=0:=by simpa using he
    exact⟨fun _=>⟨by omega,by omega⟩,(true,i+1),jn rfl (by simp only[dZ];rfl) rfl rfl,⟨au,by rw[dZ];exact he,fun h=>(by cases h)⟩,mlt au⟩
  intro h
  have he:i=s.mv.length:=by have:=abZ h;omega
  subst he
  have x1:-9223372036854775808<=(cI R s s.mv.length).2.sh*4294967296/\(cI R s s.mv.length).2.sh*4294967296<=9223372036854775807:=by rw[my.2];omega
  have x2:-9223372036854775808<=(cI R s s.mv.length).2.sh*4294967296+(((cI R s s.mv.length).2.sp.map aP).length:Int)/\(cI R s s.mv.length).2.sh*4294967296+(((cI R s s.mv.length).2.sp.map aP).length:Int)<=9223372036854775807:=by rw[my.2,my.1];omega
  refine⟨fun _=>x1,fun _=>x2,by kernel_rfl,?_⟩
  have Sq:(((cI R s s.mv.length).2.sp.map aP).length:Int)=R.sp.length:=by rw[my.1,lp]
  refine .inl ⟨[aP (gU R s)],rfl,⟨aF (by rw[my.2,Sq];rfl),rf,rf,rf,rf,rf,rf,tv⟩,(by simp;rfl),?_⟩
  refine .inr ⟨[aP (gU R s)],cd.refl _,bS (by simp[my.1];omega),by simp[my.1];omega,?_⟩
  refine⟨by kernel_rfl,?_⟩
  refine⟨[.dv (I (R.sh*4294967296+R.sp.length)),.dv (I 0)],jN 1 1 1 { (cI R s s.mv.length).2 with sp:=R.sp++[gU R s] },.inl ⟨h0,rfl,rfl⟩,by kernel_rfl,⟨aF (by rw[my.2,Sq]),rf,tv⟩,bp (k:=jN 1 1 1 { (cI R s s.mv.length).2 with sp:=R.sp++[gU R s] }) ?_⟩
  simp only[jN,ab0,<-my.1]
  rfl
end
section
open Go.TM
def rlY(R:RL):ae:=[(0,.cells (Y6 2 2 0 R)),(1,.tree 2 0 (.aB 3 (R.st.map j8))),(2,.tree 2 0 (.aB 11 (R.fl.map bB))),(3,.tree 0 0 (.aB 7 (R.sp.map aP))),(6,.dead),(7,.dead)]
variable [bG]
theorem zp{P:Program}{f:Nat}{args:List AV}{m ex:Nat}{K:ae}{Q Q':List AV->ae->Prop}(h:bV P f args m K ex Q)(hQ:∀r k,Q r k->Q' r k):bV P f args m K ex Q':=
 ⟨h.1,fun w G vs a b c=>Calls.mono (h.2 w G vs a b c) fun _ _ ⟨v,r,k,G',h1,h2,h3⟩=>⟨v,r,k,G',h1,hQ r k h2,h3⟩⟩
structure SG(R:RL)(s:dW):Prop where
 aL:vU s.aL
 len:s.mv.length<=1000
 ps:∀m∈s.mv,m.ps.length<=20
 sp:R.sp.length<65536
 nX:∀i,RG (cI R s i).2
 base:∀m∈s.mv,eG m=true
 imp:s.kind=5->∀m∈s.mv,∀x∈m.ps,0<=x.f/\x.f<=9223372036854775807
theorem F9(R:RL)(s:dW)(h:SG R s)(hp:iM (dS R.sp) s=true)(h0:(cI R s s.mv.length).1=0):ar Tryz.prog 16 [.ptr 0 0,cY (aP s)] 4 (dU R) 5 [.dv (I (R.sh*4294967296+R.sp.length)),.dv (I 0)] (jN 1 1 1 { (cI R s s.mv.length).2 with sp:=R.sp++[gU R s] }):=
 zp (Qb R s h.aL h.len h.ps h.sp hp h.nX h.base h.imp) fun r k hk=>by
  rcases hk with⟨_,h2,h3⟩|⟨h1,_⟩
  ·exact⟨h2,h3⟩
  ·exact absurd h0 h1
theorem Ga(R:RL)(s:dW)(h:SG R s)(hp:iM (dS R.sp) s=true)(h0:(cI R s s.mv.length).1≠0):ar Tryz.prog 16 [.ptr 0 0,cY (aP s)] 4 (dU R) 5 [.dv (I 0),.dv (I (cI R s s.mv.length).1)] (rlY R):=by
 have h1:=zp (Qb R s h.aL h.len h.ps h.sp hp h.nX h.base h.imp) (Q':=fun r k=>r=[.dv (I 0),.dv (I (cI R s s.mv.length).1)]/\∃R1:RL,k=Xs R R1/\R1.sh=R.sh/\R1.sp=R.sp) fun r k hk=>by
  rcases hk with⟨h1,_⟩|⟨_,h2,h3⟩
  ·exact absurd h1 h0
  ·exact⟨h2,h3⟩
 have h2:=vZ (i:=1) (j:=6) (R':=fun r k=>r=[.dv (I 0),.dv (I (cI R s s.mv.length).1)]/\∃fl1:List qy,k=[(0,aq.cells (.dv (I R.sh)::fc jc++[.own 1 2 0 [],.own 7 0 0 [],.own 3 0 0 []])),(1,.tree 2 0 (.aB 3 (R.st.map j8))),(2,.tree 1 0 (.aB 11 (fl1.map bB))),(3,.tree 0 0 (.aB 7 (R.sp.map aP))),(6,.dead),(7,.tree 0 0 (.aB 11 (R.fl.map bB)))]) h1 (by omega) (by omega) (by omega) fun r k hk=>by
  obtain⟨hr,R1,rfl,hs,hp⟩:=hk
  refine⟨_,⟨hr,R1.fl,rfl⟩,1,0,_,_,rfl,rfl,rfl,rfl,fun q h1 h2=>?_⟩
  match q,h1,h2 with
  |0,_,_=>
   show LS 1 2 6 (.cells _) (.cells _)
   rw[hs]
   exact .cells (.same _ (.same _ (.same _ (.same _ (.same _ (.sb (.same _ (.same _ .nil))))))))
  |2,_,_=>exact .refl _
  |3,_,_=>show LS 1 2 6 (.tree 0 0 _) (.tree 0 0 _);rw[hp];exact .refl _
  |4,_,_=>exact .refl _
  |5,_,_=>exact .refl _
  |7,_,_=>exact .refl _
  |q+8,_,_=>exact .refl _
 exact vZ (i:=2) (j:=7) h2 (by omega) (by omega) (by omega) fun r k hk=>by
  obtain⟨hr,fl1,rfl⟩:=hk
  refine⟨_,⟨hr,rfl⟩,1,0,_,_,rfl,rfl,rfl,rfl,fun q h1 h2=>?_⟩
  match q,h1,h2 with
  |0,_,_=>exact .cells (.same _ (.same _ (.same _ (.same _ (.same _ (.same _ (.sb (.same _ .nil))))))))
  |1,_,_=>exact .refl _
  |3,_,_=>exact .refl _
  |4,_,_=>exact .refl _
  |5,_,_=>exact .refl _
  |6,_,_=>exact .refl _
  |q+8,_,_=>exact .refl _
end
section
open Go.TM
variable [bG]
end
section
end
section
end
section
open Go.TM
structure Inv(P:PL)(R:RL):Prop where
 nX:Good R
 sh:P.sh=R.sh
 fl:P.fl=R.fl
 sp:P.sp=R.sp
 nk:Nk P.st/\Nk P.cb/\Nk P.imp
 ret:P.ret=[]
 st:∀k,aR P.st k=if b5 R.st k=[]then none else some (b5 R.st k)
 cb:∀j,FN P.cb j=cE R.st j
 imp:∀g,aR P.imp g=zo R.fl g
 step:∀f∈R.fl,f.step<R.sh*4294967296+R.sp.length
 Zx:R.fl.length<=4*R.sp.length
 sps:∀s∈R.sp,s.mv.length<=160/\∀m∈s.mv,m.ps.length<=20
 now:0<=dS R.sp
theorem Inv.th{P:PL}{R:RL}(h:Inv P R)(k:Ky):b5 P.st k=b5 R.st k:=by
 show(aR P.st k).getD []=_
 rw[h.st]
 split
 ·rename_i e;rw[e];rfl
 ·rfl
structure pw(R:RL)(s:dW):Prop where
 aL:vU s.aL
 len:s.mv.length<=4
 ps:∀m∈s.mv,m.ps.length<=20
 pos:iM (dS R.sp) s=true->∀m∈s.mv,Ap R.sh s m
theorem Gb{R:RL}{s:dW}{m:fa}(h:(cw R s m).1≠0):(cw R s m).2=R:=by
 unfold cw at h⊢
 split
 ·rfl
 ·rename_i h1
  rw[if_neg h1]at h
  split
  ·rfl
  ·rename_i h2;rw[if_neg h2]at h;exact absurd rfl h
theorem nY{R:RL}{s:dW}(hG:Good R)(hl:R.fl.length+s.mv.length<=160)(hm:∀m∈s.mv,Ap R.sh s m):∀i,Good (cI R s i).2/\(cI R s i).2.fl.length<=R.fl.length+min i s.mv.length
 |0=>⟨hG,Nat.le_add_right _ _⟩
 |i+1=>by
  obtain⟨h1,h2⟩:=nY hG hl hm i
  by_cases h0:(cI R s i).1=0
  ·cases hx:s.mv[i]? with
   |none=>
    have:cI R s (i+1)=cI R s i:=by unfold cI;rw[abR,hx];simp
    rw[this];exact⟨h1,by omega⟩
   |some m=>
    have hi:=(abI.1 hx).1
    have pE:=hm m (abK hx)
    rw[jR hx h0]
    by_cases hp:(cw (cI R s i).2 s m).1=0
    ·have:=C7 h1 (by omega) (by rw[(rY R s i).2];exact pE) hp
     exact⟨this.1,by omega⟩
    ·rw[Gb hp];exact⟨h1,by omega⟩
  ·rw[lU h0 1];exact⟨h1,by omega⟩
theorem tD{R:RL}{s:dW}{i j:Nat}(h:i<=j)(h0:(cI R s j).1=0):(cI R s i).1=0:=Decidable.byContradiction fun hc=>by
 have:=lU hc (j-i)
 rw[show i+(j-i)=j by omega]at this
 rw[this]at h0;exact hc h0
theorem Gc{R:RL}{s:dW}:∀n,(cI R s n).1≠0->∃k,k<n/\(cI R s k).1=0/\(cI R s (k+1)).1=(cI R s n).1
 |0,h=>absurd rfl h
 |n+1,h=>by
  by_cases h0:(cI R s n).1=0
  ·exact⟨n,Nat.lt_succ_self n,h0,rfl⟩
  ·have e:=lU h0 1
   obtain⟨k,h1,h2,h3⟩:=Gc n h0
   exact⟨k,by omega,h2,by rw[h3,e]⟩
theorem Inv.aaW{P:PL}{R:RL}(h:Inv P R)(s:dW):tC P s (ch0 P s) R where
 sh:=h.sh.symm
 sp:=h.sp.symm
 Up:=rfl
 nk:=⟨List.nodup_nil,List.nodup_nil,List.nodup_nil⟩
 ret:=rfl
 fl:=by rw[h.fl];exact(List.append_nil _).symm
 st k:=h.th k
 cb j:=h.cb j
 imp g:=h.imp g
 sk:=by
  have:(R.fl.filter fun f=>f.step==R.sh*4294967296+R.sp.length&&f.to==0)=[]:=by
   rw[List.filter_eq_nil_iff]
   intro f hf hc
   rw[acj]at hc
   have:=h.step f hf
   have:=beq_iff_eq.1 hc.1
   omega
  show[]=sd _ _
  unfold sd;rw[this];rfl
theorem Gd(l:List dW)(s:dW):dS (l++[s])=s.tick:=by unfold dS;rw[List.getLast?_concat]
theorem Inv.next{P:PL}{R R1:RL}{s:dW}{c:Ch}(h:Inv P R)(hs:tC P s c R1)(hG:Good R1)(h1:R1.sh=R.sh/\R1.sp=R.sp)(hl:R1.fl.length<=R.fl.length+s.mv.length)(hm:s.mv.length<=4/\∀m∈s.mv,m.ps.length<=20)(my:R.sp.length<40)(ht:dS R.sp<=s.tick):Inv (Uo P c c.st) { R1 with sp:=R.sp++[gU R s] }where
 nX:={ hG with
  sp:=by simp only[abU,List.length_singleton];omega
  Rc:=fun f hf=>by
   obtain⟨a1,a2,a3,a4,a5,a6⟩:=hG.Rc f hf
   refine⟨a1,a2,a3,a4,?_,a6⟩
   simp only[abU,List.length_singleton]
   rw[h1.2]at a5
   omega }
 sh:=h.sh.trans h1.1.symm
 fl:=hs.fl.symm
 sp:=by
  show P.sp++[c.sp]=R.sp++[gU R s]
  rw[hs.Up,h.sp]
  unfold spI gU
  rw[h.sp,h.sh]
 nk:=⟨Dt _ _ h.nk.1,zn _ _ h.nk.2.1,zn _ _ h.nk.2.2⟩
 ret:=by show Mh P.ret c.ret=[];rw[h.ret,hs.ret];rfl
 st k:=by
  show aR (BN P.st c.st) k=if b5 R1.st k=[]then none else some (b5 R1.st k)
  rw[tB _ _ h.nk.1 hs.nk.1,<-hs.st]
  unfold fy
  cases hc:aR c.st k with
  |some l=>rfl
  |none=>
   simp only[Option.getD_none]
   rw[h.st,h.th]
 cb j:=by
  show FN (Mh P.cb c.cb) j=cE R1.st j
  rw[<-hs.cb]
  unfold FN
  rw[pJ _ _ hs.nk.2.1]
  cases aR c.cb j<;>rfl
 imp g:=by
  show aR (Mh P.imp c.imp) g=zo R1.fl g
  rw[pJ _ _ hs.nk.2.2,<-hs.imp];rfl
 step f hf:=by
  have:=(hG.Rc f hf).2.2.2.2.1
  simp only[abU,List.length_singleton]
  rw[h1.2]at this
  omega
 Zx:=by
  have:=h.Zx
  simp only[abU,List.length_singleton];omega
 sps x hx:=by
  rcases abQ.1 hx with hx|hx
  ·exact h.sps x hx
  ·rw[abN]at hx;subst hx
   exact⟨by have:=hm.1;simp only[gU];omega,hm.2⟩
 now:=by rw[Gd];have:=h.now;simp only[gU];omega
variable [bG]
theorem Qc(hS:nU){P:PL}{R:RL}{s:dW}(h:Inv P R)(hl:R.fl.length+s.mv.length<=160)(hm:∀m∈s.mv,Ap R.sh s m):∀n,n<=s.mv.length->∃cN:Nat->Ch,(∀i,i<=n->(cI R s i).1=0->tC P s (Km P s cN i) (cI R s i).2)/\
 ∀i m,i<n->s.mv[i]?=some m->(cI R s i).1=0->ar Tryz.prog 81 [.ptr 0 0,cY (ak m)] 14 (fg 0 0 P (Km P s cN i)) 0 [.dv (I (cI R s (i+1)).1)] (fg 1 1 P (cN i))
 |0,_=>⟨fun _=>ch0 P s,fun i hi _=>by
  have:i=0:=by omega
  subst this;exact h.aaW s,fun i m hi=>absurd hi (Nat.not_lt_zero _)⟩
 |n+1,hn=>by
  obtain⟨cN,h1,h2⟩:=Qc hS h hl hm n (by omega)
  by_cases h0:(cI R s n).1=0
  ·obtain⟨m,hx⟩:∃m,s.mv[n]?=some m:=⟨_,aaj (show n<s.mv.length by omega)⟩
   have hg:=nY h.nX hl hm n
   obtain⟨c',hc,hs⟩:=P8 hS (h1 n (acb _) h0) hg.1 (by omega) (by rw[(rY R s n).2];exact hm m (abK hx))
   have Zt:∀i,i<=n->Km P s (fun i=>if i=n then c' else cN i) i=Km P s cN i:=fun i hi=>by
    cases i with
    |zero=>rfl
    |succ i=>exact if_neg (by omega)
   have Ic:Km P s (fun i=>if i=n then c' else cN i) (n+1)=c':=if_pos rfl
   refine⟨fun i=>if i=n then c' else cN i,fun i hi BA=>?_,fun i m' hi Ac BA=>?_⟩
   ·by_cases e:i=n+1
    ·subst e
     rw[Ic,jR hx h0]
     rw[jR hx h0]at BA
     exact hs BA
    ·rw[Zt i (by omega)];exact h1 i (by omega) BA
   ·rw[Zt i (by omega)]
    by_cases e:i=n
    ·subst e
     rw[hx]at Ac;injection Ac with Ac;subst Ac
     rw[jR hx h0];simp only[if_pos];exact hc
    ·simp only[if_neg e];exact h2 i m' (by omega) Ac BA
  ·refine⟨cN,fun i hi BA=>?_,fun i m hi hx BA=>?_⟩
   ·by_cases e:i=n+1
    ·subst e;exact absurd (tD (Nat.le_succ n) BA) h0
    ·exact h1 i (by omega) BA
   ·by_cases e:i=n
    ·subst e;exact absurd BA h0
    ·exact h2 i m (by omega) hx BA
def tE(R:RL)(s:dW):Int:=bif iM (dS R.sp) s then(cI R s s.mv.length).1 else 1
def GN(R:RL)(s:dW):RL:={ (cI R s s.mv.length).2 with sp:=R.sp++[gU R s] }
end
section
open Go.TM Go.RowKit
theorem pK(a:Nat)(ha:a<18446744073709551616):bits .and .u64 (a:Int) 4294967295=((a%4294967296:Nat):Int):=by
 have h:=bits_and_u64_nat a 4294967295 ha (by omega)
 have e:a &&& 4294967295=a%4294967296:=Nat.and_two_pow_sub_one_eq_mod a 32
 rw[e]at h
 exact h
theorem Dv(a:Nat):(a:Int)/4294967296=((a/4294967296:Nat):Int):=by omega
theorem tF(a b:Nat):(a:Int)*(b:Int)=((a*b:Nat):Int):=(Int.natCast_mul a b).symm
theorem xf(a b:Nat):(a:Int)+(b:Int)=((a+b:Nat):Int):=(Int.natCast_add a b).symm
theorem cC(a:Nat)(ha:a<18446744073709551616):IntKind.u64.wrap (a:Int)=(a:Int):=by rw[IntKind.wrap_u64];omega
theorem BO(a:Nat):IntKind.u64.wrap (a:Int)=((a%18446744073709551616:Nat):Int):=by rw[IntKind.wrap_u64];omega
theorem Ge(x y:Nat)(hx:x<18446744073709551616)(hy:y<18446744073709551616)(w:World):
 Calls Tryz.prog 239 #[.int .u64 x,.int .u64 y] w fun e w'=>e=.returned (.tuple #[.int .u64 ((x*y/18446744073709551616:Nat):Int),.int .u64 ((x*y%18446744073709551616:Nat):Int)])/\w'=w:=by
 obtain⟨bd,bt,bw,D7⟩:=Lib.mul64_hi x y hx hy
 have ba:=Lib.half_mul_le (a:=x/4294967296) (b:=y/4294967296) (by omega) (by omega)
 have bb:=Lib.half_mul_le (a:=x/4294967296) (b:=y%4294967296) (by omega) (by omega)
 have bc:=Lib.half_mul_le (a:=x%4294967296) (b:=y/4294967296) (by omega) (by omega)
 have ba':x/4294967296*(y/4294967296)<18446744073709551616:=by omega
 have bb':x/4294967296*(y%4294967296)<18446744073709551616:=by omega
 have bc':x%4294967296*(y/4294967296)<18446744073709551616:=by omega
 have bh1:x/4294967296*(y/4294967296)+(x/4294967296*(y%4294967296)+x%4294967296*(y%4294967296)/4294967296)/4294967296<18446744073709551616:=by omega
 have bh:x/4294967296*(y/4294967296)+(x/4294967296*(y%4294967296)+x%4294967296*(y%4294967296)/4294967296)/4294967296+((x/4294967296*(y%4294967296)+x%4294967296*(y%4294967296)/4294967296)%4294967296+x%4294967296*(y/4294967296))/4294967296<18446744073709551616:=by omega
 go_enter Tryz.func239,Tryz.ntmps239
 go_wp2
 simp only[pK x hx,pK y hy,Dv,tF,xf,cC _ bd,cC _ bb',cC _ bt,pK _ bt,cC _ bc',cC _ bw,cC _ ba',cC _ bh1,cC _ bh,BO (x*y)]
 rw[D7]
 go_ret2
 exact⟨rfl,rfl⟩
variable [bG]
abbrev U(n:Nat):DV:=.int .u64 (n:Int)
theorem IF(x y:Nat)(hx:x<18446744073709551616)(hy:y<18446744073709551616):aI Tryz.prog 239 [U x,U y] [U (x*y/18446744073709551616),U (x*y%18446744073709551616)]:=by
 refine⟨⟨_,Tryz.func239,by kernel_rfl,rfl⟩,fun w M vs dX nF hr=>?_⟩
 obtain⟨v0,v1,rfl⟩:∃v0 v1,vs=[v0,v1]:=by
  match vs,hr.1 with
  |[a,b],_=>exact⟨a,b,rfl⟩
 have h0:=hr.2 0 _ v0 rfl rfl
 have h1:=hr.2 1 _ v1 rfl rfl
 cases h0 with|int=>cases h1 with|int=>
 refine(Ge x y hx hy w).mono ?_
 rintro e w' ⟨rfl,rfl⟩
 exact⟨_,M,rfl,Below.refl _ _,Mem.Le.refl _,dX,fun _ _=>rfl,[_,_],rfl,.cons (.int _ _) (.cons (.int _ _) (.nil _))⟩
theorem IG(x y:Nat)(hx:x<18446744073709551616)(hy:0<y)(hy2:y<18446744073709551616):aI Tryz.prog 240 [U 0,U x,U y] [U (x/y),U (x%y)]:=by
 refine Ez gy mixed (eW _) (fB _) Tryz.func240 rfl (by kernel_rfl) rfl ?_
 have h0:¬(y:Int)=0:=by omega
 refine⟨fun h=>absurd (eq_of_beq h) h0,fun _=>⟨fun h=>absurd (abY h) (by show¬(y:Int)<=0;omega),fun _=>⟨fun _=>?_,fun h=>by cases h⟩⟩⟩
 refine⟨fun _=>h0,fun _=>h0,by kernel_rfl,aF ?_,aF ?_,tv⟩
 ·rw[<-Int.ofNat_tdiv]
  exact cC _ (Nat.lt_of_le_of_lt (Nat.div_le_self x y) hx)
 ·exact(Int.ofNat_tmod x y).symm
end
section
theorem Qd{b q r x z u:Nat}(hi:q*x+r=u):q*(x*b+z)+b*r=u*b+q*z:=by
 subst hi
 rw[Nat.mul_add,Nat.add_mul,Nat.mul_assoc,Nat.mul_comm b r];omega
theorem Kp{b q r x z u d:Nat}(hi:q*x+r=u)(h:q*z<=b*r+d):q*(x*b+z)<=u*b+d:=by
 have:=Qd (b:=b) (z:=z) hi
 omega
theorem Zy{b q r x z u d:Nat}(hi:q*x+r=u)(h:b*r+d<q*z):u*b+d<q*(x*b+z):=by
 have:=Qd (b:=b) (z:=z) hi
 omega
theorem Wq{b q u d y:Nat}(hu:u<y)(hd:d<b)(hq:b<=q):u*b+d<q*y:=by
 have h1:(u+1)*b<=y*b:=acd b hu
 have h2:y*b<=y*q:=Nat.mul_le_mul_left y hq
 rw[Nat.add_mul,Nat.one_mul]at h1
 rw[Nat.mul_comm q y]
 omega
theorem Wr{b q r x z u d:Nat}(hi:q*x+r=u)(hr:b<=r)(hu:u<x*b+z)(hz:z<b):q*z<=b*r+d:=by
 have h1:q*x<b*x:=by rw[Nat.mul_comm b x];omega
 have h2:q<b:=Nat.lt_of_mul_lt_mul_right h1
 have h3:q*z<=b*z:=acd z (by omega)
 have h4:b*z<=b*r:=Nat.mul_le_mul_left b (by omega)
 omega
theorem Qe{b q x z u d:Nat}(h:q*(x*b+z)<=u*b+d)(h2:(u*b+d)/(x*b+z)<=q)(hy:0<x*b+z):q=(u*b+d)/(x*b+z):=
 Nat.le_antisymm ((Nat.le_div_iff_mul_le hy).2 h) h2
theorem Qf{q U y:Nat}(hy:0<y)(h:U<q*y):U/y<=q-1:=by
 have:U/y<q:=(Nat.div_lt_iff_lt_mul hy).2 h
 omega
theorem Qg{b x z u d:Nat}(hx:0<x)(hd:d<b):(u*b+d)/(x*b+z)<=u/x:=by
 have hb:0<b:=by omega
 have h1:u<(u/x+1)*x:=by
  have:=Nat.div_add_mod u x
  have:=Nat.mod_lt u hx
  rw[Nat.add_mul,Nat.one_mul,Nat.mul_comm (u/x) x];omega
 have h2:(u*b+d)<(u/x+1)*(x*b+z):=by
  have h3:(u+1)*b<=((u/x+1)*x)*b:=acd b h1
  rw[Nat.mul_add,<-Nat.mul_assoc]
  rw[Nat.add_mul,Nat.one_mul]at h3
  omega
 have h4:0<x*b+z:=by have:=Nat.mul_pos hx hb;omega
 have:=(Nat.div_lt_iff_lt_mul h4).2 h2
 omega
theorem Ws{b y w u:Nat}(hy:0<y):(w*b+u)/y=w/y*b+(w%y*b+u)/y/\(w*b+u)%y=(w%y*b+u)%y:=by
 have h:w*b+u=(w%y*b+u)+y*(w/y*b):=by
  have h1:=Nat.div_add_mod w y
  have h2:w*b=(y*(w/y))*b+w%y*b:=by rw[<-Nat.add_mul,h1]
  rw[h2,Nat.mul_assoc];omega
 rw[h,Nat.add_mul_div_left _ _ hy,Nat.add_mul_mod_self_left]
 exact⟨by omega,rfl⟩
theorem Qh{U y k:Nat}(hk:0<k):U*k/(y*k)=U/y/\U*k%(y*k)/k=U%y:=by
 rw[Nat.mul_div_mul_right _ _ hk,Nat.mul_mod_mul_right]
 exact⟨rfl,Nat.mul_div_cancel _ hk⟩
end
end Go.Proofs.YtknnpcfhekkjjaaGreatDoor
